/- AiWL -/
import Derived.Test.YthgkkbaaedefhaaAiWI
set_option linter.unusedVariables false
set_option linter.unusedSimpArgs false
namespace Go.Ai
open Go
noncomputable section
set_option linter.unusedVariables false
variable {P : Program} {T : Types} {F : Funcs}

theorem ab_len (g : Getter) (nx t : Nat) (x : AV) : abuiltin T g nx .len [t] [x] = alen T g t x := rfl
theorem ab_cap (g : Getter) (nx t : Nat) (x : AV) : abuiltin T g nx .cap [t] [x] = acap T t x := rfl
theorem ab_append (g : Getter) (nx t u : Nat) (x y : AV) : abuiltin T g nx .append [t, u] [x, y] = aappend T g nx t u x y := rfl
theorem ab_max (g : Getter) (nx : Nat) (ts : List Nat) (k : IntKind) (a b : Int) : abuiltin T g nx .max ts [.int k a, .int k b] = some (.pure (.int k (max a b))) := by
  have h : abuiltin T g nx .max ts [.int k a, .int k b] = (mxl (.int k a) [.int k b]).map .pure := by cases ts <;> rfl
  rw [h]
  simp only [mxl, decide_true, cond_true, Option.map_some]
  congr 3
  by_cases hh : b > a
  · rw [decide_eq_true hh]; simp only [cond_true]; omega
  · rw [decide_eq_false hh]; simp only [cond_false]; omega
theorem ab_min (g : Getter) (nx : Nat) (ts : List Nat) (k : IntKind) (a b : Int) : abuiltin T g nx .min ts [.int k a, .int k b] = some (.pure (.int k (min a b))) := by
  have h : abuiltin T g nx .min ts [.int k a, .int k b] = (mnl (.int k a) [.int k b]).map .pure := by cases ts <;> rfl
  rw [h]
  simp only [mnl, decide_true, cond_true, Option.map_some]
  congr 3
  by_cases hh : b < a
  · rw [decide_eq_true hh]; simp only [cond_true]; omega
  · rw [decide_eq_false hh]; simp only [cond_false]; omega

theorem elem_get {t : Nat} (h : (T.elem t).isSome = true) : ∃ ti e, T.get t = some ti ∧ ti.k = .slice e := by
  unfold Types.elem at h
  cases hg : T.get t with
  | none => rw [hg] at h; cases h
  | some ti =>
    rw [hg] at h
    dsimp only at h
    cases hk : ti.k <;> rw [hk] at h <;> first | (cases h; done) | exact ⟨ti, _, rfl, hk⟩
theorem alen_slice (g : Getter) (t b o l c : Nat) (x : Bool) (h : (T.elem t).isSome = true) : alen T g t (.slice b o l c x) = some (.pure (.int .i64 l)) := by
  obtain ⟨ti, e, h1, h2⟩ := elem_get h
  unfold alen; rw [h1]; dsimp only; rw [h2]
theorem alen_nils (g : Getter) (t : Nat) (h : (T.elem t).isSome = true) : alen T g t .nils = some (.pure (.int .i64 0)) := by
  obtain ⟨ti, e, h1, h2⟩ := elem_get h
  unfold alen; rw [h1]; dsimp only; rw [h2]
def oix (b o : Nat) (i : Int) (ei : Option TI) : Option Out := match ei with | some ei => some (.pure (.ptr b (o + i.toNat * ei.size))) | none => none
theorem oix_some (b o : Nat) (i : Int) (ei : TI) : oix b o i (some ei) = some (.pure (.ptr b (o + i.toNat * ei.size))) := rfl
theorem aindexAddr_slice (t b o l c : Nat) (x : Bool) (k : IntKind) (i : Int) (h : 0 ≤ i ∧ i < (l : Int)) : aindexAddr T t (.slice b o l c x) (.int k i) = oix b o i (T.elem t) := by
  unfold aindexAddr inRange oix
  dsimp only
  rw [decide_eq_true h.1, decide_eq_true h.2]
  cases T.elem t <;> rfl
theorem aindexAddr_ptr (t b o : Nat) (k : IntKind) (i : Int) (n : Nat) (ei : TI) (ha : T.arr t = some (n, ei)) (h : 0 ≤ i ∧ i < (n : Int)) : aindexAddr T t (.ptr b o) (.int k i) = some (.pure (.ptr b (o + i.toNat * ei.size))) := by
  unfold aindexAddr inRange
  dsimp only
  rw [ha]
  dsimp only
  rw [decide_eq_true h.1, decide_eq_true h.2]
  rfl

def oan2 (nx : Nat) (ei : TI) (q : Option (Nat × List AV × List Nat)) : Option Out := match q with
  | some q => if q.2.1.all AV.isCell = true then (if q.1 = 0 then some (.pure .nils) else if q.1 ≤ 2147483648 then some ⟨.slice nx 0 q.1 q.1 false, q.2.2, [], [.cells true ei.size q.2.1]⟩ else none) else none
  | none => none
theorem oan2_some (nx : Nat) (ei : TI) (q : Nat × List AV × List Nat) : oan2 nx ei (some q) = if q.2.1.all AV.isCell = true then (if q.1 = 0 then some (.pure .nils) else if q.1 ≤ 2147483648 then some ⟨.slice nx 0 q.1 q.1 false, q.2.2, [], [.cells true ei.size q.2.1]⟩ else none) else none := rfl
def oan (g : Getter) (nx : Nat) (s : AV) (ei tj : Option TI) : Option Out := match ei, tj with
  | some ei, some _ => if ei.okElem = true then oan2 nx ei (srcCells g ei.size s) else none
  | _, _ => none
theorem oan_some (g : Getter) (nx : Nat) (s : AV) (ei tj : TI) : oan g nx s (some ei) (some tj) = if ei.okElem = true then oan2 nx ei (srcCells g ei.size s) else none := rfl
theorem aappend_nils (g : Getter) (nx ts tx : Nat) (s : AV) : aappend T g nx ts tx .nils s = oan g nx s (T.elem ts) (T.elem tx) := by
  unfold aappend oan
  cases T.elem ts with
  | none => rfl
  | some ei =>
    cases T.elem tx with
    | none => rfl
    | some _ =>
      dsimp only
      cases ei.okElem with
      | false => rfl
      | true =>
        simp only [Bool.not_true, cond_false, if_true, oan2]
        cases srcCells g ei.size s with
        | none => rfl
        | some q =>
          obtain ⟨n, xs, rd⟩ := q
          dsimp only
          cases xs.all AV.isCell with
          | false => simp
          | true =>
            simp only [Bool.not_true, cond_false, if_true, nbeq, nble, small]
            by_cases h : n = 0
            · rw [decide_eq_true h, if_pos h]; rfl
            · rw [decide_eq_false h, if_neg h]
              simp only [cond_false]
              by_cases h2 : n ≤ 2147483648
              · rw [decide_eq_true (show n ≤ 2 ^ 31 by simpa using h2), if_pos h2]; rfl
              · rw [decide_eq_false (show ¬ n ≤ 2 ^ 31 by simpa using h2), if_neg h2]; rfl

theorem cut_all {vs : List AV} {n : Nat} (h : vs.length = n) : cut vs 0 n = some vs := by
  unfold cut; rw [bleT.2 (by omega)]; simp [← h]

/-- One more element in a slice of one's own that is full. -/
theorem aappend_own (g : Getter) (nx ts tx b l : Nat) (s : AV) {ei tj : TI} (h1 : T.elem ts = some ei) (h2 : T.elem tx = some tj) (hok : ei.okElem = true) {n : Nat} {xs : List AV} {rd : List Nat} (hs : srcCells g ei.size s = some (n, xs, rd)) (hc : xs.all AV.isCell = true)
    {vs : List AV} (hg : g b = some (.cells true ei.size vs)) (hv : vs.length = l * ei.size) (hvc : vs.all AV.isCell = true) (hl : 0 < l) (hn : 0 < n) (hm : l + n ≤ 2147483648) :
    aappend T g nx ts tx (.slice b 0 l l false) s = some ⟨.slice nx 0 (l + n) (l + n) false, b :: rd, [(b, .dead)], [.cells true ei.size (vs ++ xs)]⟩ := by
  unfold aappend
  rw [h1, h2]
  dsimp only
  rw [hok, hs]
  simp only [Bool.not_true, cond_false]
  rw [hc]
  simp only [Bool.not_true, cond_false, Bool.false_and, nbeq, nble, nblt, small, hg]
  rw [decide_eq_false (show ¬ n = 0 by omega), decide_eq_true (show l + n ≤ 2 ^ 31 by simpa using hm), decide_eq_false (show ¬ l + n ≤ l by omega), decide_eq_false (show ¬ l = 0 by omega)]
  simp only [cond_false, Bool.not_true, cut_all hv, hvc, hv, decide_true, Bool.and_self, cond_true]

def osc2 (l b : Nat) (xs : Option (List AV)) : Option (Nat × List AV × List Nat) := match xs with | some xs => some (l, xs, [b]) | none => none
theorem osc2_some (l b : Nat) (xs : List AV) : osc2 l b (some xs) = some (l, xs, [b]) := rfl
def osc (l b o size : Nat) (vs : Option (List AV)) : Option (Nat × List AV × List Nat) := match vs with | some vs => osc2 l b (cut vs o (l * size)) | none => none
theorem osc_some (l b o size : Nat) (vs : List AV) : osc l b o size (some vs) = osc2 l b (cut vs o (l * size)) := rfl
theorem srcCells_slice (g : Getter) (size b o l c : Nat) (x : Bool) : srcCells g size (.slice b o l c x) = if l = 0 then some (0, [], []) else osc l b o size (gcells (g b)) := by
  unfold srcCells osc osc2
  simp only [nbeq]
  by_cases h : l = 0
  · rw [decide_eq_true h, if_pos h]; rfl
  · rw [decide_eq_false h, if_neg h]
    simp only [cond_false]
    generalize g b = y
    cases y with
    | none => rfl
    | some o' => cases o' with
      | cells a e vs => simp only [gcells]; cases cut vs o (l * size) <;> rfl
      | _ => rfl
def gall : Option AO → Option (Bool × Nat × List AV)
  | some (.cells a b c) => some (a, b, c)
  | _ => none
theorem gall_some (a : Bool) (b : Nat) (c : List AV) : gall (some (.cells a b c)) = some (a, b, c) := rfl
def oap5 (b : Nat) (l n c es : Nat) (rd : List Nat) (x : Option (List AV)) : Option Out := match x with
  | some vs' => some ⟨.slice b 0 (l + n) c false, b :: rd, [(b, .cells true es vs')], []⟩
  | none => none
theorem oap5_some (b l n c es : Nat) (rd : List Nat) (vs' : List AV) : oap5 b l n c es rd (some vs') = some ⟨.slice b 0 (l + n) c false, b :: rd, [(b, .cells true es vs')], []⟩ := rfl
def oap4 (nx b l n size es : Nat) (own : Bool) (rd : List Nat) (xs : List AV) (x : Option (List AV)) : Option Out := match x with
  | some old => if old.all AV.isCell = true ∧ old.length = l * size ∧ own = true ∧ es = size then some ⟨.slice nx 0 (l + n) (l + n) false, b :: rd, [(b, .dead)], [.cells true size (old ++ xs)]⟩ else none
  | none => none
theorem oap4_some (nx b l n size es : Nat) (own : Bool) (rd : List Nat) (xs old : List AV) : oap4 nx b l n size es own rd xs (some old) = if old.all AV.isCell = true ∧ old.length = l * size ∧ own = true ∧ es = size then some ⟨.slice nx 0 (l + n) (l + n) false, b :: rd, [(b, .dead)], [.cells true size (old ++ xs)]⟩ else none := rfl
def oap3 (nx b l size : Nat) (p : Option (Bool × Nat × List AV)) (q : Option (Nat × List AV × List Nat)) : Option Out := match p, q with
  | some p, some q => if q.2.1.all AV.isCell = true ∧ 0 < q.1 ∧ 0 < l ∧ l + q.1 ≤ 2147483648 then oap4 nx b l q.1 size p.2.1 p.1 q.2.2 q.2.1 (cut p.2.2 0 (l * size)) else none
  | _, _ => none
theorem oap3_some (nx b l size : Nat) (p : Bool × Nat × List AV) (q : Nat × List AV × List Nat) : oap3 nx b l size (some p) (some q) = if q.2.1.all AV.isCell = true ∧ 0 < q.1 ∧ 0 < l ∧ l + q.1 ≤ 2147483648 then oap4 nx b l q.1 size p.2.1 p.1 q.2.2 q.2.1 (cut p.2.2 0 (l * size)) else none := rfl
def oap (g : Getter) (nx b l : Nat) (s : AV) (ei tj : Option TI) : Option Out := match ei, tj with
  | some ei, some _ => if ei.okElem = true then oap3 nx b l ei.size (gall (g b)) (srcCells g ei.size s) else none
  | _, _ => none
theorem oap_some (g : Getter) (nx b l : Nat) (s : AV) (ei tj : TI) : oap g nx b l s (some ei) (some tj) = if ei.okElem = true then oap3 nx b l ei.size (gall (g b)) (srcCells g ei.size s) else none := rfl
/-- More elements in a slice of one's own that is full: the walk's own form, which says less than the interpreter does. -/
theorem oap_sound {g : Getter} {nx ts tx b l : Nat} {s : AV} {out : Out} (h : oap g nx b l s (T.elem ts) (T.elem tx) = some out) : aappend T g nx ts tx (.slice b 0 l l false) s = some out := by
  unfold oap at h
  split at h
  · rename_i ei tj h1 h2
    split at h
    · rename_i hok
      unfold oap3 at h
      split at h
      · rename_i p q h3 h4
        split at h
        · rename_i hc
          obtain ⟨own, es, vs⟩ := p
          obtain ⟨n, xs, rd⟩ := q
          obtain ⟨c1, c2, c3, c4⟩ := hc
          simp only at c1 c2 c3 c4 h
          unfold oap4 at h
          split at h
          · rename_i old hcut
            split at h
            · rename_i hd
              obtain ⟨d1, d2, d3, d4⟩ := hd
              subst d3
              subst d4
              have hg : g b = some (.cells true ei.size vs) := by
                unfold gall at h3
                split at h3
                · rename_i a' b' c' hx
                  injection h3 with h3; injection h3 with e1 h3; injection h3 with e2 e3
                  rw [hx, e1, e2, e3]
                · cases h3
              unfold aappend
              rw [h1, h2]
              dsimp only
              rw [hok, h4]
              simp only [Bool.not_true, cond_false]
              rw [c1]
              simp only [Bool.not_true, cond_false, Bool.false_and, nbeq, nble, nblt, small, hg]
              rw [decide_eq_false (show ¬ n = 0 by omega), decide_eq_true (show l + n ≤ 2 ^ 31 by simpa using c4), decide_eq_false (show ¬ l + n ≤ l by omega), decide_eq_false (show ¬ l = 0 by omega)]
              simp only [cond_false, Bool.not_true, hcut, d1, d2, decide_true, Bool.and_self, cond_true]
              exact h
            · cases h
          · cases h
        · cases h
      · cases h
    · cases h
  · cases h

theorem wout_append {tr : Option Trk} {nd : Bool} {hb : HV} {n : Nat} {dst : Option Nat} {g : Getter} {nx ts tx b l : Nat} {x : AV} {r : List SOp} {s : St} {Q : Option AV → St → Prop} (h : wout P T tr nd hb n dst (oap g nx b l x (T.elem ts) (T.elem tx)) r s Q) : wout P T tr nd hb n dst (aappend T g nx ts tx (.slice b 0 l l false) x) r s Q := by
  cases ho : oap g nx b l x (T.elem ts) (T.elem tx) with
  | none => rw [ho] at h; exact h.elim
  | some out => rw [oap_sound ho]; rw [ho] at h; exact h
theorem srcCells_nils (g : Getter) (size : Nat) : srcCells g size .nils = some (0, [], []) := rfl
theorem okElem_eq (ti : TI) : ti.okElem = (decide (0 < ti.size) && decide (ti.bytes ≤ 65536) && (match ti.zero.cells? with | some z => decide (z.length = ti.size) | none => false)) := by
  unfold TI.okElem
  simp only [nblt, nble]
  congr 1
  cases ti.zero.cells? with
  | none => rfl
  | some z => exact nbeq _ _

theorem eqCells_nil : eqCells [] [] [] = some true := rfl
theorem eqCells_int (q : IntKind) (ks : List (Option IntKind)) (a b : Int) (l r : List AV) : eqCells (some q :: ks) (.int q a :: l) (.int q b :: r) = if a = b then eqCells ks l r else some false := by
  simp only [eqCells, eqCell, decide_true, Bool.and_self, cond_true]
  by_cases h : a = b
  · subst h; simp
  · rw [if_neg h, show (a == b) = false by simpa using h]
theorem eqop_eql (b : Bool) : eqop .eql b = some (.bool b) := rfl
theorem eqop_neq (b : Bool) : eqop .neq b = some (.bool !b) := rfl
def oeqop (op : BinOp) (x : Option Bool) : Option AV := match x with | some b => eqop op b | none => none
theorem oeqop_some (op : BinOp) (b : Bool) : oeqop op (some b) = eqop op b := rfl
def oag2 (op : BinOp) (xs ys : List AV) (ks : Option (List (Option IntKind))) : Option AV := match ks with | some ks => oeqop op (eqCells ks xs ys) | none => none
theorem oag2_some (op : BinOp) (xs ys : List AV) (ks : List (Option IntKind)) : oag2 op xs ys (some ks) = oeqop op (eqCells ks xs ys) := rfl
def oag1 (op : BinOp) (xs ys : List AV) (ti : Option TI) : Option AV := match ti with | some ti => oag2 op xs ys ti.plain | none => none
theorem oag1_some (op : BinOp) (xs ys : List AV) (ti : TI) : oag1 op xs ys (some ti) = oag2 op xs ys ti.plain := rfl
theorem abin_agg (op : BinOp) (t : Nat) (xs ys : List AV) (cx cy : Bool) : abin T op t (.agg xs) (.agg ys) cx cy = oag1 op xs ys (T.get t) := by
  unfold abin oag1 oag2 oeqop
  cases T.get t with
  | none => rfl
  | some ti =>
    dsimp only
    cases ti.plain with
    | none => rfl
    | some ks => dsimp only; cases eqCells ks xs ys <;> rfl
def obb (op : BinOp) (a b : Bool) (ti : Option TI) : Option AV := match ti with | some ti => (match ti.k with | .bool => eqop op (a == b) | _ => none) | none => none
theorem obb_bool (op : BinOp) (a b : Bool) (x y : Nat) (z : AV) (m : List (String × Nat × Option Nat)) (p : Option (List (Option IntKind))) : obb op a b (some ⟨.bool, x, y, z, m, p⟩) = eqop op (a == b) := rfl
theorem abin_bool (op : BinOp) (t : Nat) (a b : Bool) (cx cy : Bool) : abin T op t (.bool a) (.bool b) cx cy = obb op a b (T.get t) := by
  unfold abin obb
  cases T.get t <;> rfl
theorem part_cell {ti : TI} {l : List AV} {o : Nat} (h : ti.k.isAgg = false) : part ti l o = l[o]? := by
  unfold part
  cases hk : ti.k <;> rw [hk] at h <;> first | rfl | cases h
def oca (x : Option (List AV)) : Option AV := match x with | some l => some (.agg l) | none => none
theorem oca_some (l : List AV) : oca (some l) = some (.agg l) := rfl
theorem part_agg' {ti : TI} {l : List AV} {o : Nat} (h : ti.k.isAgg = true) : part ti l o = oca (cut l o ti.size) := by
  unfold part
  cases hk : ti.k <;> rw [hk] at h <;> first | (cases cut l o ti.size <;> rfl) | cases h
section
variable (a b : Nat) (z : AV) (m : List (String × Nat × Option Nat)) (p : Option (List (Option IntKind))) (l : List AV) (o : Nat)
theorem part_int (k : IntKind) : part ⟨.int k, a, b, z, m, p⟩ l o = l[o]? := rfl
theorem part_bool : part ⟨.bool, a, b, z, m, p⟩ l o = l[o]? := rfl
theorem part_ptr (e : Nat) : part ⟨.ptr e, a, b, z, m, p⟩ l o = l[o]? := rfl
theorem part_slice (e : Nat) : part ⟨.slice e, a, b, z, m, p⟩ l o = l[o]? := rfl
theorem part_map (k e : Nat) : part ⟨.map k e, a, b, z, m, p⟩ l o = l[o]? := rfl
theorem part_iface (e : Bool) : part ⟨.iface e, a, b, z, m, p⟩ l o = l[o]? := rfl
theorem part_func : part ⟨.func, a, b, z, m, p⟩ l o = l[o]? := rfl
theorem part_struct (fs : List (Nat × Nat)) : part ⟨.struct fs, a, b, z, m, p⟩ l o = oca (cut l o a) := part_agg' rfl
theorem part_array (n e : Nat) : part ⟨.array n e, a, b, z, m, p⟩ l o = oca (cut l o a) := part_agg' rfl
end
theorem isAgg_struct (fs : List (Nat × Nat)) : TK.isAgg (.struct fs) = true := rfl
theorem isAgg_array (n e : Nat) : TK.isAgg (.array n e) = true := rfl
theorem isAgg_int (k : IntKind) : TK.isAgg (.int k) = false := rfl
theorem isAgg_bool : TK.isAgg .bool = false := rfl
theorem isAgg_ptr (e : Nat) : TK.isAgg (.ptr e) = false := rfl
theorem isAgg_slice (e : Nat) : TK.isAgg (.slice e) = false := rfl
theorem isAgg_map (k e : Nat) : TK.isAgg (.map k e) = false := rfl
theorem isAgg_iface (b : Bool) : TK.isAgg (.iface b) = false := rfl
theorem isAgg_func : TK.isAgg .func = false := rfl
attribute [go_sem] gall_some oap5_some oap4_some oap3_some oap_some Int.cast_ofNat_Int Int.natCast_zero Int.natCast_one ab_len ab_cap ab_append ab_max ab_min part_int part_bool part_ptr part_slice part_map part_iface part_func part_struct part_array oca_some oix_some aindexAddr_slice oan_some oan2_some aappend_nils osc_some osc2_some srcCells_slice srcCells_nils okElem_eq eqCells_nil eqCells_int eqop_eql eqop_neq oeqop_some oag1_some oag2_some abin_agg obb_bool abin_bool Option.isSome_some Int.reduceToNat Nat.zero_mul Nat.zero_add Int.reduceLT Int.reduceLE Int.reduceAdd Int.reduceSub Int.reduceMul Int.reduceNeg Int.reduceEq

end
end Go.Ai
