/- AiWI -/
import Derived.Test.YthgkkbaaedefhaaAiWH
import Derived.Attr
import Derived.IntWalk
set_option linter.unusedVariables false
set_option linter.unusedSimpArgs false
namespace Go.Ai
open Go
noncomputable section
set_option linter.unusedVariables false
variable {P : Program} {T : Types} {F : Funcs} {rA : Option Nat} {hb : HV} {n : Nat} {s : St}

/-! ### code -/
def wogO (P : Program) (T : Types) (tr : Option Trk) (nd : Bool) (hb : HV) (n : Nat) (x : Option (List SOp)) (s : St) (Q : Option AV → St → Prop) : Prop :=
  match x with
  | some l => wog P T tr nd hb n l s Q
  | none => False
@[congr] theorem wogO_congr {tr : Option Trk} {nd : Bool} {x y : Option (List SOp)} {s s' : St} {Q : Option AV → St → Prop} (h : x = y) (h2 : s = s') : wogO P T tr nd hb n x s Q = wogO P T tr nd hb n y s' Q := by rw [h, h2]
theorem wogO_some {tr : Option Trk} {nd : Bool} {l : List SOp} {Q : Option AV → St → Prop} : wogO P T tr nd hb n (some l) s Q = wog P T tr nd hb n l s Q := rfl

/-- 'Q' of how a region is left. -/
def rgq (Q : AX → St → Prop) (p : Option AV) (s : St) : Prop := Q (axOf p) s
theorem rgq_none {Q : AX → St → Prop} : rgq Q none s = Q .normal s := rfl
theorem rgq_some {Q : AX → St → Prop} {v : AV} : rgq Q (some v) s = Q (.panic v) s := rfl

/-- Of the slots those of 'keep'. -/
def gko (i : Nat) (x : Option AV) (r : List (Nat × AV)) : List (Nat × AV) := match x with | some v => (i, v) :: r | none => r
theorem gko_some (i : Nat) (v : AV) (r : List (Nat × AV)) : gko i (some v) r = (i, v) :: r := rfl
theorem gko_none (i : Nat) (r : List (Nat × AV)) : gko i none r = r := rfl
def gk (l : List (Nat × AV)) : List Nat → List (Nat × AV)
  | [] => []
  | i :: k => gko i (lk l i) (gk l k)
theorem gk_nil (l : List (Nat × AV)) : gk l [] = [] := rfl
theorem gk_cons (l : List (Nat × AV)) (i : Nat) (k : List Nat) : gk l (i :: k) = gko i (lk l i) (gk l k) := rfl
theorem gk_mem {l : List (Nat × AV)} : ∀ {k : List Nat} {p : Nat × AV}, p ∈ gk l k → lk l p.1 = some p.2
  | [], p, h => by cases h
  | i :: k, p, h => by
    simp only [gk] at h
    cases hl : lk l i with
    | none => rw [hl] at h; exact gk_mem h
    | some v =>
      rw [hl] at h
      rcases List.mem_cons.1 h with rfl | h
      · exact hl
      · exact gk_mem h
theorem W_keep {c : Code} {Q : AX → St → Prop} (keep : List Nat) (h : W P T rA hb n c ⟨gk s.l keep, s.ds, s.us, s.ns⟩ Q) : W P T rA hb n c s Q := by
  intro hl rnd d a w β hh hr q Qm post
  refine h hl rnd d a w β hh hr ⟨q.now, ER_sub q.env fun p hp => ⟨p.2, gk_mem hp, fun _ h => h⟩, q.dfs, q.base⟩ Qm post

theorem W_reg (hT : TOk P T F) (keep : List Nat) {id : Nat} {ops : Array Oper} {Q : AX → St → Prop} (h : ∀ Q', Q' = Q → wogO P T none rA.isNone hb n (strip ops.toList ops.toList) ⟨gk s.l keep, s.ds, s.us, s.ns⟩ (rgq Q')) : W P T rA hb n (.region id ops false) s Q := by
  refine W_keep keep ?_
  have h := h Q rfl
  cases hs : strip ops.toList ops.toList with
  | none => rw [hs] at h; exact h.elim
  | some l => rw [hs] at h; exact W_region hs hT (wog_wops h)
theorem W_regD (hT : TOk P T F) (keep : List Nat) {id : Nat} {ops : Array Oper} {Q : AX → St → Prop} (ms : List Nat) (frs : List (List Nat)) (hf : frees ops.toList = some (ms, frs)) (hl : (strip ops.toList ops.toList).all (fun l => Nat.ble l.length frs.length) = true) (h : ∀ Q', Q' = Q → wogO P T (some ⟨ms, frs, 0, []⟩) rA.isNone hb n (strip ops.toList ops.toList) ⟨gk s.l keep, s.ds, s.us, s.ns⟩ (rgq Q')) : W P T rA hb n (.region id ops true) s Q := by
  refine W_keep keep ?_
  have h := h Q rfl
  cases hs : strip ops.toList ops.toList with
  | none => rw [hs] at h; exact h.elim
  | some l => rw [hs] at h hl; exact W_regionD hf hs hT (wog_wopsD (bleT.1 hl) h)

def wcnd (P : Program) (T : Types) (rA : Option Nat) (hb : HV) (n : Nat) (x : Option AV) (a b : Code) (s : St) (Q : AX → St → Prop) : Prop := match x with
  | some (.bool t) => (t = true → W P T rA hb n a s Q) ∧ (t = false → W P T rA hb n b s Q)
  | _ => False
theorem wcnd_true (a b : Code) (Q : AX → St → Prop) : wcnd P T rA hb n (some (.bool true)) a b s Q = W P T rA hb n a s Q := by simp [wcnd]
theorem wcnd_false (a b : Code) (Q : AX → St → Prop) : wcnd P T rA hb n (some (.bool false)) a b s Q = W P T rA hb n b s Q := by simp [wcnd]
theorem wcnd_of {t : Bool} {a b : Code} {Q : AX → St → Prop} (h1 : t = true → W P T rA hb n a s Q) (h2 : t = false → W P T rA hb n b s Q) : wcnd P T rA hb n (some (.bool t)) a b s Q := ⟨h1, h2⟩
theorem W_cond' {c : Operand} {a b : Code} {Q : AX → St → Prop} (h : ∀ Q', Q' = Q → wcnd P T rA hb n (ev T (E n s.l) c) a b s Q') : W P T rA hb n (.cond c a b) s Q := by
  have h := h Q rfl
  cases he : ev T (E n s.l) c with
  | none => rw [he] at h; exact h.elim
  | some v =>
    rw [he] at h
    cases v with
    | bool t => exact W_cond he h.1 h.2
    | _ => exact h.elim

@[congr] theorem thn_congr {b : Code} {Q : AX → St → Prop} {x x' : AX} {s s' : St} (h : x = x') (h2 : s = s') : thn P T rA hb n b Q x s = thn P T rA hb n b Q x' s' := by rw [h, h2]
@[congr] theorem rgq_congr {Q : AX → St → Prop} {p p' : Option AV} {s s' : St} (h : p = p') (h2 : s = s') : rgq Q p s = rgq Q p' s' := by rw [h, h2]
@[congr] theorem blk_congr {id : Nat} {Q : AX → St → Prop} {x x' : AX} {s s' : St} (h : x = x') (h2 : s = s') : blk id Q x s = blk id Q x' s' := by rw [h, h2]
theorem thn_ret {b : Code} {Q : AX → St → Prop} : thn P T rA hb n b Q .ret s = Q .ret s := rfl
theorem thn_exit {b : Code} {Q : AX → St → Prop} {i : Nat} : thn P T rA hb n b Q (.exit i) s = Q (.exit i) s := rfl
theorem thn_panic {b : Code} {Q : AX → St → Prop} {v : AV} : thn P T rA hb n b Q (.panic v) s = Q (.panic v) s := rfl
theorem blk_panic {id : Nat} {Q : AX → St → Prop} {v : AV} : blk id Q (.panic v) s = Q (.panic v) s := rfl

/-- A loop whose state is known at each round. -/
def forq (hb : HV) (S : Nat → St) (N i : Nat) (Q : AX → St → Prop) (x : AX) (s : St) : Prop :=
  match x with
  | .normal => i < N ∧ ∃ keep sel, ndp sel = true ∧ gdOk (ta hb sel) s.ds ∧ s.gc hb keep sel = S (i + 1)
  | x => Q x s
theorem forq_normal {S : Nat → St} {N i : Nat} {Q : AX → St → Prop} : forq hb S N i Q .normal s = (i < N ∧ ∃ keep sel, ndp sel = true ∧ gdOk (ta hb sel) s.ds ∧ s.gc hb keep sel = S (i + 1)) := rfl
theorem forq_exit {S : Nat → St} {N i : Nat} {Q : AX → St → Prop} {k : Nat} : forq hb S N i Q (.exit k) s = Q (.exit k) s := rfl
theorem forq_ret {S : Nat → St} {N i : Nat} {Q : AX → St → Prop} : forq hb S N i Q .ret s = Q .ret s := rfl
theorem forq_panic {S : Nat → St} {N i : Nat} {Q : AX → St → Prop} {v : AV} : forq hb S N i Q (.panic v) s = Q (.panic v) s := rfl

theorem W_gcb' {c : Code} {Q : AX → St → Prop} {Q2 : AX → St → Prop} (h : W P T rA hb n c s Q) (h1 : ∀ s', Q .normal s' → ∃ keep sel, ndp sel = true ∧ gdOk (ta hb sel) s'.ds ∧ Q2 .normal (s'.gc hb keep sel)) (h2 : ∀ x s', (∀ v, x ≠ .panic v) → x ≠ .normal → Q x s' → Q2 x s') (h3 : ∀ v s', Q (.panic v) s' → Q2 (.panic v) s') : W P T rA hb n c s Q2 := by
  intro hl rnd d a w β hh hr q Qm post
  refine h hl rnd d a w β hh hr q Qm fun x s' a' w' β' h' hq q' t => ?_
  cases x with
  | normal =>
    obtain ⟨keep, sel, hd, hk, hq⟩ := h1 s' hq
    obtain ⟨β2, hh2, g1, g2, g3, g4⟩ := q'.now.gc q'.base hd
    exact post .normal (s'.gc hb keep sel) a' w' β2 hh2 hq ⟨g3, ER_gl g1 q'.env keep, DRs_gc g1 hk q'.dfs, q'.base.same g2⟩ (t.gc g3 g2 g4)
  | exit i => exact post (.exit i) s' a' w' β' h' (h2 _ _ (fun _ h => by cases h) (fun h => by cases h) hq) q' t
  | ret => exact post .ret s' a' w' β' h' (h2 _ _ (fun _ h => by cases h) (fun h => by cases h) hq) q' t
  | panic v => exact post (.panic v) s' a' w' β' h' (h3 _ _ hq) q' t

theorem W_for {c : Code} {Q : AX → St → Prop} (S : Nat → St) (N k : Nat) (hk : k ≤ N) (keep sel : List Nat) (hd : ndp sel = true) (hg : gdOk (ta hb sel) s.ds) (h0 : s.gc hb keep sel = S k) (h : ∀ i, k ≤ i → i ≤ N → W P T rA hb n c (S i) (forq hb S N i Q)) : W P T rA hb n (.loop c) s Q := by
  refine W_gc keep sel hd hg ?_
  rw [h0]
  refine W_loop (fun m s => ∃ i, k ≤ i ∧ i ≤ N ∧ m = N - i ∧ s = S i) (m := N - k) ⟨k, Nat.le_refl _, hk, rfl, rfl⟩ ?_
  rintro m s ⟨i, hki, hi, rfl, rfl⟩
  refine W_gcb' (h i hki hi) ?_ ?_ ?_
  · rintro s' ⟨hlt, keep, sel, e1, e2, e3⟩
    exact ⟨keep, sel, e1, e2, N - (i + 1), by omega, i + 1, by omega, by omega, rfl, e3⟩
  · intro x s' _ hx hq
    cases x with
    | normal => exact absurd rfl hx
    | _ => exact hq
  · intro v s' hq; exact hq

/-- A loop of so many rounds at most. -/
def wrq (Wk : St → Prop) (Q : AX → St → Prop) (x : AX) (s : St) : Prop := match x with
  | .normal => Wk s
  | x => Q x s
@[congr] theorem wrq_congr {Wk : St → Prop} {Q : AX → St → Prop} {x x' : AX} {s s' : St} (h : x = x') (h2 : s = s') : wrq Wk Q x s = wrq Wk Q x' s' := by rw [h, h2]
def Wrl (P : Program) (T : Types) (rA : Option Nat) (hb : HV) (n : Nat) (c : Code) (Q : AX → St → Prop) : Nat → St → Prop
  | 0, _ => False
  | k + 1, s => W P T rA hb n c s (wrq (Wrl P T rA hb n c Q k) Q)
@[congr] theorem Wrl_congr {c : Code} {Q : AX → St → Prop} {k : Nat} {s s' : St} (h2 : s = s') : Wrl P T rA hb n c Q k s = Wrl P T rA hb n c Q k s' := by rw [h2]
theorem wrq_normal {Wk : St → Prop} {Q : AX → St → Prop} : wrq Wk Q .normal s = Wk s := rfl
theorem wrq_exit {Wk : St → Prop} {Q : AX → St → Prop} {i : Nat} : wrq Wk Q (.exit i) s = Q (.exit i) s := rfl
theorem wrq_ret {Wk : St → Prop} {Q : AX → St → Prop} : wrq Wk Q .ret s = Q .ret s := rfl
theorem W_unroll {c : Code} {Q : AX → St → Prop} (k : Nat) (h : Wrl P T rA hb n c Q k s) : W P T rA hb n (.loop c) s Q := by
  refine W_loop (fun m s => Wrl P T rA hb n c Q m s) (m := k) h ?_
  intro m s hm
  cases m with
  | zero => exact hm.elim
  | succ m =>
    refine W.mono hm fun x s' hx => ?_
    cases x with
    | normal => exact ⟨m, by omega, hx⟩
    | _ => exact hx
theorem Wrl_go {c : Code} {Q : AX → St → Prop} {k : Nat} (h : W P T rA hb n c s (wrq (Wrl P T rA hb n c Q k) Q)) : Wrl P T rA hb n c Q (k + 1) s := h

/-! ### functions -/
/-- A body is left, and hands back 'r'. -/
def Lv (T : Types) (H : HV) (fn : Func) (r : Res) (us : List (Nat × AO)) (ns : List AO) (x : AX) (s : St) : Prop :=
  Leave T F H fn (fun r' H' => r' = r ∧ H' = H.aft us ns) x s

theorem mkh_aft (H : HV) (us : List (Nat × AO)) (ns : List AO) (hu : ∀ p ∈ us, p.1 < H.nx) : mkh H us.reverse ns = H.aft us ns := by
  have h1 : ∀ (us acc : List (Nat × AO)) (g : Getter) (b : Nat), (lk (us.reverse ++ acc) b).or (g b) = overs (fun c => (lk acc c).or (g c)) us b := by
    intro us
    induction us with
    | nil => intro acc g b; rfl
    | cons p r ih =>
      intro acc g b
      simp only [List.reverse_cons, List.append_assoc, List.singleton_append, overs]
      rw [ih (p :: acc) g]
      congr 1
      funext c
      simp only [over1, lk]
      by_cases e : c = p.1
      · rw [if_pos e, beqT.2 e]; rfl
      · rw [if_neg e, beqF.2 e]; rfl
  refine HV.eq_of rfl ?_
  funext b
  simp only [mkh, HV.aft, more]
  have := h1 us [] H.get b
  simp only [List.append_nil, lk, Option.none_or] at this
  by_cases hlt : b < H.nx
  · rw [if_pos hlt, if_pos hlt, this]
  · rw [if_neg hlt, if_neg hlt]

theorem Lv_ret {H : HV} {fn : Func} {r : Res} {us us' : List (Nat × AO)} {ns : List AO} {x : AX} {l : List (Nat × AV)} {ns' : List AO} (hx : x = .ret ∨ x = .normal) (sel : List Nat) {v : AV}
    (hv : resv T (E fn.ntmps l) (mkh H us' ns').get fn.results.toList = some v) (hd : ndp sel = true) (hr : .ret (gv (ta H sel) v) = r) (hus : gus H sel us' = us.reverse) (hns : gns H sel ns' = ns) (hu : ∀ p ∈ us, p.1 < H.nx) : Lv (F := F) T H fn r us ns x ⟨l, [], us', ns'⟩ := by
  refine ⟨.ret, by rcases hx with rfl | rfl <;> rfl, fun h h1 h2 => ⟨.ret, h, ⟨l, [], us', ns'⟩, rfl, h1, h2, v, sel, hv, hd, hr, ?_⟩⟩
  simp only
  rw [hus, hns]
  exact mkh_aft H us ns hu

theorem Lv_end {H : HV} {fn : Func} {r : Res} {us us' : List (Nat × AO)} {ns : List AO} {x : AX} {l : List (Nat × AV)} {ns' : List AO} (hx : x = .ret ∨ x = .normal) (sel : List Nat)
    (hv : (resv T (E fn.ntmps l) (mkh H us' ns').get fn.results.toList).map (fun v => Res.ret (gv (ta H sel) v)) = some r) (hd : ndp sel = true) (hus : gus H sel us' = us.reverse) (hns : gns H sel ns' = ns) (hu : ∀ p ∈ us, p.1 < H.nx) : Lv (F := F) T H fn r us ns x ⟨l, [], us', ns'⟩ := by
  obtain ⟨v, h1, h2⟩ := Option.map_eq_some_iff.1 hv
  exact Lv_ret hx sel h1 hd h2 hus hns hu
theorem Lv_pure {H : HV} {fn : Func} {r : Res} {x : AX} {l : List (Nat × AV)} {ns' : List AO} (hx : x = .ret ∨ x = .normal)
    (hv : (resv T (E fn.ntmps l) (mkh H [] ns').get fn.results.toList).map (fun v => Res.ret (gv (ta H []) v)) = some r) : Lv (F := F) T H fn r [] [] x ⟨l, [], [], ns'⟩ :=
  Lv_end hx [] hv rfl rfl rfl (fun p hp => by cases hp)
theorem nbeq (a b : Nat) : Nat.beq a b = decide (a = b) := by
  by_cases h : a = b
  · rw [beqT.2 h, decide_eq_true h]
  · rw [beqF.2 h, decide_eq_false h]
theorem nble (a b : Nat) : Nat.ble a b = decide (a ≤ b) := by
  by_cases h : a ≤ b
  · rw [bleT.2 h, decide_eq_true h]
  · rw [bleF.2 (by omega), decide_eq_false h]
theorem nblt (a b : Nat) : Nat.blt a b = decide (a < b) := by
  by_cases h : a < b
  · rw [bltT.2 h, decide_eq_true h]
  · rw [bltF.2 (by omega), decide_eq_false h]
theorem dec_true : decide True = true := rfl
theorem dec_false : decide False = false := rfl
theorem no_ups {H : HV} : ∀ p ∈ ([] : List (Nat × AO)), p.1 < H.nx := fun p hp => by cases hp

theorem Lv_pan {H : HV} {fn : Func} {r : Res} {us us' : List (Nat × AO)} {ns : List AO} {l : List (Nat × AV)} {ns' : List AO} (sel : List Nat) {v : AV}
    (hd : ndp sel = true) (hr : .pan (gv (ta H sel) v) = r) (hus : gus H sel us' = us.reverse) (hns : gns H sel ns' = ns) (hu : ∀ p ∈ us, p.1 < H.nx) : Lv (F := F) T H fn r us ns (.panic v) ⟨l, [], us', ns'⟩ := by
  refine ⟨.pan v, rfl, fun h h1 h2 => ⟨.pan v, h, ⟨l, [], us', ns'⟩, rfl, h1, h2, sel, hd, hr, ?_⟩⟩
  simp only
  rw [hus, hns]
  exact mkh_aft H us ns hu

theorem Ev_func (hT : TOk P T F) {f : Nat} {fn : Func} {c : Code} (hF : F.get f = some fn) (hc : fn.body = some c) {args : List AV} {k : Nat} (hk : fn.ntmps = k) (hn : Nat.ble args.length k = true) {H : HV} {r : Res} {us : List (Nat × AO)} {ns : List AO} (hu : ∀ p ∈ us, p.1 < H.nx)
    (h : W P T none H k c ⟨par 0 args, [], [], []⟩ (Lv (F := F) T H fn r us ns)) : Ev P T (.func f args) H r us ns := by
  subst hk
  exact (EvP_func hT hF hc (bleT.1 hn) h).e hu

@[congr] theorem Lv_congr {H : HV} {fn : Func} {r : Res} {us : List (Nat × AO)} {ns : List AO} {x x' : AX} {s s' : St} (h : x = x') (h2 : s = s') : Lv (F := F) T H fn r us ns x s = Lv (F := F) T H fn r us ns x' s' := by rw [h, h2]

/-! ### numbers -/
theorem abin_int (op : BinOp) (t : Nat) (k k' : IntKind) (a b : Int) (cx cy : Bool) : abin T op t (.int k a) (.int k' b) cx cy = iop op k a k' b := rfl
theorem ifSame_eq (k : IntKind) (v : AV) : ifSame k k v = some v := by simp [ifSame]
theorem iop_add (k : IntKind) (a b : Int) : iop .add k a k b = some (.int k (k.wrap (a + b))) := ifSame_eq _ _
theorem iop_sub (k : IntKind) (a b : Int) : iop .sub k a k b = some (.int k (k.wrap (a - b))) := ifSame_eq _ _
theorem iop_mul (k : IntKind) (a b : Int) : iop .mul k a k b = some (.int k (k.wrap (a * b))) := ifSame_eq _ _
theorem iop_eql (k : IntKind) (a b : Int) : iop .eql k a k b = some (.bool (decide (a = b))) := (ifSame_eq _ _).trans (by congr)
theorem iop_neq (k : IntKind) (a b : Int) : iop .neq k a k b = some (.bool (!decide (a = b))) := (ifSame_eq _ _).trans (by congr)
theorem iop_lss (k : IntKind) (a b : Int) : iop .lss k a k b = some (.bool (decide (a < b))) := ifSame_eq _ _
theorem iop_leq (k : IntKind) (a b : Int) : iop .leq k a k b = some (.bool (decide (a ≤ b))) := ifSame_eq _ _
theorem iop_gtr (k : IntKind) (a b : Int) : iop .gtr k a k b = some (.bool (decide (b < a))) := ifSame_eq _ _
theorem iop_geq (k : IntKind) (a b : Int) : iop .geq k a k b = some (.bool (decide (b ≤ a))) := ifSame_eq _ _
theorem iop_and (k : IntKind) (a b : Int) : iop .and k a k b = some (.int k (k.wrap (BitVec.ofInt k.bits a &&& BitVec.ofInt k.bits b).toNat)) := ifSame_eq _ _
theorem iop_or (k : IntKind) (a b : Int) : iop .or k a k b = some (.int k (k.wrap (BitVec.ofInt k.bits a ||| BitVec.ofInt k.bits b).toNat)) := ifSame_eq _ _
theorem iop_andNot (k : IntKind) (a b : Int) : iop .andNot k a k b = some (.int k (k.wrap (BitVec.ofInt k.bits a &&& ~~~ BitVec.ofInt k.bits b).toNat)) := ifSame_eq _ _
theorem iop_quo (k : IntKind) (a b : Int) (h : ¬ b = 0) : iop .quo k a k b = some (.int k (k.wrap (a.tdiv b))) := by
  simp only [iop]; rw [decide_eq_false h]; exact ifSame_eq _ _
theorem iop_rem (k : IntKind) (a b : Int) (h : ¬ b = 0) : iop .rem k a k b = some (.int k (a.tmod b)) := by
  simp only [iop]; rw [decide_eq_false h]; exact ifSame_eq _ _
theorem iop_shl (k k' : IntKind) (a b : Int) (h : 0 ≤ b) : iop .shl k a k' b = some (.int k (k.wrap (a * 2 ^ (min b.toNat k.bits)))) := by
  simp only [iop]; rw [decide_eq_false (by omega)]; rfl
theorem iop_shr (k k' : IntKind) (a b : Int) (h : 0 ≤ b) : iop .shr k a k' b = some (.int k (a.fdiv (2 ^ (min b.toNat k.bits)))) := by
  simp only [iop]; rw [decide_eq_false (by omega)]; rfl
theorem wrap_i64 {x : Int} (h : -9223372036854775808 ≤ x ∧ x ≤ 9223372036854775807) : IntKind.wrap .i64 x = x := IntWalk.i64_in x h
theorem wrap_u64 {x : Int} (h : 0 ≤ x ∧ x ≤ 18446744073709551615) : IntKind.wrap .u64 x = x := IntWalk.u64_in x h
theorem wrap_u8 {x : Int} (h : 0 ≤ x ∧ x ≤ 255) : IntKind.wrap .u8 x = x := IntWalk.u8_in x h
theorem aun_not (b : Bool) : aun .not (.bool b) = some (.bool !b) := rfl
theorem aun_neg (k : IntKind) (a : Int) : aun .neg (.int k a) = some (.int k (k.wrap (0 - a))) := rfl
theorem cells_int (k : IntKind) (a : Int) : AV.cells? (.int k a) = some [.int k a] := rfl
theorem cells_bool (b : Bool) : AV.cells? (.bool b) = some [.bool b] := rfl
theorem cells_agg (l : List AV) : AV.cells? (.agg l) = some l := rfl
theorem cells_ptr (b o : Nat) : AV.cells? (.ptr b o) = some [.ptr b o] := rfl
theorem cells_slice (b o l c : Nat) (x : Bool) : AV.cells? (.slice b o l c x) = some [.slice b o l c x] := rfl
theorem cells_nils : AV.cells? .nils = some [.nils] := rfl
theorem cells_nilp : AV.cells? .nilp = some [.nilp] := rfl
theorem cells_nilf : AV.cells? .nilf = some [.nilf] := rfl
theorem cells_nilm : AV.cells? .nilm = some [.nilm] := rfl
theorem cells_nili : AV.cells? .nili = some [.nili] := rfl
theorem cells_map (b : Nat) : AV.cells? (.map b) = some [.map b] := rfl
theorem cells_fn (f : AFn) (p q : List AV) : AV.cells? (.fn f p q) = some [.fn f p q] := rfl
theorem cells_iface (t : Nat) (v : AV) : AV.cells? (.iface t v) = some [.iface t v] := rfl
theorem isCell_int (k : IntKind) (a : Int) : AV.isCell (.int k a) = true := rfl
theorem isCell_bool (b : Bool) : AV.isCell (.bool b) = true := rfl
theorem isCell_ptr (b o : Nat) : AV.isCell (.ptr b o) = true := rfl
theorem isCell_slice (b o l c : Nat) (x : Bool) : AV.isCell (.slice b o l c x) = true := rfl
theorem isCell_nils : AV.isCell .nils = true := rfl
theorem isCell_nilp : AV.isCell .nilp = true := rfl
theorem isCell_nilf : AV.isCell .nilf = true := rfl
theorem isCell_nilm : AV.isCell .nilm = true := rfl
theorem isCell_nili : AV.isCell .nili = true := rfl
theorem isCell_map (b : Nat) : AV.isCell (.map b) = true := rfl
theorem isCell_fn (f : AFn) (p q : List AV) : AV.isCell (.fn f p q) = true := rfl
theorem isCell_iface (t : Nat) (v : AV) : AV.isCell (.iface t v) = true := rfl

/-! ### numbers anew -/
def gvo (x : Option Nat) (f : Nat → AV) : AV := match x with | some b => f b | none => .undef
theorem gvo_some (b : Nat) (f : Nat → AV) : gvo (some b) f = f b := rfl
theorem gvo_none (f : Nat → AV) : gvo none f = .undef := rfl
theorem gv_ptr (τ : Nat → Option Nat) (b o : Nat) : gv τ (.ptr b o) = gvo (τ b) fun b' => .ptr b' o := by simp only [gv]; cases τ b <;> rfl
theorem gv_slice (τ : Nat → Option Nat) (b o l c : Nat) (x : Bool) : gv τ (.slice b o l c x) = gvo (τ b) fun b' => .slice b' o l c x := by simp only [gv]; cases τ b <;> rfl
theorem gv_map (τ : Nat → Option Nat) (b : Nat) : gv τ (.map b) = gvo (τ b) fun b' => .map b' := by simp only [gv]; cases τ b <;> rfl
theorem gv_yield (τ : Nat → Option Nat) (b : Nat) (p q : List AV) : gv τ (.fn (.yield b) p q) = gvo (τ b) fun b' => .fn (.yield b') (gvs τ p) (gvs τ q) := by simp only [gv]; cases τ b <;> rfl
theorem gv_func (τ : Nat → Option Nat) (f : Nat) (p q : List AV) : gv τ (.fn (.func f) p q) = .fn (.func f) (gvs τ p) (gvs τ q) := by simp only [gv]
theorem gv_method (τ : Nat → Option Nat) (f : String) (p q : List AV) : gv τ (.fn (.method f) p q) = .fn (.method f) (gvs τ p) (gvs τ q) := by simp only [gv]
theorem gv_int (τ : Nat → Option Nat) (k : IntKind) (a : Int) : gv τ (.int k a) = .int k a := by simp only [gv]
theorem gv_bool (τ : Nat → Option Nat) (b : Bool) : gv τ (.bool b) = .bool b := by simp only [gv]
theorem gv_agg (τ : Nat → Option Nat) (l : List AV) : gv τ (.agg l) = .agg (gvs τ l) := by simp only [gv]
theorem gv_tup (τ : Nat → Option Nat) (l : List AV) : gv τ (.tup l) = .tup (gvs τ l) := by simp only [gv]
theorem gv_iface (τ : Nat → Option Nat) (t : Nat) (v : AV) : gv τ (.iface t v) = .iface t (gv τ v) := by simp only [gv]
theorem gv_undef (τ : Nat → Option Nat) : gv τ .undef = .undef := by simp only [gv]
theorem gv_nils (τ : Nat → Option Nat) : gv τ .nils = .nils := by simp only [gv]
theorem gv_empt (τ : Nat → Option Nat) : gv τ .empt = .empt := by simp only [gv]
theorem gv_nilp (τ : Nat → Option Nat) : gv τ .nilp = .nilp := by simp only [gv]
theorem gv_nilf (τ : Nat → Option Nat) : gv τ .nilf = .nilf := by simp only [gv]
theorem gv_nilm (τ : Nat → Option Nat) : gv τ .nilm = .nilm := by simp only [gv]
theorem gv_nili (τ : Nat → Option Nat) : gv τ .nili = .nili := by simp only [gv]
theorem gvs_nil (τ : Nat → Option Nat) : gvs τ [] = [] := by simp only [gvs]
theorem gvs_cons (τ : Nat → Option Nat) (a : AV) (l : List AV) : gvs τ (a :: l) = gv τ a :: gvs τ l := by simp only [gvs]

theorem lk_nil {α : Type} (i : Nat) : lk ([] : List (Nat × α)) i = none := rfl
theorem lk_cons {α : Type} (j : Nat) (v : α) (l : List (Nat × α)) (i : Nat) : lk ((j, v) :: l) i = if i = j then some v else lk l i := by
  simp only [lk]
  by_cases h : i = j
  · rw [beqT.2 h, if_pos h]; rfl
  · rw [beqF.2 h, if_neg h]; rfl
def glo (i : Nat) (τ : Nat → Option Nat) (x : Option AV) (r : List (Nat × AV)) : List (Nat × AV) := match x with | some v => (i, gv τ v) :: r | none => r
theorem glo_some (i : Nat) (τ : Nat → Option Nat) (v : AV) (r : List (Nat × AV)) : glo i τ (some v) r = (i, gv τ v) :: r := rfl
theorem glo_none (i : Nat) (τ : Nat → Option Nat) (r : List (Nat × AV)) : glo i τ none r = r := rfl
theorem gl_nil (τ : Nat → Option Nat) (l : List (Nat × AV)) : gl τ [] l = [] := rfl
theorem gl_cons (τ : Nat → Option Nat) (i : Nat) (k : List Nat) (l : List (Nat × AV)) : gl τ (i :: k) l = glo i τ (lk l i) (gl τ k l) := by
  simp only [gl, List.filterMap_cons, glo]
  cases lk l i <;> rfl
theorem gns_nil (hb : HV) (sel : List Nat) (ns : List AO) : gns hb sel ns = sel.map fun j => match ns[j]? with | some o => go (ta hb sel) o | none => .dead := rfl
def goo (τ : Nat → Option Nat) (x : Option AO) : AO := match x with | some o => go τ o | none => .dead
theorem goo_some (τ : Nat → Option Nat) (o : AO) : goo τ (some o) = go τ o := rfl
theorem gns_eq (hb : HV) (sel : List Nat) (ns : List AO) : gns hb sel ns = sel.map fun j => goo (ta hb sel) ns[j]? := by
  unfold gns; congr 1
theorem gus_nil (hb : HV) (sel : List Nat) : gus hb sel [] = [] := rfl
theorem gus_cons (hb : HV) (sel : List Nat) (p : Nat × AO) (l : List (Nat × AO)) : gus hb sel (p :: l) = (p.1, go (ta hb sel) p.2) :: gus hb sel l := rfl
theorem go_cells (τ : Nat → Option Nat) (o : Bool) (e : Nat) (vs : List AV) : go τ (.cells o e vs) = .cells o e (gvs τ vs) := rfl
theorem go_dead (τ : Nat → Option Nat) : go τ .dead = .dead := rfl
theorem go_defr (τ : Nat → Option Nat) (o : Bool) : go τ (.defr o) = .defr o := rfl
theorem plc_nil (j : Nat) : plc [] j = none := rfl
def osu (x : Option Nat) : Option Nat := match x with | some n => some (n + 1) | none => none
theorem osu_some (n : Nat) : osu (some n) = some (n + 1) := rfl
theorem osu_none : osu none = none := rfl
theorem plc_cons (x : Nat) (r : List Nat) (j : Nat) : plc (x :: r) j = if x = j then some 0 else osu (plc r j) := by
  simp only [plc]
  by_cases h : x = j
  · rw [beqT.2 h, if_pos h]; rfl
  · rw [beqF.2 h, if_neg h]; cases plc r j <;> rfl
theorem gdOk_nil (τ : Nat → Option Nat) : gdOk τ [] = True := rfl
theorem St_gc (keep sel : List Nat) (l : List (Nat × AV)) (ds : List ADef) (us : List (Nat × AO)) (ns : List AO) : St.gc hb keep sel ⟨l, ds, us, ns⟩ = ⟨gl (ta hb sel) keep l, ds.map (gd (ta hb sel)), gus hb sel us, gns hb sel ns⟩ := rfl

/-! ### slices -/
def plx (size i : Nat) : Option (Nat × Nat) := some (i * size, size)
theorem plx_eq (size i : Nat) : plx size i = some (i * size, size) := rfl
def obs2 (nx k : Nat) (ei : TI) (cs : Option (List AV)) : Option Out := match cs with
  | some cs => if cs.all AV.isCell = true then some ⟨.slice nx 0 k k true, [], [], [.cells true ei.size cs]⟩ else none
  | none => none
theorem obs2_some (nx k : Nat) (ei : TI) (cs : List AV) : obs2 nx k ei (some cs) = if cs.all AV.isCell = true then some ⟨.slice nx 0 k k true, [], [], [.cells true ei.size cs]⟩ else none := rfl
def obs1 (nx k : Nat) (ps : List (Nat × AV)) (ei : TI) (z : Option (List AV)) : Option Out := match z with
  | some z => if k * ei.size ≤ 16777216 ∧ 0 < ei.size ∧ z.length = ei.size then obs2 nx k ei (fill (plx ei.size) (reps k z) ps) else none
  | none => none
theorem obs1_some (nx k : Nat) (ps : List (Nat × AV)) (ei : TI) (z : List AV) : obs1 nx k ps ei (some z) = if k * ei.size ≤ 16777216 ∧ 0 < ei.size ∧ z.length = ei.size then obs2 nx k ei (fill (plx ei.size) (reps k z) ps) else none := rfl
def obs (nx k : Nat) (ps : List (Nat × AV)) (ei : Option TI) : Option Out := match ei with
  | some ei => obs1 nx k ps ei ei.zero.cells?
  | none => none
theorem obs_some (nx k : Nat) (ps : List (Nat × AV)) (ei : TI) : obs nx k ps (some ei) = obs1 nx k ps ei ei.zero.cells? := rfl
theorem abuildSlice_eq (nx t k : Nat) (ps : List (Nat × AV)) : abuildSlice T nx t k ps = obs nx k ps (T.elem t) := by
  unfold abuildSlice obs
  cases T.elem t with
  | none => rfl
  | some ei =>
    simp only [obs1]
    cases ei.zero.cells? with
    | none => rfl
    | some z =>
      simp only [nble, nblt, nbeq]
      by_cases h : k * ei.size ≤ 16777216 ∧ 0 < ei.size ∧ z.length = ei.size
      · rw [if_pos h]
        obtain ⟨h1, h2, h3⟩ := h
        rw [decide_eq_true (show k * ei.size ≤ 2 ^ 24 by simpa using h1), decide_eq_true h2, decide_eq_true h3]
        simp only [Bool.and_self, cond_true, obs2]
        show _ = match fill (fun i => some (i * ei.size, ei.size)) (reps k z) ps with | some cs => _ | none => none
        cases fill (fun i => some (i * ei.size, ei.size)) (reps k z) ps with
        | none => rfl
        | some cs => dsimp only; cases cs.all AV.isCell <;> simp
      · rw [if_neg h]
        have : (decide (k * ei.size ≤ 2 ^ 24) && decide (0 < ei.size) && decide (z.length = ei.size)) = false := by
          apply Bool.eq_false_iff.2
          intro hh
          simp only [Bool.and_eq_true, decide_eq_true_eq] at hh
          exact h ⟨by simpa using hh.1.1, hh.1.2, hh.2⟩
        rw [this]; rfl
def fil2 (pl : Nat → Option (Nat × Nat)) (r : List (Nat × AV)) (cs : Option (List AV)) : Option (List AV) := match cs with | some cs => fill pl cs r | none => none
theorem fil2_some (pl : Nat → Option (Nat × Nat)) (r : List (Nat × AV)) (cs : List AV) : fil2 pl r (some cs) = fill pl cs r := rfl
def fil1 (pl : Nat → Option (Nat × Nat)) (r : List (Nat × AV)) (cs : List AV) (p : Option (Nat × Nat)) (xs : Option (List AV)) : Option (List AV) := match p, xs with
  | some p, some xs => if xs.length = p.2 then fil2 pl r (over cs p.1 xs) else none
  | _, _ => none
theorem fil1_some (pl : Nat → Option (Nat × Nat)) (r : List (Nat × AV)) (cs : List AV) (p : Nat × Nat) (xs : List AV) : fil1 pl r cs (some p) (some xs) = if xs.length = p.2 then fil2 pl r (over cs p.1 xs) else none := rfl
theorem fill_nil (pl : Nat → Option (Nat × Nat)) (cs : List AV) : fill pl cs [] = some cs := rfl
theorem fill_cons (pl : Nat → Option (Nat × Nat)) (cs : List AV) (i : Nat) (v : AV) (r : List (Nat × AV)) : fill pl cs ((i, v) :: r) = fil1 pl r cs (pl i) v.cells? := by
  simp only [fill, fil1, fil2]
  cases pl i with
  | none => cases v.cells? <;> rfl
  | some p =>
    cases v.cells? with
    | none => rfl
    | some xs =>
      simp only [nbeq]
      by_cases h : xs.length = p.2
      · rw [if_pos h, decide_eq_true h]; simp only [cond_true]; cases over cs p.1 xs <;> rfl
      · rw [if_neg h, decide_eq_false h]; rfl
theorem reps_zero (z : List AV) : reps 0 z = [] := rfl
theorem reps_succ (k : Nat) (z : List AV) : reps (k + 1) z = z ++ reps k z := rfl
def opl (q : Option (TI × Nat)) : Option (Nat × Nat) := match q with | some q => some (q.2, q.1.size) | none => none
theorem opl_some (q : TI × Nat) : opl (some q) = some (q.2, q.1.size) := rfl
def plf (T : Types) (t i : Nat) : Option (Nat × Nat) := opl (T.field t i)
theorem plf_eq (t i : Nat) : plf T t i = opl (T.field t i) := rfl
def oag (x : Option (List AV)) : Option Out := match x with | some l => some (.pure (.agg l)) | none => none
theorem oag_some (l : List AV) : oag (some l) = some (.pure (.agg l)) := rfl
theorem abuild_struct (t : Nat) (ps : List (Nat × AV)) {fs : List (Nat × Nat)} {a b : Nat} {z : List AV} {m : List (String × Nat × Option Nat)} {p : Option (List (Option IntKind))} (h : T.get t = some ⟨.struct fs, a, b, .agg z, m, p⟩) :
    abuild T t ps = oag (fill (plf T t) z ps) := by
  unfold abuild
  rw [h]
  dsimp only
  refine (congrArg (Option.map fun l => Out.pure (AV.agg l)) (congrArg (fun pl => fill pl z ps) (funext fun i => ?_ : _ = plf T t))).trans ?_
  · unfold plf opl; cases T.field t i <;> rfl
  · cases fill (plf T t) z ps <;> rfl

/-- Whole numbers and bools. -/
def AV.flat : AV → Bool
  | .int _ _ => true
  | .bool _ => true
  | _ => false
theorem gv_flat (τ : Nat → Option Nat) : ∀ {v : AV}, v.flat = true → gv τ v = v
  | .int _ _, _ => gv_int _ _ _
  | .bool _, _ => gv_bool _ _
theorem gvs_flat (τ : Nat → Option Nat) : ∀ {l : List AV}, (∀ v ∈ l, v.flat = true) → gvs τ l = l
  | [], _ => gvs_nil τ
  | a :: l, h => by rw [gvs_cons, gv_flat τ (h a List.mem_cons_self), gvs_flat τ fun v hv => h v (List.mem_cons_of_mem _ hv)]

theorem resv_tmp1 (e : Env) (g : Getter) (t : Nat) : resv T e g [.tmp t] = some (e.get t) := rfl
theorem resv_tmp2 (e : Env) (g : Getter) (t u : Nat) : resv T e g [.tmp t, .tmp u] = some (.tup [e.get t, e.get u]) := rfl
theorem resv_tmp3 (e : Env) (g : Getter) (t u v : Nat) : resv T e g [.tmp t, .tmp u, .tmp v] = some (.tup [e.get t, e.get u, e.get v]) := rfl
theorem resv_nil (e : Env) (g : Getter) : resv T e g [] = some (.tup []) := rfl
def resc (x : Option Out) : Option AV := match x with | some o => some o.v | none => none
theorem resc_some (v : AV) (a : List Nat) (b : List (Nat × AO)) (c : List AO) : resc (some ⟨v, a, b, c⟩) = some v := rfl
theorem resv_cell (e : Env) (g : Getter) (a t : Nat) : resv T e g [.cell a t] = resc (aload T g t (e.get a)) := by
  simp only [resv, resvl, resv1, resc]
  cases aload T g t (e.get a) <;> rfl

theorem clash2_nil (x : FP) : clash2 x FP.nil = false := by
  simp [clash2, FP.clash_eq, FP.any_eq, FP.nil, meet_eq]
theorem clashes2_fpnil (fs : List FP) (n : Nat) : ∀ l, clashes2 fs n FP.nil l = false
  | [] => rfl
  | i :: r => by
    simp only [clashes2, clashes2_fpnil fs n r, Bool.or_false]
    cases fs[n - 1 - i]? with
    | none => rfl
    | some x => exact clash2_nil x
theorem clashes2_nil (fs : List FP) (n : Nat) (f : FP) : clashes2 fs n f [] = false := rfl
def clo (f : FP) (x : Option FP) : Bool := match x with | some x => clash2 x f | none => false
theorem clo_some (f x : FP) : clo f (some x) = clash2 x f := rfl
theorem clashes2_cons (fs : List FP) (n : Nat) (f : FP) (i : Nat) (r : List Nat) : clashes2 fs n f (i :: r) = (clo f fs[n - 1 - i]? || clashes2 fs n f r) := by
  simp only [clashes2, clo]
  congr 1
theorem clash2_ro (a b : Bool) (rd rd' : List Nat) (al al' : Bool) : clash2 ⟨a, rd, false, [], al⟩ ⟨b, rd', false, [], al'⟩ = (a && al') := by
  have h : ∀ l : List Nat, meet l [] = false := by intro l; rw [meet_eq]; simp
  simp [clash2, FP.clash_eq, FP.any_eq, h, meet_eq]
theorem fpnil_eq : FP.nil = ⟨false, [], false, [], false⟩ := rfl

def omp (f : Nat → Nat) (x : Option Nat) : Option Nat := match x with | some n => some (f n) | none => none
theorem omp_some (f : Nat → Nat) (n : Nat) : omp f (some n) = some (f n) := rfl
theorem omp_none (f : Nat → Nat) : omp f none = none := rfl
theorem ta_at' (hb : HV) (sel : List Nat) (i : Nat) : ta hb sel (hb.at i) = omp hb.at (plc sel i) := by rw [ta_at]; cases plc sel i <;> rfl
theorem gns_cons (hb : HV) (sel : List Nat) (ns : List AO) (j : Nat) (r : List Nat) : r.map (fun j => goo (ta hb sel) ns[j]?) = r.map (fun j => goo (ta hb sel) ns[j]?) := rfl
def gnl (τ : Nat → Option Nat) (ns : List AO) : List Nat → List AO
  | [] => []
  | j :: r => goo τ ns[j]? :: gnl τ ns r
theorem gnl_nil (τ : Nat → Option Nat) (ns : List AO) : gnl τ ns [] = [] := rfl
theorem gnl_cons (τ : Nat → Option Nat) (ns : List AO) (j : Nat) (r : List Nat) : gnl τ ns (j :: r) = goo τ ns[j]? :: gnl τ ns r := rfl
theorem gns_gnl (hb : HV) (sel : List Nat) (ns : List AO) : gns hb sel ns = gnl (ta hb sel) ns sel := by
  rw [gns_eq]
  have : ∀ r : List Nat, r.map (fun j => goo (ta hb sel) ns[j]?) = gnl (ta hb sel) ns r := by
    intro r
    induction r with
    | nil => rfl
    | cons j r ih => simp only [List.map_cons, gnl, ih]
  exact this sel
theorem gds_nil (τ : Nat → Option Nat) : ([] : List ADef).map (gd τ) = [] := rfl

attribute [go_sem ↓] wck_none wck_some wput_some wput_none
attribute [go_sem] gko_some gko_none gk_nil gk_cons strip_nil strip_none strip_some sg_some scons_some nth_zero nth_succ wogO_some wog_none wog_guard wog_nil E_cons ev_tmp ev_const ev_func cv_int cv_bool cv_nils cv_nilp cv_nilf cv_nili
  wgd1_tt wgd1_ff wgd1_tf wgd1_ft wgd1_tup wout_pure wout_rd wout_nw wout_up wout_upn omap_some omap2_some omap3_some opure_eq opick_bool oext_tup opmap_some obx_some oalc_some onil_ptr onil_fn obin_eq ouno_eq oconv_int omkf_some oslc_some olkp_eq
  wdo_move wdo_assign wdo_pick wdo_alloc wdo_box wdo_build wdo_buildSlice wdo_load wdo_store wdo_nilCheck wdo_binOp wdo_unOp wdo_convert wdo_makeInterface wdo_makeFunc wdo_makeMethod wdo_makeMap wdo_makeSlice wdo_slice wdo_fieldAddr wdo_field wdo_indexAddr wdo_index wdo_lookup wdo_mapUpdate wdo_insert wdo_typeAssert wdo_extract wdo_builtin wdo_call wdo_invoke
  wres_ret wres_nw wres_up wres_pan wreq_some oinv_some oivk_some ainvoke_func ainvoke_yield evs_nil evs_cons ocons_some evp_nil evp_cons oconp_some evo_none evo_some osm_some gcells_some gown_some oval_some oald_some aload_ptr ost2_some ost_some astore_ptr abox_eq ofa_some afieldAddr_ptr ofl_some afield_agg oco_some
  cut_succ cut_zero_zero cut_zero_succ over_nil over_zero over_succ H_mk mk_at thn_normal thn_ret thn_exit thn_panic blk_normal blk_ret blk_exit blk_panic rgq_none rgq_some wcnd_true wcnd_false
  forq_normal forq_exit forq_ret forq_panic wrq_normal wrq_exit wrq_ret abin_int iop_add iop_sub iop_mul iop_eql iop_neq iop_lss iop_leq iop_gtr iop_geq iop_and iop_or iop_andNot iop_quo iop_rem iop_shl iop_shr wrap_i64 wrap_u64 wrap_u8 aun_not aun_neg
  cells_int cells_bool cells_agg cells_ptr cells_slice cells_nils cells_nilp cells_nilf cells_nilm cells_nili cells_map cells_fn cells_iface
  isCell_int isCell_bool isCell_ptr isCell_slice isCell_nils isCell_nilp isCell_nilf isCell_nilm isCell_nili isCell_map isCell_fn isCell_iface
  gvo_some gvo_none gv_ptr gv_slice gv_map gv_yield gv_func gv_method gv_int gv_bool gv_agg gv_tup gv_iface gv_undef gv_nils gv_empt gv_nilp gv_nilf gv_nilm gv_nili gvs_nil gvs_cons
  lk_nil lk_cons glo_some glo_none gl_nil gl_cons goo_some gns_gnl gnl_nil gnl_cons gds_nil gus_nil gus_cons go_cells go_dead go_defr plc_nil plc_cons osu_some osu_none gdOk_nil St_gc ta_at' omp_some omp_none resv_tmp1 resv_tmp2 resv_tmp3 resv_nil resv_cell resc_some
  nbeq nble nblt dec_true dec_false plx_eq obs2_some obs1_some obs_some abuildSlice_eq fil2_some fil1_some fill_nil fill_cons reps_zero reps_succ opl_some plf_eq oag_some clashes2_fpnil clashes2_nil clashes2_cons clo_some clash2_ro fpnil_eq par
attribute [go_sem] Option.map_some Option.map_none List.getElem?_cons_zero List.getElem?_cons_succ List.length_cons List.length_nil Nat.reduceAdd Nat.reduceEqDiff Nat.reduceLT Nat.reduceLeDiff Nat.reduceSub Nat.reduceMul ite_true ite_false true_and and_true and_self List.cons_append List.nil_append List.all_cons List.all_nil Bool.and_true Bool.true_and cond_true cond_false List.set_cons_zero List.set_cons_succ Bool.or_false Bool.false_or Bool.and_false Bool.false_and Bool.not_true Bool.not_false List.append_nil Option.isNone_none Option.isNone_some reduceIte ndp

end
end Go.Ai
