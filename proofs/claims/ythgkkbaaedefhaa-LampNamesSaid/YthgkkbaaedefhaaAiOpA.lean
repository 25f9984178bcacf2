/- AiOpA AiOpB AiOpC AiOpD -/
import Derived.Test.YthgkkbaaedefhaaAiRel
import Derived.Laws.Cells
import Derived.Laws.CopyRow
import Derived.Laws.Entries
import Derived.Laws.Append
import Derived.Laws.AppendOwn
import Derived.Laws.MakeOwn
import Derived.Laws.Tables
set_option linter.unusedVariables false
set_option linter.unusedSimpArgs false
section
namespace Go.Ai
open Go

def KR (P : Program) : TK → TypeDesc → Prop
  | .int k, d => d = .int k
  | .bool, d => d = .bool
  | .ptr e, d => d = .pointer e
  | .slice e, d => d = .slice e
  | .array n e, d => d = .array n e
  | .map k e, d => d = .map k e
  | .struct fs, d => ∃ fs' : Array Field, d = .struct fs' ∧ fs'.toList.map (fun f => (f.type, f.offset)) = fs ∧ ∀ f ∈ fs'.toList, ∃ i, P.info? f.type = some i
  | .iface hm, d => ∃ ms, d = .interface ms ∧ hm = !ms.isEmpty
  | .func, d => ∃ a b c, d = .func a b c

/-- '==' and keys, of a type of plain data. -/
structure PlainP (P : Program) (t : Nat) (ks : List (Option IntKind)) : Prop where
  eq : ∀ (β : Bm) (xs ys : List AV) (vs us : Array Value) (b : Bool) (w : World), VRs β xs vs.toList → VRs β ys us.toList → eqCells ks xs ys = some b → (Op.equal t (.agg vs) (.agg us)).run P w = .ok b w
  guard : P.eqGuardType P.depth t = false
  key : ∀ (β : Bm) (xs : List AV) (vs : Array Value) (em : Bool) (w : World), VRs β xs vs.toList → typed ks xs = true → (Instr.checkKey em 10000 t (.agg vs)).run P w = .ok () w

structure RowOk (P : Program) (t : Nat) (ti : TI) : Prop where
  info : ∃ i, P.info? t = some i ∧ i.size = ti.size ∧ i.bytes = ti.bytes ∧ ∃ z, i.zero = some z ∧ ∀ β, VR β ti.zero z
  und : ∃ d, P.underlying t = some d ∧ KR P ti.k d
  plain : ∀ ks, ti.plain = some ks → PlainP P t ks
  meth : ∀ m ∈ ti.methods, match m.2.2 with
    | none => ∀ v w, (method (P.types.size + Made.depth) t v m.1).run P w = .ok (m.2.1, v) w
    | some u => ∀ a x w, (loadVar u a).run P w = .ok x w → (method (P.types.size + Made.depth) t (.pointer (some a)) m.1).run P w = .ok (m.2.1, x) w

structure TOk (P : Program) (T : Types) (F : Funcs) : Prop where
  row : ∀ t ti, T.get t = some ti → RowOk P t ti
  mixed : P.follows .mixedOrders = true
  fn : ∀ f fn, F.get f = some fn → P.funcs[f]? = some fn ∧ fn.name ≠ "runtime.NumGoroutine"

section
variable {P : Program} {T : Types} {F : Funcs}

theorem run_size (hT : TOk P T F) {t : Nat} {ti : TI} (h : T.get t = some ti) (w : World) : (sizeOf t).run P w = .ok ti.size w := by
  obtain ⟨i, hi, hs, _⟩ := (hT.row t ti h).info
  simp [sizeOf, typeInfo, hi, hs]
theorem run_bytes (hT : TOk P T F) {t : Nat} {ti : TI} (h : T.get t = some ti) (w : World) : ∃ i, (typeInfo t).run P w = .ok i w ∧ i.bytes = ti.bytes ∧ i.size = ti.size := by
  obtain ⟨i, hi, hs, hb, _⟩ := (hT.row t ti h).info
  exact ⟨i, by simp [typeInfo, hi], hb, hs⟩
theorem run_zero (hT : TOk P T F) {t : Nat} {ti : TI} (h : T.get t = some ti) : ∃ z, (∀ w, (zeroValue t).run P w = .ok z w) ∧ ∀ β, VR β ti.zero z := by
  obtain ⟨i, hi, _, _, z, hz, hv⟩ := (hT.row t ti h).info
  exact ⟨z, fun w => by simp [zeroValue, typeInfo, hi, hz], hv⟩
theorem run_und (hT : TOk P T F) {t : Nat} {ti : TI} (h : T.get t = some ti) : ∃ d, (∀ w, (underlying t).run P w = .ok d w) ∧ KR P ti.k d := by
  obtain ⟨d, hd, hk⟩ := (hT.row t ti h).und
  exact ⟨d, fun w => run_underlying hd w, hk⟩
theorem run_agg (hT : TOk P T F) {t : Nat} {ti : TI} (h : T.get t = some ti) (w : World) : (isAgg t).run P w = .ok ti.k.isAgg w := by
  obtain ⟨d, hd, hk⟩ := run_und hT h
  unfold isAgg
  simp only [Sem.run_bind, hd, Result.andThen_ok]
  cases hk' : ti.k <;> rw [hk'] at hk <;> simp only [KR] at hk
  case struct fs => obtain ⟨fs', rfl, _⟩ := hk; rfl
  case iface hm => obtain ⟨ms, rfl, _⟩ := hk; rfl
  case func => obtain ⟨a, b, c, rfl⟩ := hk; rfl
  all_goals (subst hk; rfl)

theorem add_none (c o n : Nat) : (Addr.add ⟨c, o, none⟩ n) = ⟨c, o + n, none⟩ := by
  unfold Addr.add
  split
  · rename_i h; subst h; rfl
  · rfl
theorem cell_at {w : World} {c : Nat} {arr : Array Value} {el : TypeId} {fr : Nat × Nat} (h : w.heap[c]? = some (.cells arr el fr)) (o : Nat) : w.cell? ⟨c, o, none⟩ = arr[o]? := by
  simp [World.cell?, h]

theorem cut_some {l r : List AV} {o n : Nat} (h : cut l o n = some r) : o + n ≤ l.length ∧ r = (l.drop o).take n := by
  unfold cut at h
  by_cases k : o + n ≤ l.length
  · rw [bleT.2 k] at h; simp at h; exact ⟨k, h.symm⟩
  · rw [bleF.2 (by omega)] at h; simp at h

theorem part_ok (hT : TOk P T F) {t : Nat} {ti : TI} (h : T.get t = some ti) {β : Bm} {l : List AV} {arr : Array Value} {o : Nat} {v : AV} (hl : VRs β l arr.toList) (hp : part ti l o = some v) (w : World) :
    ∃ u, (Go.part t arr o).run P w = .ok u w ∧ VR β v u := by
  unfold Go.part
  simp only [Sem.run_bind, run_agg hT h, Result.andThen_ok]
  have hagg : ∀ r, cut l o ti.size = some r → ∃ u, Result.ok (α := Value) (.agg (arr.extract o (o + ti.size))) w = .ok u w ∧ VR β (.agg r) u := by
    intro r hr
    obtain ⟨hle, rfl⟩ := cut_some hr
    refine ⟨_, rfl, _, rfl, ?_⟩
    have : (arr.extract o (o + ti.size)).toList = (arr.toList.drop o).take ti.size := by
      rw [Array.toList_extract]; simp [List.extract]
    rw [this]
    exact (hl.drop o).take ti.size
  unfold part at hp
  cases hk : ti.k <;> rw [hk] at hp <;> simp only [TK.isAgg]
  case struct fs =>
    obtain ⟨r, hr, rfl⟩ := Option.map_eq_some_iff.1 hp
    obtain ⟨u, e, x⟩ := hagg r hr
    exact ⟨u, by simpa [run_size hT h] using e, x⟩
  case array n e =>
    obtain ⟨r, hr, rfl⟩ := Option.map_eq_some_iff.1 hp
    obtain ⟨u, e, x⟩ := hagg r hr
    exact ⟨u, by simpa [run_size hT h] using e, x⟩
  all_goals
    obtain ⟨u, e, x⟩ := hl.get o v hp
    refine ⟨u, ?_, x⟩
    rw [Array.getElem?_toList] at e
    simp [e]

theorem load_cells {β : Bm} {w : World} {i : BI} {arr : Array Value} {el : TypeId} {fr : Nat × Nat} {vs : List AV} (hc : w.heap[i.c]? = some (.cells arr el fr))
    (hv : ∀ j v, vs[j]? = some v → ∃ u, arr[i.base + j]? = some u ∧ VR β v u) {o n : Nat} (hn : o + n ≤ vs.length) :
    ∃ l' : List Value, (loadCells ⟨i.c, i.base + o, none⟩ n).run P w = .ok l'.toArray w ∧ VRs β ((vs.drop o).take n) l' ∧ l'.length = n ∧ l' = (arr.toList.drop (i.base + o)).take n := by
  let l' := (arr.toList.drop (i.base + o)).take n
  have hlen : l'.length = n := by
    by_cases h0 : n = 0
    · subst h0; simp [l']
    · obtain ⟨u, hu, _⟩ := hv (o + n - 1) _ (List.getElem?_eq_getElem (by omega))
      have := (Array.getElem?_eq_some_iff.1 hu).1
      simp [l']; omega
  have hget : ∀ j u, l'[j]? = some u → arr[i.base + o + j]? = some u := by
    intro j u hj
    have hjn : j < n := by rw [← hlen]; exact (List.getElem?_eq_some_iff.1 hj).1
    simp only [l', List.getElem?_take, hjn, if_true, List.getElem?_drop, Array.getElem?_toList] at hj
    exact hj
  refine ⟨l', ?_, ?_, hlen, rfl⟩
  · have := run_loadCells_list (P := P) (w := w) ⟨i.c, i.base + o, none⟩ l' (fun j v hj => by rw [add_none, cell_at hc]; exact hget j v hj)
    rw [hlen] at this
    exact this
  · refine VRs.of_get (by simp [hlen]; omega) ?_
    intro j a v ha hj
    have hjn : j < n := by rw [← hlen]; exact (List.getElem?_eq_some_iff.1 hj).1
    simp only [List.getElem?_take, hjn, if_true, List.getElem?_drop] at ha
    obtain ⟨u, hu, hvu⟩ := hv (o + j) a ha
    have := hget j v hj
    rw [show i.base + o + j = i.base + (o + j) by omega, hu] at this
    injection this with this; subst this; exact hvu

theorem loadVar_ok (hT : TOk P T F) {t : Nat} {ti : TI} (h : T.get t = some ti) {β : Bm} {w : World} {i : BI} {own : Bool} {es : Nat} {vs : List AV} (ho : OR β w i (.cells own es vs)) {o : Nat} {v : AV}
    (hp : part ti vs o = some v) : ∃ u, (loadVar t ⟨i.c, i.base + o, none⟩).run P w = .ok u w ∧ VR β v u := by
  obtain ⟨_, _, arr, el, fr, hc, _, hv⟩ := ho
  unfold loadVar
  simp only [Sem.run_bind, run_agg hT h, Result.andThen_ok]
  have hagg : ∀ r, cut vs o ti.size = some r → ∃ u, ((do pure (.agg (← loadCells ⟨i.c, i.base + o, none⟩ (← sizeOf t))) : Sem Value)).run P w = .ok u w ∧ VR β (.agg r) u := by
    intro r hr
    obtain ⟨hle, rfl⟩ := cut_some hr
    obtain ⟨l', e, x, _⟩ := load_cells (P := P) hc hv (o := o) (n := ti.size) hle
    exact ⟨.agg l'.toArray, by simp [run_size hT h, e], _, rfl, by simpa using x⟩
  unfold part at hp
  cases hk : ti.k <;> rw [hk] at hp <;> simp only [TK.isAgg, if_true, if_false, Bool.false_eq_true]
  case struct fs =>
    obtain ⟨r, hr, rfl⟩ := Option.map_eq_some_iff.1 hp
    exact hagg r hr
  case array n e =>
    obtain ⟨r, hr, rfl⟩ := Option.map_eq_some_iff.1 hp
    exact hagg r hr
  all_goals
    obtain ⟨u, e, x⟩ := hv o v hp
    refine ⟨u, ?_, x⟩
    rw [run_load, cell_at hc, e]

theorem cells_ok {β : Bm} : ∀ {v : AV} {u : Value} {l : List AV}, v.cells? = some l → VR β v u → VRs β l u.cells.toList := by
  intro v u l hc hv
  cases v <;> simp only [AV.cells?] at hc <;> try (cases hc; done)
  case agg l' => injection hc with hc; subst hc; obtain ⟨a, rfl, h⟩ := hv; exact h
  all_goals
    injection hc with hc
    subst hc
    have hu : u.cells = #[u] := by
      cases u <;> first
        | rfl
        | (exfalso; simp only [VR] at hv; first | (obtain ⟨_, _, h⟩ := hv; cases h; done) | (obtain ⟨_, _, _, h, _⟩ := hv; cases h; done) | (obtain ⟨_, _, h, _⟩ := hv; cases h; done) | (obtain ⟨_, h, _⟩ := hv; cases h; done) | (obtain ⟨_, _, _, h, _⟩ := hv; cases h; done) | (cases hv; done))
    rw [hu]
    exact VRs.cons hv VRs.nil

theorem cell_one {β : Bm} : ∀ {v : AV} {u : Value}, v.isCell = true → VR β v u → u.oneCell' = true := by
  intro v u hc hv
  cases v <;> simp only [AV.isCell] at hc <;> try (cases hc; done)
  all_goals
    cases u <;> first
      | rfl
      | (exfalso; simp only [VR] at hv; first | (obtain ⟨_, _, h⟩ := hv; cases h; done) | (obtain ⟨_, _, _, h, _⟩ := hv; cases h; done) | (obtain ⟨_, _, h, _⟩ := hv; cases h; done) | (obtain ⟨_, h, _⟩ := hv; cases h; done) | (cases hv; done))

theorem cells_one {β : Bm} : ∀ {l : List AV} {us : List Value}, l.all AV.isCell = true → VRs β l us → ∀ u ∈ us, u.oneCell' = true
  | [], us, _, h => by rw [VRs.nil_iff.1 h]; simp
  | a :: l, us, ha, h => by
    cases us with
    | nil => simp
    | cons u us =>
      obtain ⟨h1, h2⟩ := VRs.cons_iff.1 h
      simp at ha
      intro x hx
      rcases List.mem_cons.1 hx with rfl | hx
      · exact cell_one ha.1 h1
      · exact cells_one (by simpa using ha.2) h2 x hx

end
end Go.Ai
end

section
namespace Go.Ai
open Go

/-- What is said of an operation's run. -/
def GoodV (P : Program) (G : Nat) (β : Bm) (h : Heap) (w : World) (h' : Heap) (v : AV) (s : Sem Value) : Prop :=
  ∃ u w' β', s.run P w = .ok u w' ∧ VR β' v u ∧ To G β h w β' h' w'
def GoodU (P : Program) (G : Nat) (β : Bm) (h : Heap) (w : World) (h' : Heap) (s : Sem Unit) : Prop :=
  ∃ w' β', s.run P w = .ok () w' ∧ To G β h w β' h' w'

section
variable {P : Program} {T : Types} {F : Funcs} {G : Nat} {β : Bm} {h : Heap} {w : World}

theorem GoodV.same (r : Rel G β h w) {v : AV} {u : Value} {s : Sem Value} (e : s.run P w = .ok u w) (k : VR β v u) : GoodV P G β h w h v s := ⟨u, w, β, e, k, To.refl r⟩

theorem GoodV.new (r : Rel G β h w) (hf : β h.nx = none) {v : AV} {u : Value} {s : Sem Value} {o : AO} {obj : Obj} {d : Nat} {i : BI} (e : s.run P w = .ok u (pushed (dr w d) obj)) (hi : i.c = w.heap.size)
    (ho : OR (β.upd h.nx i) (pushed (dr w d) obj) i o) (k : VR (β.upd h.nx i) v u) : GoodV P G β h w (h.push o) v s :=
  ⟨u, _, _, e, k, (To.draw r d).trans (To.push (r.draw d) hf hi ho) r⟩

theorem ev_ok (r : Rel G β h w) (hG : T.G = G) {e : Env} {a : Act} (he : ER β e a.tmps) {x : Operand} {v : AV} (h1 : ev T e x = some v) : VR β v (a.eval x) := by
  cases x with
  | tmp t => simp only [ev] at h1; injection h1 with h1; subst h1; exact he.2 t
  | global g =>
    simp only [ev] at h1
    by_cases k : g < T.G
    · rw [bltT.2 k] at h1
      simp at h1; subst h1
      obtain ⟨i, hi, hc, hb⟩ := r.glob g (by omega)
      exact ⟨i, hi, by simp [Act.eval, hc, hb]⟩
    · rw [bltF.2 (by omega)] at h1; simp at h1
  | func f => simp only [ev] at h1; injection h1 with h1; subst h1; exact ⟨_, #[], #[], rfl, rfl, VRs.nil, VRs.nil⟩
  | const c =>
    simp only [ev] at h1
    simp only [Act.eval]
    have hl : ∀ (vs : List Value) (l : List AV), cv.cvs vs = some l → VRs β l vs := by
      intro vs
      induction vs with
      | nil => intro l hl; simp only [cv.cvs] at hl; injection hl with hl; subst hl; exact VRs.nil
      | cons x vs ih =>
        intro l hl
        unfold cv.cvs at hl
        split at hl <;> first
          | (cases hl; done)
          | (rename_i hx; cases hx; done)
          | (rename_i heq; injection heq with e1 e2; subst e1; subst e2; obtain ⟨r, hr, rfl⟩ := Option.map_eq_some_iff.1 hl; exact VRs.cons rfl (ih r hr))
    unfold cv at h1
    split at h1 <;> first
      | (injection h1 with h1; subst h1; rfl)
      | (cases h1; done)
      | (obtain ⟨l, hl', rfl⟩ := Option.map_eq_some_iff.1 h1; exact ⟨_, rfl, hl _ l hl'⟩)

theorem evs_ok (r : Rel G β h w) (hG : T.G = G) {e : Env} {a : Act} (he : ER β e a.tmps) : ∀ {xs : List Operand} {l : List AV}, evs T e xs = some l → VRs β l (xs.map a.eval)
  | [], l, h1 => by simp only [evs] at h1; injection h1 with h1; subst h1; exact VRs.nil
  | x :: xs, l, h1 => by
    simp only [evs] at h1
    split at h1
    · rename_i v l' hv hl
      injection h1 with h1; subst h1
      exact VRs.cons (ev_ok r hG he hv) (evs_ok r hG he hl)
    · cases h1

theorem evo_ok (r : Rel G β h w) (hG : T.G = G) {e : Env} {a : Act} (he : ER β e a.tmps) {x : Option Operand} {v : Option AV} (h1 : evo T e x = some v) :
    match v with | none => x.map a.eval = none | some v => ∃ u, x.map a.eval = some u ∧ VR β v u := by
  cases x with
  | none => simp only [evo] at h1; injection h1 with h1; subst h1; rfl
  | some x =>
    simp only [evo] at h1
    split at h1
    · rename_i v' hv; injection h1 with h1; subst h1; exact ⟨_, rfl, ev_ok r hG he hv⟩
    · cases h1

def PR (β : Bm) : List (Nat × AV) → List (Nat × Value) → Prop
  | [], l => l = []
  | (i, v) :: r, l => ∃ u l', l = (i, u) :: l' ∧ VR β v u ∧ PR β r l'

theorem evp_ok (r : Rel G β h w) (hG : T.G = G) {e : Env} {a : Act} (he : ER β e a.tmps) : ∀ {xs : List (Nat × Operand)} {l : List (Nat × AV)}, evp T e xs = some l → PR β l (xs.map fun p => (p.1, a.eval p.2))
  | [], l, h1 => by simp only [evp] at h1; injection h1 with h1; subst h1; rfl
  | (i, x) :: xs, l, h1 => by
    simp only [evp] at h1
    split at h1
    · rename_i v l' hv hl
      injection h1 with h1; subst h1
      exact ⟨_, _, rfl, ev_ok r hG he hv, evp_ok r hG he hl⟩
    · cases h1

theorem aload_ok (hT : TOk P T F) (r : Rel G β h w) {t : Nat} {a : AV} {o : Out} {u : Value} (h1 : aload T h.get t a = some o) (ha : VR β a u) :
    h.apply o = h ∧ GoodV P G β h w h o.v (Instr.loadAt t u) := by
  unfold aload at h1
  split at h1
  · rename_i b off ti ht
    split at h1
    · rename_i own es vs hb
      obtain ⟨v, hp, rfl⟩ := Option.map_eq_some_iff.1 h1
      obtain ⟨i, hi, rfl⟩ := ha
      obtain ⟨x, hx, hv⟩ := loadVar_ok (P := P) hT ht (r.obj b i _ hi hb) hp
      exact ⟨rfl, GoodV.same r (by simp [Instr.loadAt, Instr.sureAddr, hx]) hv⟩
    · cases h1
  · cases h1

/-! ### Writing -/
theorem over_some : ∀ {l : List AV} {o : Nat} {xs r : List AV}, over l o xs = some r → r.length = l.length ∧ (xs ≠ [] → o + xs.length ≤ l.length) ∧ ∀ j, r[j]? = if o ≤ j ∧ j < o + xs.length then xs[j - o]? else l[j]?
  | l, 0, [], r, h1 => by
    have : r = l := by cases l <;> simp [over] at h1 <;> first | exact h1 | exact h1.symm
    subst this
    exact ⟨rfl, by simp, fun j => by rw [if_neg (by simp)]⟩
  | [], o, x :: xs, r, h1 => by cases o <;> simp [over] at h1
  | [], o + 1, [], r, h1 => by simp [over] at h1
  | y :: l, 0, x :: xs, r, h1 => by
    simp only [over] at h1
    obtain ⟨r', hr, rfl⟩ := Option.map_eq_some_iff.1 h1
    obtain ⟨a, b, c⟩ := over_some hr
    refine ⟨by simp [a], fun _ => ?_, fun j => ?_⟩
    · by_cases hx : xs = []
      · subst hx; simp
      · have := b hx; simp at this ⊢; omega
    · cases j with
      | zero => simp
      | succ j =>
        have := c j
        simp only [List.getElem?_cons_succ, this]
        by_cases hj : j < xs.length
        · rw [if_pos (by simpa using hj), if_pos (by simp; omega)]; simp
        · rw [if_neg (by simpa using hj), if_neg (by simp; omega)]
  | y :: l, o + 1, xs, r, h1 => by
    have h2 : (over l o xs).map (y :: ·) = some r := by
      cases xs <;> simpa only [over] using h1
    obtain ⟨r', hr, rfl⟩ := Option.map_eq_some_iff.1 h2
    obtain ⟨a, b, c⟩ := over_some hr
    refine ⟨by simp [a], fun hx => ?_, fun j => ?_⟩
    · have := b hx; simp; omega
    · cases j with
      | zero => simp
      | succ j =>
        have := c j
        simp only [List.getElem?_cons_succ, this]
        by_cases hj : o ≤ j ∧ j < o + xs.length
        · rw [if_pos hj, if_pos (by omega)]; congr 1; omega
        · rw [if_neg hj, if_neg (by omega)]

/-- Cells written into a block. -/
theorem store_cells (r : Rel G β h w) {b : Nat} {i : BI} {es : Nat} {vs vs' : List AV} (hb : β b = some i) (hg : h.get b = some (.cells true es vs)) {o : Nat} {xs : List AV} {us : List Value} (hx : VRs β xs us)
    (h1 : xs.all AV.isCell = true) (h2 : over vs o xs = some vs') :
    ∃ w', (storeCells ⟨i.c, i.base + o, none⟩ us).run P w = .ok () w' ∧ To G β h w β (h.set b (.cells true es vs')) w' := by
  obtain ⟨hown, hes, arr, el, fr, hc, hfr, hv⟩ := r.obj b i _ hb hg
  obtain ⟨rfl, hsz⟩ := hfr rfl
  obtain ⟨a1, a2, a3⟩ := over_some h2
  have hlen := hx.length
  by_cases hnil : us = []
  · subst hnil
    have : xs = [] := by cases xs with | nil => rfl | cons _ _ => simp at hlen
    subst this
    have hvs : vs' = vs := by
      apply List.ext_getElem?
      intro j
      rw [a3 j, if_neg (by simp)]
    subst hvs
    refine ⟨w, rfl, ?_⟩
    exact To.set r hb hg rfl rfl rfl rfl rfl (fun _ _ => rfl) (r.obj b i _ hb hg)
  · have hne : xs ≠ [] := by
      intro hh; subst hh; exact hnil (List.length_eq_zero_iff.1 hlen.symm)
    have hle := a2 hne
    have hfit : i.base + o + us.length ≤ arr.size := by
      have hpos : 0 < xs.length := List.length_pos_iff.2 hne
      obtain ⟨u, hu, _⟩ := hv (o + xs.length - 1) _ (List.getElem?_eq_getElem (by omega))
      have := (Array.getElem?_eq_some_iff.1 hu).1
      omega
    have hrun := run_storeCells_at (P := P) i.c (i.base + o) el us 0 arr w hc (by simpa using hfit) (cells_one h1 hx)
    refine ⟨_, hrun, ?_⟩
    have hlt : i.c < w.heap.size := r.lt b i hb
    have hs1 : ∀ (cs : Array Value), (w.setRow i.c cs).heap[i.c]? = some (.cells cs el (0, 0)) := by
      intro cs
      exact setRow_heap w i.c arr cs el (0, 0) hc
    have hs2 : ∀ (cs : Array Value) c, c ≠ i.c → (w.setRow i.c cs).heap[c]? = w.heap[c]? := by
      intro cs c hne'
      exact setRow_other w i.c c cs hne'
    refine To.set r hb hg rfl rfl rfl rfl (by simp) (hs2 _) ?_
    refine ⟨hown, hes, _, el, (0, 0), hs1 _, fun _ => ⟨rfl, ?_⟩, ?_⟩
    · simp; omega
    · intro j v hj
      rw [a3 j] at hj
      by_cases hin : o ≤ j ∧ j < o + xs.length
      · rw [if_pos hin] at hj
        obtain ⟨u, hu, hvu⟩ := hx.get _ _ hj
        refine ⟨u, ?_, hvu⟩
        rw [List.getElem?_toArray]
        rw [List.getElem?_append_left (by simp; omega), List.getElem?_append_right (by simp; omega)]
        simp only [List.length_take, Array.length_toList]
        rw [← hu]; congr 1; omega
      · rw [if_neg hin] at hj
        obtain ⟨u, hu, hvu⟩ := hv j v hj
        have hjlt := (Array.getElem?_eq_some_iff.1 hu).1
        refine ⟨u, ?_, hvu⟩
        rw [List.getElem?_toArray]
        by_cases hl : j < o
        · rw [List.getElem?_append_left (by simp; omega), List.getElem?_append_left (by simp; omega), List.getElem?_take, if_pos (by omega)]
          simpa using hu
        · rw [List.getElem?_append_right (by simp; omega), List.getElem?_drop]
          simp only [List.length_append, List.length_take, Array.length_toList]
          rw [← hu, Array.getElem?_toList]; congr 1; omega

theorem astore_ok (hT : TOk P T F) (r : Rel G β h w) {t : Nat} {a x : AV} {o : Out} {u y : Value} (h1 : astore T h.get t a x = some o) (ha : VR β a u) (hx : VR β x y) :
    o.v = .tup [] ∧ GoodU P G β h w (h.apply o) (Instr.storeAt t u y) := by
  unfold astore at h1
  split at h1
  · rename_i b off ti xs ht hxs
    split at h1
    · rename_i es vs hb
      cases hc : (Nat.beq xs.length ti.size && xs.all AV.isCell) with
      | false => rw [hc] at h1; simp at h1
      | true =>
        rw [hc] at h1
        simp only [cond_true] at h1
        obtain ⟨vs', hov, rfl⟩ := Option.map_eq_some_iff.1 h1
        rw [Bool.and_eq_true] at hc
        obtain ⟨i, hi, rfl⟩ := ha
        have hcs := cells_ok hxs hx
        obtain ⟨w', hw', hto⟩ := store_cells (P := P) r hi hb hcs hc.2 hov
        refine ⟨rfl, w', β, ?_, hto⟩
        have hsz : y.cells.size = ti.size := by rw [← beqT.1 hc.1, hcs.length]; simp
        simp only [Instr.storeAt, Instr.sureAddr, storeVar, Sem.run_bind, Sem.run_pure, Result.andThen_ok, run_size hT ht, hsz, ne_eq, not_true_eq_false, if_false]
        exact hw'
    · cases h1
  · cases h1

end
end Go.Ai
end

section
namespace Go.Ai
open Go

section
variable {P : Program} {T : Types} {F : Funcs} {G : Nat} {β : Bm} {h : Heap} {w : World}

theorem bandT {a b : Bool} : (a && b) = true ↔ a = true ∧ b = true := by simp

theorem field_row (hT : TOk P T F) {t j : Nat} {ui : TI} {off : Nat} (h1 : T.field t j = some (ui, off)) :
    ∃ (fs : Array Field) (f : Field), P.underlying t = some (.struct fs) ∧ fs[j]? = some f ∧ T.get f.type = some ui ∧ f.offset = off ∧ (∀ f : Field, f ∈ fs.toList → ∃ i, P.info? f.type = some i) := by
  unfold Types.field at h1
  split at h1
  · rename_i l hl
    split at h1
    · rename_i u o hf
      split at h1
      · rename_i ui' hu
        injection h1 with h1
        injection h1 with h1 h2
        subst h1; subst h2
        unfold Types.fields at hl
        split at hl
        · rename_i ti ht
          split at hl
          · rename_i fs hk
            injection hl with hl; subst hl
            obtain ⟨d, hd, hkr⟩ := (hT.row t ti ht).und
            rw [hk] at hkr
            obtain ⟨fs', rfl, hm, hall⟩ := hkr
            rw [← hm, List.getElem?_map] at hf
            obtain ⟨f, hf, e⟩ := Option.map_eq_some_iff.1 hf
            injection e with e1 e2
            exact ⟨fs', f, hd, by simpa using hf, by rw [e1]; exact hu, e2, hall⟩
          · cases hl
        · cases hl
      · cases h1
    · cases h1
  · cases h1

theorem elem_row (hT : TOk P T F) {t : Nat} {ei : TI} (h1 : T.elem t = some ei) : ∃ e, P.underlying t = some (.slice e) ∧ T.get e = some ei := by
  unfold Types.elem at h1
  split at h1
  · rename_i ti ht
    split at h1
    · rename_i e hk
      obtain ⟨d, hd, hkr⟩ := (hT.row t ti ht).und
      rw [hk] at hkr
      simp only [KR] at hkr
      exact ⟨e, by rw [hd, hkr], h1⟩
    · cases h1
  · cases h1

theorem arr_row (hT : TOk P T F) {t n : Nat} {ei : TI} (h1 : T.arr t = some (n, ei)) : ∃ e, P.underlying t = some (.array n e) ∧ T.get e = some ei := by
  unfold Types.arr at h1
  split at h1
  · rename_i ti ht
    split at h1
    · rename_i n' e hk
      split at h1
      · rename_i ei' he
        injection h1 with h1; injection h1 with h1 h2
        subst h1; subst h2
        obtain ⟨d, hd, hkr⟩ := (hT.row t ti ht).und
        rw [hk] at hkr
        simp only [KR] at hkr
        exact ⟨e, by rw [hd, hkr], he⟩
      · cases h1
    · cases h1
  · cases h1

theorem map_row (hT : TOk P T F) {t k : Nat} {ei : TI} (h1 : T.mapOf t = some (k, ei)) : ∃ e, P.underlying t = some (.map k e) ∧ T.get e = some ei := by
  unfold Types.mapOf at h1
  split at h1
  · rename_i ti ht
    split at h1
    · rename_i n' e hk
      split at h1
      · rename_i ei' he
        injection h1 with h1; injection h1 with h1 h2
        subst h1; subst h2
        obtain ⟨d, hd, hkr⟩ := (hT.row t ti ht).und
        rw [hk] at hkr
        simp only [KR] at hkr
        exact ⟨e, by rw [hd, hkr], he⟩
      · cases h1
    · cases h1
  · cases h1

theorem inRange_iff {n : Int} {l : Nat} : inRange n l = true ↔ 0 ≤ n ∧ n < l := by
  unfold inRange
  rw [bandT, decide_eq_true_iff, decide_eq_true_iff]

theorem afieldAddr_ok (hT : TOk P T F) (r : Rel G β h w) {s f : Nat} {x : AV} {u : Value} {o : Out} (h1 : afieldAddr T s x f = some o) (hx : VR β x u) : h.apply o = h ∧ GoodV P G β h w h o.v (Instr.fieldAt s u f) := by
  unfold afieldAddr at h1
  split at h1
  · rename_i b off
    split at h1
    · rename_i ti foff hf
      cases hz : Nat.beq ti.size 0 with
      | true => rw [hz] at h1; simp at h1
      | false =>
        rw [hz] at h1
        simp at h1
        subst h1
        obtain ⟨i, hi, rfl⟩ := hx
        obtain ⟨fs', fl, hu, hfl, ht, ho', _⟩ := field_row hT hf
        refine ⟨rfl, GoodV.same r (u := .pointer (some ⟨i.c, i.base + off + foff, none⟩)) ?_ ⟨i, hi, by rw [Nat.add_assoc]⟩⟩
        have hne : ti.size ≠ 0 := beqF.1 hz
        simp [Instr.fieldAt, run_underlying hu, hfl, Instr.sureAddr, fieldPlace, run_size hT ht, hne, ho', add_none]
    · cases h1
  · cases h1

theorem afield_ok (hT : TOk P T F) (r : Rel G β h w) {s f : Nat} {x : AV} {u : Value} {o : Out} (h1 : afield T s x f = some o) (hx : VR β x u) : h.apply o = h ∧ GoodV P G β h w h o.v (Instr.field s u f) := by
  unfold afield at h1
  split at h1
  · rename_i l
    split at h1
    · rename_i ti foff hf
      obtain ⟨v, hp, rfl⟩ := Option.map_eq_some_iff.1 h1
      obtain ⟨arr, rfl, hl⟩ := hx
      obtain ⟨fs', fl, hu, hfl, ht, ho', _⟩ := field_row hT hf
      obtain ⟨y, hy, hv⟩ := part_ok hT ht hl hp w
      refine ⟨rfl, GoodV.same r ?_ hv⟩
      simp [Instr.field, run_underlying hu, hfl, asAgg, ho', hy]
    · cases h1
  · cases h1

theorem aindexAddr_ok (hT : TOk P T F) (r : Rel G β h w) {t : Nat} {x i : AV} {u y : Value} {o : Out} (h1 : aindexAddr T t x i = some o) (hx : VR β x u) (hi : VR β i y) : h.apply o = h ∧ GoodV P G β h w h o.v (Instr.indexAt t u y) := by
  unfold aindexAddr at h1
  split at h1
  · rename_i k n
    cases hi
    split at h1
    · rename_i b off l _ _
      split at h1
      · rename_i ei he
        cases hc : inRange n l with
        | false => rw [hc] at h1; simp at h1
        | true =>
          rw [hc] at h1
          simp at h1
          subst h1
          obtain ⟨h0, h2⟩ := inRange_iff.1 hc
          obtain ⟨bi, cc, hb, rfl, _⟩ := hx
          obtain ⟨e, hu, he⟩ := elem_row hT he
          refine ⟨rfl, GoodV.same r (u := .pointer (some ⟨bi.c, bi.base + off + n.toNat * ei.size, none⟩)) ?_ ⟨bi, hb, by rw [Nat.add_assoc]⟩⟩
          simp [Instr.indexAt, asIntOf, run_underlying hu, h0, h2, run_size hT he, add_none]
      · cases h1
    · rename_i b off
      split at h1
      · rename_i l ei he
        cases hc : inRange n l with
        | false => rw [hc] at h1; simp at h1
        | true =>
          rw [hc] at h1
          simp at h1
          subst h1
          obtain ⟨h0, h2⟩ := inRange_iff.1 hc
          obtain ⟨bi, hb, rfl⟩ := hx
          obtain ⟨e, hu, he⟩ := arr_row hT he
          refine ⟨rfl, GoodV.same r (u := .pointer (some ⟨bi.c, bi.base + off + n.toNat * ei.size, none⟩)) ?_ ⟨bi, hb, by rw [Nat.add_assoc]⟩⟩
          simp [Instr.indexAt, asIntOf, Instr.sureAddr, run_underlying hu, h0, h2, run_size hT he, add_none]
      · cases h1
    · cases h1
  · cases h1

theorem aindex_ok (hT : TOk P T F) (r : Rel G β h w) {t : Nat} {x i : AV} {u y : Value} {o : Out} (h1 : aindex T t x i = some o) (hx : VR β x u) (hi : VR β i y) : h.apply o = h ∧ GoodV P G β h w h o.v (Instr.index t u y) := by
  unfold aindex at h1
  split at h1
  · rename_i k n
    cases hi
    split at h1
    · rename_i cs
      split at h1
      · rename_i l ei he
        cases hc : inRange n l with
        | false => rw [hc] at h1; simp at h1
        | true =>
          rw [hc] at h1
          simp only [cond_true] at h1
          obtain ⟨v, hp, rfl⟩ := Option.map_eq_some_iff.1 h1
          obtain ⟨h0, h2⟩ := inRange_iff.1 hc
          obtain ⟨arr, rfl, hl⟩ := hx
          obtain ⟨e, hu, he⟩ := arr_row hT he
          obtain ⟨y, hy, hv⟩ := part_ok hT he hl hp w
          refine ⟨rfl, GoodV.same r ?_ hv⟩
          simp [Instr.index, asIntOf, run_underlying hu, h0, h2, run_size hT he, hy]
      · cases h1
    · cases h1
  · cases h1

/-! ### Aggregates -/
theorem over_fit : ∀ {l : List AV} {o : Nat} {xs r : List AV}, over l o xs = some r → o + xs.length ≤ l.length
  | l, 0, [], r, _ => by simp
  | [], 0, x :: xs, r, h1 => by simp [over] at h1
  | [], o + 1, xs, r, h1 => by cases xs <;> simp [over] at h1
  | y :: l, 0, x :: xs, r, h1 => by
    simp only [over] at h1
    obtain ⟨r', hr, rfl⟩ := Option.map_eq_some_iff.1 h1
    have := over_fit hr
    simp at this ⊢; omega
  | y :: l, o + 1, xs, r, h1 => by
    have h2 : (over l o xs).map (y :: ·) = some r := by
      cases xs <;> simpa only [over] using h1
    obtain ⟨r', hr, rfl⟩ := Option.map_eq_some_iff.1 h2
    have := over_fit hr
    simp at this ⊢; omega

theorem fold_set (off : Nat) : ∀ (xs : List Value) (k : Nat) (arr : Array Value),
    ((xs.zipIdx k).foldl (fun (cs : Array Value) (p : Value × Nat) => cs.setIfInBounds (off + p.2) p.1) arr).size = arr.size ∧
    ∀ m, off + k + xs.length ≤ arr.size → ((xs.zipIdx k).foldl (fun (cs : Array Value) (p : Value × Nat) => cs.setIfInBounds (off + p.2) p.1) arr)[m]? = if off + k ≤ m ∧ m < off + k + xs.length then xs[m - off - k]? else arr[m]?
  | [], k, arr => ⟨rfl, fun m _ => by rw [if_neg (by simp)]; rfl⟩
  | x :: xs, k, arr => by
    simp only [List.zipIdx_cons, List.foldl_cons]
    obtain ⟨a, b⟩ := fold_set off xs (k + 1) (arr.setIfInBounds (off + k) x)
    refine ⟨by rw [a]; simp, fun m hm => ?_⟩
    simp only [List.length_cons] at hm
    rw [b m (by simp; omega)]
    by_cases h1 : off + (k + 1) ≤ m ∧ m < off + (k + 1) + xs.length
    · rw [if_pos h1, if_pos (by simp; omega)]
      rw [show m - off - k = (m - off - (k + 1)) + 1 by omega, List.getElem?_cons_succ]
    · rw [if_neg h1]
      by_cases h2 : m = off + k
      · subst h2
        rw [if_pos (by simp)]
        rw [show off + k - off - k = 0 by omega, List.getElem?_cons_zero, Array.getElem?_setIfInBounds, if_pos rfl, if_pos (by omega)]
      · rw [if_neg (by simp; omega), Array.getElem?_setIfInBounds, if_neg (by omega)]

theorem fill_ok {place place' : Nat → Option (Nat × Nat)} (hp : ∀ i x, place i = some x → place' i = some x) :
    ∀ {ps : List (Nat × AV)} {qs : List (Nat × Value)} {cs r : List AV} {arr : Array Value}, PR β ps qs → VRs β cs arr.toList → fill place cs ps = some r → ∃ arr', Instr.fill place' arr qs = some arr' ∧ VRs β r arr'.toList
  | [], qs, cs, r, arr, h1, h2, h3 => by
    simp only [PR] at h1; subst h1
    simp only [fill] at h3; injection h3 with h3; subst h3
    exact ⟨arr, rfl, h2⟩
  | (i, v) :: ps, qs, cs, r, arr, h1, h2, h3 => by
    obtain ⟨u, qs', rfl, hv, hq⟩ := h1
    simp only [fill] at h3
    split at h3
    · rename_i off s xs hpl hxs
      cases hs : Nat.beq xs.length s with
      | false => rw [hs] at h3; simp at h3
      | true =>
        rw [hs] at h3
        simp only [cond_true] at h3
        split at h3
        · rename_i cs' hov
          have hc := cells_ok hxs hv
          obtain ⟨a1, _, a3⟩ := over_some hov
          have hfit := over_fit hov
          have hlen := h2.length
          have hxl := hc.length
          have hsz : u.cells.size = s := by rw [← beqT.1 hs, hxl]; simp
          have hle : off + u.cells.size ≤ arr.size := by simp at hlen hxl; omega
          obtain ⟨f1, f2⟩ := fold_set off u.cells.toList 0 arr
          have hfold : u.cells.zipIdx.foldl (fun (cs : Array Value) (p : Value × Nat) => cs.setIfInBounds (off + p.2) p.1) arr = (u.cells.toList.zipIdx 0).foldl (fun (cs : Array Value) (p : Value × Nat) => cs.setIfInBounds (off + p.2) p.1) arr := by
            rw [← Array.foldl_toList, Array.toList_zipIdx]
          have hnew : VRs β cs' ((u.cells.toList.zipIdx 0).foldl (fun (cs : Array Value) (p : Value × Nat) => cs.setIfInBounds (off + p.2) p.1) arr).toList := by
            refine VRs.of_get (by rw [a1, hlen]; simp [f1]) ?_
            intro j a v' ha hv'
            rw [Array.getElem?_toList, f2 j (by simpa using hle)] at hv'
            rw [a3 j] at ha
            have hxl' : xs.length = u.cells.toList.length := hxl
            by_cases hin : off ≤ j ∧ j < off + xs.length
            · rw [if_pos hin] at ha
              rw [if_pos (by rw [← hxl']; omega)] at hv'
              obtain ⟨y, hy, hvy⟩ := hc.get _ _ ha
              rw [show j - off - 0 = j - off by omega, hy] at hv'
              injection hv' with hv'; subst hv'; exact hvy
            · rw [if_neg hin] at ha
              rw [if_neg (by rw [← hxl']; omega)] at hv'
              obtain ⟨y, hy, hvy⟩ := h2.get _ _ ha
              rw [Array.getElem?_toList, hv'] at hy
              injection hy with hy; subst hy; exact hvy
          obtain ⟨arr', e1, e2⟩ := fill_ok hp hq hnew h3
          refine ⟨arr', ?_, e2⟩
          simp only [Instr.fill, hp _ _ hpl, hsz, ne_eq, not_true_eq_false, decide_false, Bool.false_or, Bool.or_eq_true, decide_eq_true_eq]
          rw [if_neg (by omega)]
          rw [← hfold] at e1
          exact e1
        · cases h3
    · cases h3

theorem fill_length {place : Nat → Option (Nat × Nat)} : ∀ {ps : List (Nat × AV)} {cs r : List AV}, fill place cs ps = some r → r.length = cs.length
  | [], cs, r, h1 => by simp only [fill] at h1; injection h1 with h1; rw [h1]
  | (i, v) :: ps, cs, r, h1 => by
    simp only [fill] at h1
    split at h1
    · rename_i off s xs _ _
      cases hs : Nat.beq xs.length s with
      | false => rw [hs] at h1; simp at h1
      | true =>
        rw [hs] at h1
        simp only [cond_true] at h1
        split at h1
        · rename_i cs' hov
          rw [fill_length h1, (over_some hov).1]
        · cases h1
    · cases h1

theorem PR.toArray {ps : List (Nat × AV)} {qs : List (Nat × Value)} (h1 : PR β ps qs) : PR β ps qs.toArray.toList := by simpa using h1

theorem places_ok (hT : TOk P T F) {t : Nat} {fs : Array Field} (hu : P.underlying t = some (.struct fs)) (hinfo : ∀ f : Field, f ∈ fs.toList → ∃ i, P.info? f.type = some i) :
    ∃ places, fs.toList.mapM (fun f : Field => (P.info? f.type).map fun i => (f.offset, i.size)) = some places ∧ ∀ j ui off, T.field t j = some (ui, off) → places[j]? = some (off, ui.size) := by
  obtain ⟨places, hpl⟩ : ∃ places, fs.toList.mapM (fun f : Field => (P.info? f.type).map fun i => (f.offset, i.size)) = some places := by
    have : ∀ (l : List Field), (∀ f : Field, f ∈ l → ∃ i, P.info? f.type = some i) → ∃ places, l.mapM (fun f : Field => (P.info? f.type).map fun i => (f.offset, i.size)) = some places := by
      intro l
      induction l with
      | nil => intro _; exact ⟨[], by simp⟩
      | cons f l ih =>
        intro hl
        obtain ⟨i, hi⟩ := hl f (by simp)
        obtain ⟨p, hp⟩ := ih (fun x hx => hl x (by simp [hx]))
        exact ⟨(f.offset, i.size) :: p, by simp [List.mapM_cons, hi, hp]⟩
    exact this _ hinfo
  refine ⟨places, hpl, fun j ui off hj => ?_⟩
  obtain ⟨fs', fl, hu', hfl, ht, ho', _⟩ := field_row hT hj
  rw [hu] at hu'
  injection hu' with hu'; injection hu' with hu'; subst hu'
  obtain ⟨i, hi, hs, _⟩ := (hT.row _ _ ht).info
  have hget : ∀ (l : List Field) (ps : List (Nat × Nat)), l.mapM (fun f : Field => (P.info? f.type).map fun i => (f.offset, i.size)) = some ps → ∀ (j : Nat) (f : Field), l[j]? = some f → ((P.info? f.type).map fun i => (f.offset, i.size)) = ps[j]? := by
    intro l
    induction l with
    | nil => intro ps _ j f hf; simp at hf
    | cons x l ih =>
      intro ps hps j f hf
      simp only [List.mapM_cons, Option.bind_eq_bind, Option.pure_def] at hps
      obtain ⟨y, hy, hps⟩ := Option.bind_eq_some_iff.1 hps
      obtain ⟨ys, hys, hps⟩ := Option.bind_eq_some_iff.1 hps
      injection hps with hps; subst hps
      cases j with
      | zero => simp at hf; subst hf; simpa using hy
      | succ j => simp at hf; simpa using ih ys hys j f hf
  rw [← hget _ _ hpl j fl (by simpa using hfl), hi]
  simp [ho', hs]

theorem abuild_ok (hT : TOk P T F) (r : Rel G β h w) {t : Nat} {ps : List (Nat × AV)} {qs : Array (Nat × Value)} {o : Out} (h1 : abuild T t ps = some o) (hq : PR β ps qs.toList) :
    h.apply o = h ∧ GoodV P G β h w h o.v (Instr.build t qs) := by
  unfold abuild at h1
  split at h1
  · rename_i ti ht
    obtain ⟨it, hit, _, _, zv, hz, hzv⟩ := (hT.row _ _ ht).info
    obtain ⟨d, hd, hkr⟩ := (hT.row t ti ht).und
    split at h1
    · rename_i z hzero
      have hzb := hzv β
      rw [hzero] at hzb
      obtain ⟨za, rfl, hza⟩ := hzb
      split at h1
      · rename_i n e hk
        split at h1
        · rename_i ei he
          obtain ⟨l, hl, rfl⟩ := Option.map_eq_some_iff.1 h1
          rw [hk] at hkr
          simp only [KR] at hkr
          subst hkr
          obtain ⟨ie, hie, hies, _⟩ := (hT.row _ _ he).info
          obtain ⟨arr', e1, e2⟩ := fill_ok (place' := fun i => some (i * ie.size, ie.size)) (by intro i x hx; rw [hies]; exact hx) hq hza hl
          refine ⟨rfl, GoodV.same r (run_build w t qs arr' ?_) ⟨arr', rfl, e2⟩⟩
          simp [Program.built, hit, hd, hz, hie, Value.cells, e1]
        · cases h1
      · rename_i fs hk
        obtain ⟨l, hl, rfl⟩ := Option.map_eq_some_iff.1 h1
        rw [hk] at hkr
        obtain ⟨fs', rfl, hm, hall⟩ := hkr
        obtain ⟨places, hpl, hpget⟩ := places_ok hT hd hall
        obtain ⟨arr', e1, e2⟩ := fill_ok (place' := fun x => places[x]?) (by
          intro i x hx
          split at hx
          · rename_i ui off hf
            injection hx with hx; subst hx
            exact hpget _ _ _ hf
          · cases hx) hq hza hl
        refine ⟨rfl, GoodV.same r (run_build w t qs arr' ?_) ⟨arr', rfl, e2⟩⟩
        simp [Program.built, hit, hd, hz, hpl, Value.cells, e1]
      · cases h1
    · cases h1
  · cases h1

/-! ### New blocks -/
theorem new_cells (r : Rel G β h w) (hf : β h.nx = none) {es : Nat} {vs : List AV} {arr : Array Value} {el : TypeId} (hl : VRs β vs (arr.toList.take vs.length)) (d : Nat) :
    To G β h w (β.upd h.nx ⟨w.heap.size, 0, arr.size, es, true⟩) (h.push (.cells true es vs)) (pushed (dr w d) (.cells arr el)) := by
  refine (To.draw r d).trans (To.push (r.draw d) hf (i := ⟨w.heap.size, 0, arr.size, es, true⟩) rfl ?_) r
  refine ⟨rfl, rfl, arr, el, (0, 0), pushed_new (dr w d) _, fun _ => ⟨rfl, rfl⟩, fun j v hj => ?_⟩
  obtain ⟨u, hu, hv⟩ := hl.get j v hj
  rw [List.getElem?_take] at hu
  split at hu
  · exact ⟨u, by simpa using hu, VR.mono (Bm.grow_upd _ hf).1 _ _ hv⟩
  · cases hu

theorem abox_ok (hT : TOk P T F) (r : Rel G β h w) {t : Nat} {v : AV} {u : Value} {o : Out} (h1 : abox T h.nx t v = some o) (hv : VR β v u) (hf : o.nw ≠ [] → β h.nx = none) :
    GoodV P G β h w (h.apply o) o.v (do pure (.pointer (some (← newVar t u)))) := by
  unfold abox at h1
  split at h1
  · rename_i ti cs ht hcs
    cases hc : (Nat.beq cs.length ti.size && cs.all AV.isCell) with
    | false => rw [hc] at h1; simp at h1
    | true =>
      rw [hc] at h1
      simp at h1
      subst h1
      have hf := hf (by simp)
      have hl := cells_ok hcs hv
      have hlen := hl.length
      have hto := new_cells (G := G) r hf (es := ti.size) (vs := cs) (arr := u.cells) (el := t) (by rw [hlen, List.take_length]; exact hl) w.drawn
      refine ⟨.pointer (some ⟨w.heap.size, 0, none⟩), _, _, ?_, ?_, hto⟩
      · simp [newVar, newRow]; rfl
      · exact ⟨_, Bm.upd_same _ _ _, rfl⟩
  · cases h1

theorem reps_length (n : Nat) (z : List AV) : (reps n z).length = n * z.length := by
  induction n with
  | zero => simp [reps]
  | succ n ih => simp [reps, ih, Nat.succ_mul]; omega

theorem made_ok {z : List AV} {zc : Array Value} (hz : VRs β z zc.toList) : ∀ n, VRs β (reps n z) ((Array.range (n * zc.size)).map (zc[· % zc.size]!)).toList := by
  intro n
  by_cases h0 : zc.size = 0
  · have hzl := hz.length
    have : z = [] := by apply List.length_eq_zero_iff.1; rw [hzl]; simp [h0]
    subst this
    have hr : ∀ n, reps n ([] : List AV) = [] := by intro n; induction n with | zero => rfl | succ n ih => simp [reps, ih]
    rw [hr]
    simp [h0, VRs]
  · refine VRs.of_get (by rw [reps_length, hz.length]; simp) ?_
    intro j a v ha hv
    have hzl : z.length = zc.size := by rw [hz.length]; simp
    have hj : j < n * zc.size := by
      have := (List.getElem?_eq_some_iff.1 ha).1
      rw [reps_length, hzl] at this; exact this
    have hrep : ∀ n j, j < n * z.length → (reps n z)[j]? = z[j % z.length]? := by
      intro n
      induction n with
      | zero => intro j hj; omega
      | succ n ih =>
        intro j hj
        simp only [reps]
        by_cases hlt : j < z.length
        · rw [List.getElem?_append_left hlt, Nat.mod_eq_of_lt hlt]
        · rw [List.getElem?_append_right (by omega), ih _ (by rw [Nat.succ_mul] at hj; omega)]
          congr 1
          rw [← Nat.mod_eq_sub_mod (by omega)]
    rw [hrep n j (by rw [hzl]; exact hj), hzl] at ha
    obtain ⟨u, hu, hvu⟩ := hz.get _ _ ha
    simp [hj] at hv
    have hm : j % zc.size < zc.size := Nat.mod_lt _ (by omega)
    rw [Array.getElem?_toList, Array.getElem?_eq_getElem hm] at hu
    injection hu with hu
    have : zc[j % zc.size]! = zc[j % zc.size] := by simp [hm]
    rw [← hv, this, hu]
    exact hvu

theorem abuildSlice_ok (hT : TOk P T F) (r : Rel G β h w) {t n : Nat} {ps : List (Nat × AV)} {qs : Array (Nat × Value)} {o : Out} (h1 : abuildSlice T h.nx t n ps = some o) (hq : PR β ps qs.toList) (hf : o.nw ≠ [] → β h.nx = none) :
    GoodV P G β h w (h.apply o) o.v (Instr.buildSlice t n qs) := by
  unfold abuildSlice at h1
  split at h1
  · rename_i ei hel
    split at h1
    · rename_i z hz
      cases hc : (Nat.ble (n * ei.size) (2 ^ 24) && Nat.blt 0 ei.size && Nat.beq z.length ei.size) with
      | false => rw [hc] at h1; simp at h1
      | true =>
        rw [hc] at h1
        simp only [cond_true] at h1
        split at h1
        · rename_i cs hcs
          cases hall : cs.all AV.isCell with
          | false => rw [hall] at h1; simp at h1
          | true =>
            rw [hall] at h1
            simp at h1
            subst h1
            have hf := hf (by simp)
            rw [bandT, bandT] at hc
            have c1 := bleT.1 hc.1.1
            have c2 := bltT.1 hc.1.2
            have c3 := beqT.1 hc.2
            obtain ⟨e, hu, he⟩ := elem_row hT hel
            obtain ⟨zv, hzr, hzv⟩ := run_zero hT he
            have hzc := cells_ok hz (hzv β)
            have hzl : zv.cells.size = ei.size := by rw [← c3, hzc.length]; simp
            have hmade := made_ok hzc n
            obtain ⟨arr', e1, e2⟩ := fill_ok (place' := fun i => some (i * ei.size, ei.size)) (by intro i x hx; exact hx) hq hmade hcs
            have hlen := e2.length
            have hto := new_cells (G := G) r hf (es := ei.size) (vs := cs) (arr := arr') (el := e) (by rw [hlen, List.take_length]; exact e2) w.drawn
            refine ⟨.slice (some ⟨w.heap.size, 0, none⟩) n n, _, _, ?_, ?_, hto⟩
            · have hle : ¬ (n * ei.size > 2 ^ 24) := by omega
              rw [hzl] at e1
              by_cases hn : n * ei.size = 0
              · have hn0 : n = 0 := by
                  rcases Nat.eq_zero_or_pos n with h0 | h0
                  · exact h0
                  · have := Nat.mul_pos h0 c2; omega
                subst hn0
                have e1' : Instr.fill (fun i => some (i * ei.size, ei.size)) #[] qs.toList = some arr' := by simpa [Array.range_zero'] using e1
                simp [Instr.buildSlice, run_underlying hu, run_size hT he, e1', newRow, Array.range_zero']
                rfl
              · simp [Instr.buildSlice, run_underlying hu, run_size hT he, hle, hn, hzr, hzl, e1, newRow]
                rfl
            · refine ⟨_, n, Bm.upd_same _ _ _, rfl, Nat.le_refl _, Nat.le_refl _, fun _ => rfl, fun _ => ?_⟩
              have : arr'.size = n * ei.size := by
                have := fill_length hcs
                rw [reps_length, c3] at this
                simp at hlen; omega
              simp [this]
        · cases h1
    · cases h1
  · cases h1

end
end Go.Ai
end

section
namespace Go.Ai
open Go

section
variable {P : Program} {T : Types} {F : Funcs} {G : Nat} {β : Bm} {h : Heap} {w : World}

theorem amakeSlice_ok (hT : TOk P T F) (r : Rel G β h w) {t : Nat} {l c : AV} {u v : Value} {o : Out} (h1 : amakeSlice T h.nx t l c = some o) (hl : VR β l u) (hc : VR β c v) (hf : o.nw ≠ [] → β h.nx = none) :
    GoodV P G β h w (h.apply o) o.v (Instr.makeSlice t u v) := by
  unfold amakeSlice at h1
  split at h1
  · rename_i kl l' kc c'
    cases hl; cases hc
    split at h1
    · rename_i ei hel
      split at h1
      · rename_i z hz
        cases hb : (decide (0 ≤ l') && decide (l' ≤ c') && decide (c' ≤ (small : Int)) && Nat.ble ei.bytes 65536 && Nat.blt 0 ei.size && Nat.beq z.length ei.size && z.all AV.isCell) with
        | false => rw [hb] at h1; simp at h1
        | true =>
          rw [hb] at h1
          simp at h1
          subst h1
          have hf := hf (by simp)
          simp only [bandT, decide_eq_true_iff, bleT, bltT, beqT] at hb
          obtain ⟨⟨⟨⟨⟨⟨b1, b2⟩, b3⟩, b4⟩, b5⟩, b6⟩, b7⟩ := hb
          obtain ⟨e, hu, he⟩ := elem_row hT hel
          obtain ⟨i, hi, his, hib, zv, hzv, hzr⟩ := (hT.row _ _ he).info
          have hzc := cells_ok hz (hzr β)
          have hzl : zv.cells.size = ei.size := by rw [← b6, hzc.length]; simp
          have hmade := made_ok hzc c'.toNat
          rw [hzl] at hmade
          have hsm : (small : Int) = 2147483648 := by decide
          have hrun := run_make (P := P) w t e i zv hu hi hzv kl kc l' c' b1 b2 (by
            rw [hib]
            have : (ei.bytes : Int) ≤ 65536 := by omega
            have h2 : (ei.bytes : Int) * c' ≤ 65536 * 2147483648 := Int.mul_le_mul this (by omega) (by omega) (by omega)
            omega) (by omega)
          have hsz : (madeCells zv.cells (c'.toNat * i.size)).toList.take (reps c'.toNat z).length = (madeCells zv.cells (c'.toNat * i.size)).toList := by
            apply List.take_of_length_le
            rw [reps_length, b6, his]; simp [size_madeCells]
          have hto := new_cells (G := G) r hf (es := ei.size) (vs := reps c'.toNat z) (arr := madeCells zv.cells (c'.toNat * i.size)) (el := e) (by
            rw [hsz, his]; unfold madeCells
            rw [hzl]
            exact hmade) w.drawn
          refine ⟨_, _, _, hrun, ?_, hto⟩
          refine ⟨_, c'.toNat, Bm.upd_same _ _ _, rfl, by omega, Nat.le_refl _, fun _ => rfl, fun _ => ?_⟩
          simp [size_madeCells, his]
      · cases h1
    · cases h1
  · cases h1

theorem bound_ok {y y' : Nat} (hy : y ≤ y') {x : AV} {u : Value} {n : Nat} (h1 : bound y x = some n) (hx : VR β x u) (code : BoundsCode) (w : World) : n ≤ y ∧ (Instr.sliceBound u y' code).run P w = .ok n w := by
  unfold bound at h1
  split at h1
  · rename_i k i
    cases hx
    cases hb : (decide (0 ≤ i) && decide (i ≤ (y : Int))) with
    | false => rw [hb] at h1; simp at h1
    | true =>
      rw [hb] at h1
      simp at h1
      subst h1
      simp only [bandT, decide_eq_true_iff] at hb
      have h2 : 0 ≤ i ∧ i ≤ (y' : Int) := by omega
      exact ⟨by omega, by simp [Instr.sliceBound, asIntOf, h2]⟩
  · cases h1

/-- an optional operand -/
def OV (β : Bm) : Option AV → Option Value → Prop
  | none, u => u = none
  | some v, u => ∃ u', u = some u' ∧ VR β v u'

theorem run_bounds {l c cc : Nat} {ex : Bool} (hlc : l ≤ c) (hcc : c ≤ cc) (hex : ex = true → cc = c) {lo hi mx : Option AV} {lo' hi' mx' : Option Value} (h2 : OV β lo lo') (h3 : OV β hi hi') (h4 : OV β mx mx')
    {m hh ll : Nat} {mex : Bool} (e1 : mxOf c ex mx = some (m, mex)) (e2 : hiOf l m mx.isSome hi = some hh) (e3 : loOf hh lo = some ll) (w : World) :
    ∃ m', m ≤ m' ∧ (mex = true → m' = m) ∧ m' ≤ cc ∧ ll ≤ hh ∧ hh ≤ m ∧ (Instr.sliceBounds true l cc lo' hi' mx').run P w = .ok (ll, hh, m') w := by
  unfold Instr.sliceBounds
  cases mx with
  | none =>
    simp only [mxOf] at e1
    injection e1 with e1; injection e1 with e1 e1'
    subst e1; subst e1'
    cases h4
    refine ⟨cc, hcc, hex, Nat.le_refl _, ?_⟩
    cases hi with
    | none =>
      simp only [hiOf, Option.isSome_none, cond_false] at e2
      injection e2 with e2; subst e2
      cases h3
      cases lo with
      | none => simp only [loOf] at e3; injection e3 with e3; subst e3; cases h2; exact ⟨Nat.zero_le _, hlc, by simp⟩
      | some v =>
        simp only [loOf] at e3
        obtain ⟨u', rfl, hv⟩ := h2
        obtain ⟨k1, k2⟩ := bound_ok (P := P) (Nat.le_refl _) e3 hv .sliceB w
        exact ⟨k1, hlc, by simp [k2]⟩
    | some v =>
      simp only [hiOf] at e2
      obtain ⟨u', rfl, hv⟩ := h3
      obtain ⟨k1, k2⟩ := bound_ok (P := P) hcc e2 hv .sliceAcap w
      cases lo with
      | none => simp only [loOf] at e3; injection e3 with e3; subst e3; cases h2; exact ⟨Nat.zero_le _, k1, by simp [k2]⟩
      | some v2 =>
        simp only [loOf] at e3
        obtain ⟨u2, rfl, hv2⟩ := h2
        obtain ⟨j1, j2⟩ := bound_ok (P := P) (Nat.le_refl _) e3 hv2 .sliceB w
        exact ⟨j1, k1, by simp [k2, j2]⟩
  | some vm =>
    simp only [mxOf] at e1
    obtain ⟨m0, em, e1⟩ := Option.map_eq_some_iff.1 e1
    injection e1 with e1 e1'
    subst e1; subst e1'
    obtain ⟨um, rfl, hvm⟩ := h4
    obtain ⟨i1, i2⟩ := bound_ok (P := P) hcc em hvm .slice3Acap w
    refine ⟨m0, Nat.le_refl _, fun _ => rfl, by omega, ?_⟩
    cases hi with
    | none => simp [hiOf] at e2
    | some v =>
      simp only [hiOf] at e2
      obtain ⟨u', rfl, hv⟩ := h3
      obtain ⟨k1, k2⟩ := bound_ok (P := P) (Nat.le_refl _) e2 hv .slice3B w
      cases lo with
      | none => simp only [loOf] at e3; injection e3 with e3; subst e3; cases h2; exact ⟨Nat.zero_le _, k1, by simp [i2, k2]⟩
      | some v2 =>
        simp only [loOf] at e3
        obtain ⟨u2, rfl, hv2⟩ := h2
        obtain ⟨j1, j2⟩ := bound_ok (P := P) (Nat.le_refl _) e3 hv2 .slice3C w
        exact ⟨j1, k1, by simp [i2, k2, j2]⟩

theorem aslice_ok (hT : TOk P T F) (r : Rel G β h w) {t : Nat} {x : AV} {lo hi mx : Option AV} {u : Value} {lo' hi' mx' : Option Value} {o : Out} (h1 : aslice T h.get t x lo hi mx = some o) (hx : VR β x u)
    (h2 : OV β lo lo') (h3 : OV β hi hi') (h4 : OV β mx mx') : h.apply o = h ∧ GoodV P G β h w h o.v (Instr.sliceAt t u lo' hi' mx') := by
  unfold aslice at h1
  split at h1
  · rename_i ei hel
    obtain ⟨e, hu, he⟩ := elem_row hT hel
    have hsl : (Instr.sliceAt t u lo' hi' mx').run P w = (Instr.slice t u lo' hi' mx').run P w := by simp [Instr.sliceAt, run_underlying hu]
    split at h1
    · rename_i b off l c ex
      obtain ⟨i, cc, hb, rfl, hlc, hcc, hex, hfit⟩ := hx
      split at h1
      · cases h1
      · rename_i m mex e1
        split at h1
        · cases h1
        · rename_i hh e2
          split at h1
          · cases h1
          · rename_i ll e3
            obtain ⟨m', m1, m2, m3, m4, m5, hbnd⟩ := run_bounds (P := P) hlc hcc hex h2 h3 h4 e1 e2 e3 w
            have hrun : (Instr.slice t (.slice (some ⟨i.c, i.base + off, none⟩) l cc) lo' hi' mx').run P w =
                .ok (.slice (some (if m' = ll then ⟨i.c, i.base + off, none⟩ else ⟨i.c, i.base + off + ll * ei.size, none⟩)) (hh - ll) (m' - ll)) w := by
              simp only [Instr.slice, Sem.run_bind, run_underlying hu, Result.andThen_ok, hbnd, run_size hT he, Sem.run_pure]
              split
              · rfl
              · simp [add_none]
            by_cases hl0 : ll = 0
            · subst hl0
              rw [beqT.2 rfl] at h1
              simp only [cond_true] at h1
              injection h1 with h1; subst h1
              refine ⟨rfl, GoodV.same r (hsl.trans hrun) ⟨i, m', hb, ?_, m5, m1, m2, fun ho => ?_⟩⟩
              · have : (if m' = 0 then (⟨i.c, i.base + off, none⟩ : Addr) else ⟨i.c, i.base + off + 0 * ei.size, none⟩) = ⟨i.c, i.base + off, none⟩ := by split <;> simp
                rw [this]; simp
              · have hf := hfit ho
                have : m' * i.es ≤ cc * i.es := Nat.mul_le_mul_right _ m3
                omega
            · rw [beqF.2 hl0] at h1
              simp only [cond_false] at h1
              by_cases hlm : ll < m
              · rw [bltT.2 hlm] at h1
                simp only [cond_true] at h1
                split at h1
                · rename_i own es vs hg
                  cases hc : (!own || Nat.beq es ei.size) with
                  | false => rw [hc] at h1; simp at h1
                  | true =>
                    rw [hc] at h1
                    simp only [cond_true] at h1
                    injection h1 with h1; subst h1
                    refine ⟨rfl, GoodV.same r (hsl.trans hrun) ⟨i, m' - ll, hb, ?_, by omega, by omega, fun hm => by have := m2 hm; omega, fun ho => ?_⟩⟩
                    · rw [if_neg (by omega), Nat.add_assoc]
                    · obtain ⟨x1, x2, _⟩ := r.obj b i _ hb hg
                      rw [ho] at x1
                      rw [← x1] at hc
                      have hes : ei.size = i.es := by rw [x2]; exact (beqT.1 (by simpa using hc)).symm
                      have hf := hfit ho
                      rw [hes]
                      have q1 : m' * i.es ≤ cc * i.es := Nat.mul_le_mul_right _ m3
                      have q2 : ll * i.es + (m' - ll) * i.es = m' * i.es := by rw [← Nat.add_mul]; congr 1; omega
                      omega
                · cases h1
              · rw [bltF.2 (by omega)] at h1
                simp only [cond_false] at h1
                injection h1 with h1; subst h1
                refine ⟨rfl, GoodV.same r (hsl.trans hrun) ?_⟩
                have : hh - ll = 0 := by omega
                rw [this]
                exact ⟨_, _, rfl⟩
    · cases hx
      split at h1
      · cases h1
      · rename_i m mex e1
        split at h1
        · cases h1
        · rename_i hh e2
          split at h1
          · cases h1
          · rename_i ll e3
            injection h1 with h1; subst h1
            obtain ⟨m', m1, m2, m3, m4, m5, hbnd⟩ := run_bounds (P := P) (Nat.le_refl 0) (Nat.le_refl 0) (fun _ => rfl) h2 h3 h4 e1 e2 e3 w
            refine ⟨rfl, GoodV.same r (u := .slice none 0 0) (hsl.trans ?_) rfl⟩
            have a1 : hh - ll = 0 := by omega
            have a2 : m' - ll = 0 := by omega
            simp only [Instr.slice, Sem.run_bind, run_underlying hu, Result.andThen_ok, hbnd, run_size hT he, Sem.run_pure, a1, a2]
            split <;> rfl
    · cases h1
  · cases h1

end
end Go.Ai
end
