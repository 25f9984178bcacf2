/- AiWN -/
import Derived.Test.YthgkkbaaedefhaaAiWM
set_option linter.unusedVariables false
set_option linter.unusedSimpArgs false
namespace Go.Ai
open Go Go.ChangeShapes Go.WideShapes Go.ChangeAt Go.RowKit Go.Deep
noncomputable section
set_option linter.unusedVariables false

/-- Is a type one whose value stands alone ('false') or a struct ('true')? -/
def isAgg (P : Program) (t : Nat) : Bool := match P.underlying t with | some (.struct _) => true | _ => false

def FitA (os : List AO) (s : Bool × List CS) (a : AV) : Prop := match s.1 with
  | true => ∃ as, a = .agg as ∧ FitCs os s.2 as
  | false => ∃ c, s.2 = [c] ∧ FitC os c a
def FitAs (os : List AO) : List (Bool × List CS) → List AV → Prop
  | [], [] => True
  | s :: ss, a :: as => FitA os s a ∧ FitAs os ss as
  | _, _ => False
theorem FitA.mono {os os' : List AO} (h : ∃ t, os' = os ++ t) {s : Bool × List CS} {a : AV} (f : FitA os s a) : FitA os' s a := by
  obtain ⟨b, l⟩ := s
  cases b with
  | false => obtain ⟨c, h1, h2⟩ := f; exact ⟨c, h1, h2.mono h⟩
  | true => obtain ⟨as, h1, h2⟩ := f; exact ⟨as, h1, h2.mono h⟩

def shapes (P : Program) : List Nat → Option (List (Bool × List CS))
  | [] => some []
  | t :: ts => match shk P 6 t, shapes P ts with
    | some s, some ss => some ((isAgg P t, s) :: ss)
    | _, _ => none

section
variable {H : Type} {enc : TypeId × Value → H} {P : Program} {w : World}

theorem shk_one {d t : Nat} {s : List CS} (h : shk P d t = some s) (hn : isAgg P t = false) : ∃ c, s = [c] := by
  cases d with
  | zero => simp [shk] at h
  | succ d =>
    unfold shk at h
    unfold isAgg at hn
    split at h
    · injection h with h; exact ⟨_, h.symm⟩
    · injection h with h; exact ⟨_, h.symm⟩
    · split at h
      · rename_i ks _
        rename_i e _ _
        generalize (P.cellsOf _ == ks.length && Nat.blt 0 ks.length) = b at h
        cases b with
        | false => cases h
        | true => simp only [cond_true] at h; injection h with h; exact ⟨_, h.symm⟩
      · cases h
    · rename_i hu; rw [hu] at hn; cases hn
    · cases h

theorem okWide_alone {d t : Nat} {s : List CS} {v : Value} {r : Reach} {b : Nat} (h : shk P d t = some s) (hn : isAgg P t = false) (hv : Value.okWide P w r b t v) : v.cells = #[v] := by
  cases d with
  | zero => simp [shk] at h
  | succ d =>
    unfold shk at h
    unfold isAgg at hn
    split at h
    · rename_i hu; obtain ⟨n, rfl⟩ := okWide_int hu hv; rfl
    · rename_i hu; obtain ⟨n, rfl⟩ := okWide_bool hu hv; rfl
    · rename_i hu; obtain ⟨a, l, c, rfl⟩ := okWide_slice hu hv; rfl
    · rename_i hu; rw [hu] at hn; cases hn
    · cases h

theorem args_open {bs : Nat} : ∀ (ts : List Nat) (sss : List (Bool × List CS)), shapes P ts = some sss → ∀ (vs : List Value) (ds : List (DataW H)) (p : List MemPlace),
    DataW.TrodAll enc P w 0 (fun _ => true) true ts vs ds p → (∀ (j : Nat) t v, ts[j]? = some t → vs[j]? = some v → Value.okWide P w .any bs t v) →
    ∀ os bi, Opn w os bi → ∃ os' bi' as, (∃ t, os' = os ++ t) ∧ (∃ t, bi' = bi ++ t) ∧ Opn w os' bi' ∧ FitAs os' sss as ∧ VRs (bm bi') as vs
  | [], sss, h, vs, ds, p, hA, hv, os, bi, ho => by
    simp only [shapes] at h; injection h with h; subst h
    cases vs with
    | nil => exact ⟨os, bi, [], ⟨[], by simp⟩, ⟨[], by simp⟩, ho, trivial, VRs.nil⟩
    | cons v vs => cases ds <;> simp [DataW.TrodAll] at hA
  | t :: ts, sss, h, vs, ds, p, hA, hv, os, bi, ho => by
    simp only [shapes] at h
    split at h
    · rename_i s ss hs hss
      injection h with h; subst h
      obtain ⟨v, vs', d, ds', p1, q1, rfl, rfl, rfl, h1, h2⟩ := trodAll_cons hA
      obtain ⟨fuel, h1⟩ := h1
      obtain ⟨os1, bi1, a1, e1, g1, o1, f1, v1⟩ := cells_open 6 t s hs _ _ _ h1 os bi ho
      obtain ⟨os2, bi2, a2, e2, g2, o2, f2, v2⟩ := args_open ts ss hss vs' ds' q1 h2 (fun j t' v' a b => hv (j + 1) t' v' (by simpa using a) (by simpa using b)) os1 bi1 o1
      have hv0 := hv 0 t v rfl rfl
      obtain ⟨t1, rfl⟩ := e1
      obtain ⟨t2, rfl⟩ := e2
      obtain ⟨s1, rfl⟩ := g1
      obtain ⟨s2, rfl⟩ := g2
      refine ⟨os ++ t1 ++ t2, bi ++ s1 ++ s2, (if isAgg P t then .agg a1 else a1.headD .undef) :: a2, ⟨t1 ++ t2, by simp⟩, ⟨s1 ++ s2, by simp⟩, o2, ?_, ?_⟩
      · refine ⟨?_, f2⟩
        cases hi : isAgg P t with
        | true => exact ⟨a1, rfl, f1.mono ⟨t2, rfl⟩⟩
        | false =>
          obtain ⟨c, rfl⟩ := shk_one hs hi
          cases a1 with
          | nil => exact f1.elim
          | cons x a1 =>
            cases a1 with
            | nil => exact ⟨c, rfl, f1.1.mono ⟨t2, rfl⟩⟩
            | cons y a1 => exact f1.2.elim
      · refine VRs.cons ?_ v2
        cases hi : isAgg P t with
        | true =>
          unfold isAgg at hi
          split at hi
          · rename_i fs hu
            obtain ⟨cs, rfl, _⟩ := okWide_struct hu hv0
            exact ⟨cs, rfl, VRs.mono (bm_le _ s2) _ _ v1⟩
          · cases hi
        | false =>
          have hc := okWide_alone hs hi hv0
          rw [hc] at v1
          obtain ⟨c, rfl⟩ := shk_one hs hi
          cases a1 with
          | nil => exact f1.elim
          | cons x a1 =>
            obtain ⟨u, r, e, hr, _⟩ := v1
            have : u = v := by simp at e; exact e.1.symm
            subst this
            exact VR.mono (bm_le _ s2) _ _ hr
    · cases h

theorem args_back (hl : laidOutB P = true) {W W' : World} (hb : Below W.heap.size W W') : ∀ (ts : List Nat) (vs : List Value) (ds : List (DataW H)) (p : List MemPlace),
    (ts.all fun t => P.readableRec t && Nat.blt t P.types.size) = true → DataW.TrodAll enc P W 0 (fun _ => true) true ts vs ds p → DataW.TrodAll enc P W' 0 (fun b => decide (b < W.heap.size)) true ts vs ds p
  | [], vs, ds, p, _, hA => by cases vs <;> cases ds <;> simp_all [DataW.TrodAll]
  | t :: ts, vs, ds, p, ht, hA => by
    obtain ⟨v, vs', d, ds', p1, q1, rfl, rfl, rfl, h1, h2⟩ := trodAll_cons hA
    simp only [List.all_cons, Bool.and_eq_true, Nat.blt_eq] at ht
    have hlt : ∀ x ∈ p1, x.block < W.heap.size := by
      obtain ⟨m, hm⟩ := h1; exact DataW.trod_lt m _ _ _ hm
    exact trodAll_cons_mk (Below.trod hl ht.1.1 ht.1.2 h1 hb hlt) (args_back hl hb ts vs' ds' q1 ht.2 h2)

/-- The memory of a call's arguments. -/
def avw (os : List AO) : HV := ⟨os.length, fun b => os[b]?⟩

theorem opn_now {T : Types} (hG : T.G = 0) {os : List AO} {bi : List BI} (ho : Opn w os bi) : Now T (bm bi) (hl os) w (avw os) where
  nx := hl_nx os
  get := by funext b; exact hl_get os b
  rel := {
    obj := fun b i o h1 h2 => by rw [hl_get] at h2; exact (ho.obj b i o h1 h2).2.1 _
    lt := fun b i h1 => by
      have hb : b < os.length := by rw [← ho.len]; exact (List.getElem?_eq_some_iff.1 h1).1
      exact (ho.obj b i os[b] h1 (List.getElem?_eq_getElem hb)).2.2
    apart := fun b b' i i' o o' _ h1 _ h3 _ h5 => by
      rw [hl_get] at h3
      obtain ⟨⟨es, vs, rfl⟩, _⟩ := ho.obj b i o h1 h3
      cases h5
    glob := fun g hg => by rw [hG] at hg; omega }
  fresh := fun b hb => by
    show bi[b]? = none
    rw [List.getElem?_eq_none_iff, ho.len]; exact hb

theorem row_calls {T : Types} (hG : T.G = 0) {os : List AO} {bi : List BI} (ho : Opn w os bi) {f : Nat} {as : List AV} {cargs : Array Value} (ha : VRs (bm bi) as cargs.toList)
    (ev : Ev P T (.func f as) (avw os) (.ret (.bool true)) [] []) : Calls P f cargs w fun e W' => e = .returned (.bool true) ∧ Below w.heap.size w W' := by
  obtain ⟨_, ev⟩ := ev
  obtain ⟨_, hc⟩ := ev (bm bi) (hl os) w cargs 0 (opn_now hG ho) ha
  refine (callsIn_wide.1 hc).mono fun e W' ⟨β', h', hr, ht⟩ => ⟨?_, ?_⟩
  · cases e with
    | returned u => obtain rfl : u = .bool true := hr; rfl
    | _ => exact hr.elim
  · refine ⟨ht.kept.os, ht.kept.tape, ht.kept.output, ht.kept.size, fun k hk => ht.kept.block k hk fun b i o h1 h2 h3 => ?_⟩
    rw [hl_get] at h2
    obtain ⟨⟨es, vs, rfl⟩, _⟩ := ho.obj b i o h1 h2
    cases h3

theorem FitCs.cons_inv {os : List AO} {s : CS} {ss : List CS} : ∀ {l : List AV}, FitCs os (s :: ss) l → ∃ a r, l = a :: r ∧ FitC os s a ∧ FitCs os ss r
  | a :: r, h => ⟨a, r, rfl, h.1, h.2⟩
theorem FitCs.nil_inv {os : List AO} : ∀ {l : List AV}, FitCs os [] l → l = []
  | [], _ => rfl
theorem FitAs.cons_inv {os : List AO} {s : Bool × List CS} {ss : List (Bool × List CS)} : ∀ {l : List AV}, FitAs os (s :: ss) l → ∃ a r, l = a :: r ∧ FitA os s a ∧ FitAs os ss r
  | a :: r, h => ⟨a, r, rfl, h.1, h.2⟩
theorem FitAs.nil_inv {os : List AO} : ∀ {l : List AV}, FitAs os [] l → l = []
  | [], _ => rfl
theorem FitA.one {os : List AO} {c : CS} {a : AV} (h : FitA os (false, [c]) a) : FitC os c a := by
  obtain ⟨c', e, h⟩ := h; injection e with e _; rw [e]; exact h
theorem FitA.agg {os : List AO} {l : List CS} {a : AV} (h : FitA os (true, l) a) : ∃ r, a = .agg r ∧ FitCs os l r := h
theorem opn_nil : Opn w [] [] := ⟨rfl, fun b i o h _ => by simp at h⟩
end
end
end Go.Ai
