/- AiWM -/
import Derived.Test.YthgkkbaaedefhaaAiWK
import Derived.Test.YthgkkbaaedefhaaAiWL
import Derived.WalkKit
import Derived.ProofKit
import Derived.OpenShut
import Derived.ShutString
import Derived.ChangeOld
import Derived.Below
import Derived.Carry
import Derived.SizedLaws
import Derived.Deep.Slices
set_option linter.unusedVariables false
set_option linter.unusedSimpArgs false
namespace Go.Ai
open Go Go.ChangeShapes Go.WideShapes Go.ChangeAt Go.RowKit Go.Deep
noncomputable section
set_option linter.unusedVariables false

/-- Cells of flat data, of some kinds ('none': a bool), each within its kind. -/
def FitK : List (Option IntKind) → List AV → Prop
  | [], [] => True
  | some k :: ks, .int k' n :: l => k' = k ∧ (Lit.int k n).wf = true ∧ FitK ks l
  | none :: ks, .bool _ :: l => FitK ks l
  | _, _ => False
theorem FitK.append : ∀ {k1 k2 : List (Option IntKind)} {a b : List AV}, FitK k1 a → FitK k2 b → FitK (k1 ++ k2) (a ++ b)
  | [], _, [], _, _, h => h
  | some k :: ks, _, .int k' n :: l, _, h, h2 => ⟨h.1, h.2.1, FitK.append h.2.2 h2⟩
  | none :: ks, _, .bool _ :: l, _, h, h2 => FitK.append (k1 := ks) (a := l) h h2
theorem FitK.length : ∀ {ks : List (Option IntKind)} {l : List AV}, FitK ks l → l.length = ks.length
  | [], [], _ => rfl
  | some k :: ks, .int k' n :: l, h => by simp [FitK.length h.2.2]
  | none :: ks, .bool _ :: l, h => by simp [FitK.length (ks := ks) (l := l) h]
theorem FitK.flat : ∀ {ks : List (Option IntKind)} {l : List AV}, FitK ks l → ∀ v ∈ l, v.flat = true
  | [], [], _, _, h => by cases h
  | some k :: ks, .int k' n :: l, h, v, hv => by
    rcases List.mem_cons.1 hv with rfl | hv
    · rfl
    · exact FitK.flat h.2.2 v hv
  | none :: ks, .bool _ :: l, h, v, hv => by
    rcases List.mem_cons.1 hv with rfl | hv
    · rfl
    · exact FitK.flat (ks := ks) (l := l) h v hv

def flf (P : Program) (r : Nat → Option (List (Option IntKind))) : List Field → Nat → Option (List (Option IntKind))
  | [], _ => some []
  | f :: fs, o => match r f.type with
    | some l => bif f.offset == o && P.cellsOf f.type == l.length then (flf P r fs (o + l.length)).map (l ++ ·) else none
    | none => none
/-- The kinds of a flat type's cells. -/
def flk (P : Program) : Nat → Nat → Option (List (Option IntKind))
  | 0, _ => none
  | d + 1, t => match P.underlying t with
    | some (.int q) => some [some q]
    | some .bool => some [none]
    | some (.struct fs) => match flf P (flk P d) fs.toList 0 with
      | some ks => bif P.cellsOf t == ks.length then some ks else none
      | none => none
    | _ => none

section
variable {H : Type} {enc : TypeId × Value → H} {P : Program} {w : World} {base : Nat} {spare : Nat → Bool} {held : Bool}

theorem flf_open {r : Nat → Option (List (Option IntKind))} {n : Nat} {cs : List Value} (hr : ∀ t ks, r t = some ks → ∀ cs' x, DataW.trod enc P w base spare held n t cs' = some x → ∃ as, FitK ks as ∧ ∀ β, VRs β as cs') :
    ∀ (fs : List Field) (o : Nat) (ks : List (Option IntKind)), flf P r fs o = some ks → (∀ f ∈ fs, ∃ x, DataW.trod enc P w base spare held n f.type ((cs.drop f.offset).take (P.cellsOf f.type)) = some x) → ∃ as, FitK ks as ∧ ∀ β, VRs β as ((cs.drop o).take ks.length)
  | [], o, ks, h, _ => by
    simp only [flf] at h; injection h with h; subst h
    exact ⟨[], trivial, fun β => by simp only [List.length_nil, List.take_zero]; exact VRs.nil⟩
  | f :: fs, o, ks, h, hx => by
    simp only [flf] at h
    split at h
    · rename_i l hl
      cases hc : (f.offset == o && P.cellsOf f.type == l.length) with
      | false => rw [hc] at h; simp at h
      | true =>
        rw [hc] at h; simp only [cond_true] at h
        obtain ⟨k2, hk2, rfl⟩ := Option.map_eq_some_iff.1 h
        simp only [Bool.and_eq_true, beq_iff_eq] at hc
        obtain ⟨hc1, hc2⟩ := hc
        obtain ⟨x, hx1⟩ := hx f List.mem_cons_self
        obtain ⟨a1, f1, v1⟩ := hr _ _ hl _ _ hx1
        obtain ⟨a2, f2, v2⟩ := flf_open hr fs (o + l.length) k2 hk2 (fun g hg => hx g (List.mem_cons_of_mem _ hg))
        refine ⟨a1 ++ a2, f1.append f2, fun β => ?_⟩
        have h1 := v1 β
        rw [hc1, hc2] at h1
        have h2 := v2 β
        rw [List.length_append, List.take_add, List.drop_drop]
        exact VRs.append h1 h2
    · cases h

theorem flat_open : ∀ (d t : Nat) (ks : List (Option IntKind)), flk P d t = some ks → ∀ (fuel : Nat) (cs : List Value) (x : DataW H × List MemPlace), DataW.trod enc P w base spare held fuel t cs = some x → ∃ as, FitK ks as ∧ ∀ β, VRs β as cs
  | 0, _, _, h, _, _, _, _ => by simp [flk] at h
  | d + 1, t, ks, h, fuel, cs, x, hx => by
    simp only [flk] at h
    split at h
    · rename_i q hu
      injection h with h; subst h
      obtain ⟨n, rfl, _, hwf⟩ := DataW.trod_int hu hx
      exact ⟨[.int q n], ⟨rfl, hwf, trivial⟩, fun β => VRs.cons rfl VRs.nil⟩
    · rename_i hu
      injection h with h; subst h
      obtain ⟨b, rfl, _⟩ := DataW.trod_bool hu hx
      exact ⟨[.bool b], trivial, fun β => VRs.cons rfl VRs.nil⟩
    · rename_i fs hu
      split at h
      · rename_i k hk
        cases hc : (P.cellsOf t == k.length) with
        | false => rw [hc] at h; simp at h
        | true =>
          rw [hc] at h; simp only [cond_true] at h; injection h with h; subst h
          obtain ⟨xs, n, rfl, _, hlen, hxl, hf⟩ := DataW.trod_struct hu hx
          have hk2 : P.cellsOf t = k.length := by simpa using hc
          obtain ⟨as, f1, v1⟩ := flf_open (cs := cs) (n := n) (fun t ks h cs' x' hx' => flat_open d t ks h n cs' x' hx') fs.toList 0 k hk (by
            intro f hf'
            obtain ⟨i, hi⟩ := List.mem_iff_getElem?.1 hf'
            rw [Array.getElem?_toList] at hi
            have h1 := hf i f hi
            have hil : i < xs.length := by rw [hxl]; exact (Array.getElem?_eq_some_iff.1 hi).1
            rw [List.getElem?_eq_getElem hil] at h1
            exact ⟨_, h1⟩)
          refine ⟨as, f1, fun β => ?_⟩
          have := v1 β
          rw [List.drop_zero, List.take_of_length_le (by omega)] at this
          exact this
      · cases h
    · cases h

/-! ### Cells, slices among them -/
inductive CS where
  | int (k : IntKind)
  | bool
  | slice (ks : List (Option IntKind))

def FitC (os : List AO) : CS → AV → Prop
  | .int k, a => ∃ n, a = .int k n ∧ (Lit.int k n).wf = true
  | .bool, a => ∃ b, a = .bool b
  | .slice ks, a => a = .nils ∨ a = .empt ∨ ∃ b l c vs, a = .slice b 0 l c true ∧ 0 < l ∧ l ≤ c ∧ (c : Int) ≤ 9223372036854775807 ∧ os[b]? = some (.cells false ks.length vs) ∧ vs.length = l * ks.length ∧ ∀ i, i < l → FitK ks ((vs.drop (i * ks.length)).take ks.length)
def FitCs (os : List AO) : List CS → List AV → Prop
  | [], [] => True
  | s :: ss, a :: as => FitC os s a ∧ FitCs os ss as
  | _, _ => False
theorem FitC.mono {os os' : List AO} (h : ∃ t, os' = os ++ t) {s : CS} {a : AV} (f : FitC os s a) : FitC os' s a := by
  obtain ⟨t, rfl⟩ := h
  cases s with
  | int k => exact f
  | bool => exact f
  | slice ks =>
    rcases f with f | f | ⟨b, l, c, vs, h1, h2, h3, h4, h5, h6⟩
    · exact .inl f
    · exact .inr (.inl f)
    · exact .inr (.inr ⟨b, l, c, vs, h1, h2, h3, h4, by rw [List.getElem?_append_left (List.getElem?_eq_some_iff.1 h5).1]; exact h5, h6⟩)
theorem FitCs.mono {os os' : List AO} (h : ∃ t, os' = os ++ t) : ∀ {ss : List CS} {as : List AV}, FitCs os ss as → FitCs os' ss as
  | [], [], _ => trivial
  | _ :: _, _ :: _, f => ⟨f.1.mono h, FitCs.mono h f.2⟩
theorem FitCs.append {os : List AO} : ∀ {s1 s2 : List CS} {a b : List AV}, FitCs os s1 a → FitCs os s2 b → FitCs os (s1 ++ s2) (a ++ b)
  | [], _, [], _, _, h => h
  | _ :: _, _, _ :: _, _, f, h => ⟨f.1, FitCs.append f.2 h⟩

/-- The blocks that were opened so far, and where they lie. -/
structure Opn (w : World) (os : List AO) (bi : List BI) : Prop where
  len : bi.length = os.length
  obj : ∀ (b : Nat) (i : BI) (o : AO), bi[b]? = some i → os[b]? = some o → (∃ es vs, o = .cells false es vs) ∧ (∀ β, OR β w i o) ∧ i.c < w.heap.size

def shf (P : Program) (r : Nat → Option (List CS)) : List Field → Nat → Option (List CS)
  | [], _ => some []
  | f :: fs, o => match r f.type with
    | some l => bif f.offset == o && P.cellsOf f.type == l.length then (shf P r fs (o + l.length)).map (l ++ ·) else none
    | none => none
/-- The shape of a type's cells. -/
def shk (P : Program) : Nat → Nat → Option (List CS)
  | 0, _ => none
  | d + 1, t => match P.underlying t with
    | some (.int q) => some [.int q]
    | some .bool => some [.bool]
    | some (.slice e) => match flk P d e with
      | some ks => bif P.cellsOf e == ks.length && Nat.blt 0 ks.length then some [.slice ks] else none
      | none => none
    | some (.struct fs) => match shf P (shk P d) fs.toList 0 with
      | some ss => bif P.cellsOf t == ss.length then some ss else none
      | none => none
    | _ => none

def bm (bi : List BI) : Bm := fun b => bi[b]?
theorem bm_le (bi t : List BI) : (bm bi).le (bm (bi ++ t)) := fun b i h => by
  unfold bm at h ⊢; rw [List.getElem?_append_left (List.getElem?_eq_some_iff.1 h).1]; exact h

theorem gather {w : World} {a : Addr} {wd len : Nat} {ks : List (Option IntKind)} (hw : ks.length = wd) (h : ∀ i, i < len → ∃ as, FitK ks as ∧ ∀ j, j < wd → ∃ v u, w.cell? (a.add (i * wd + j)) = some u ∧ as[j]? = some v ∧ ∀ β, VR β v u) :
    ∃ vs : List AV, vs.length = len * wd ∧ (∀ i, i < len → FitK ks ((vs.drop (i * wd)).take wd)) ∧ ∀ j v, vs[j]? = some v → ∃ u, w.cell? (a.add j) = some u ∧ ∀ β, VR β v u := by
  induction len with
  | zero => exact ⟨[], by simp, fun i hi => by omega, fun j v hv => by simp at hv⟩
  | succ n ih =>
    obtain ⟨vs, h1, h2, h3⟩ := ih (fun i hi => h i (by omega))
    obtain ⟨as, f1, f2⟩ := h n (by omega)
    have hlen : as.length = wd := f1.length.trans hw
    refine ⟨vs ++ as, by rw [List.length_append, h1, hlen, Nat.succ_mul], fun i hi => ?_, fun j v hv => ?_⟩
    · by_cases hin : i < n
      · have hle : i * wd + wd ≤ n * wd := by rw [← Nat.succ_mul]; exact Nat.mul_le_mul_right _ hin
        rw [List.drop_append_of_le_length (by omega), List.take_append_of_le_length (by rw [List.length_drop]; omega)]
        exact h2 i hin
      · have : i = n := by omega
        subst this
        rw [← h1, List.drop_left, List.take_of_length_le (by omega)]
        exact f1
    · by_cases hj : j < vs.length
      · rw [List.getElem?_append_left hj] at hv; exact h3 j v hv
      · rw [List.getElem?_append_right (by omega)] at hv
        have hjl : j - vs.length < as.length := (List.getElem?_eq_some_iff.1 hv).1
        obtain ⟨v', u, c1, c2, c3⟩ := f2 (j - vs.length) (by omega)
        rw [c2] at hv; injection hv with hv; subst hv
        refine ⟨u, ?_, c3⟩
        rw [show j = n * wd + (j - vs.length) by omega]; exact c1

theorem shf_open {r : Nat → Option (List CS)} {n : Nat} {cs : List Value}
    (hr : ∀ t ks, r t = some ks → ∀ cs' x, DataW.trod enc P w base spare held n t cs' = some x → ∀ os bi, Opn w os bi → ∃ os' bi' as, (∃ t, os' = os ++ t) ∧ (∃ t, bi' = bi ++ t) ∧ Opn w os' bi' ∧ FitCs os' ks as ∧ VRs (bm bi') as cs') :
    ∀ (fs : List Field) (o : Nat) (ks : List CS), shf P r fs o = some ks → (∀ f ∈ fs, ∃ x, DataW.trod enc P w base spare held n f.type ((cs.drop f.offset).take (P.cellsOf f.type)) = some x) →
      ∀ os bi, Opn w os bi → ∃ os' bi' as, (∃ t, os' = os ++ t) ∧ (∃ t, bi' = bi ++ t) ∧ Opn w os' bi' ∧ FitCs os' ks as ∧ VRs (bm bi') as ((cs.drop o).take ks.length)
  | [], o, ks, h, _, os, bi, ho => by
    simp only [shf] at h; injection h with h; subst h
    exact ⟨os, bi, [], ⟨[], by simp⟩, ⟨[], by simp⟩, ho, trivial, by simp only [List.length_nil, List.take_zero]; exact VRs.nil⟩
  | f :: fs, o, ks, h, hx, os, bi, ho => by
    simp only [shf] at h
    split at h
    · rename_i l hl
      cases hc : (f.offset == o && P.cellsOf f.type == l.length) with
      | false => rw [hc] at h; simp at h
      | true =>
        rw [hc] at h; simp only [cond_true] at h
        obtain ⟨k2, hk2, rfl⟩ := Option.map_eq_some_iff.1 h
        simp only [Bool.and_eq_true, beq_iff_eq] at hc
        obtain ⟨hc1, hc2⟩ := hc
        obtain ⟨x, hx1⟩ := hx f List.mem_cons_self
        obtain ⟨os1, bi1, a1, p1, q1, o1, f1, v1⟩ := hr _ _ hl _ _ hx1 os bi ho
        obtain ⟨os2, bi2, a2, p2, q2, o2, f2, v2⟩ := shf_open hr fs (o + l.length) k2 hk2 (fun g hg => hx g (List.mem_cons_of_mem _ hg)) os1 bi1 o1
        obtain ⟨t1, rfl⟩ := p1
        obtain ⟨t2, rfl⟩ := p2
        obtain ⟨s1, rfl⟩ := q1
        obtain ⟨s2, rfl⟩ := q2
        refine ⟨os ++ t1 ++ t2, bi ++ s1 ++ s2, a1 ++ a2, ⟨t1 ++ t2, by simp⟩, ⟨s1 ++ s2, by simp⟩, o2, (f1.mono ⟨t2, rfl⟩).append f2, ?_⟩
        rw [hc1, hc2] at v1
        rw [List.length_append, List.take_add, List.drop_drop]
        exact VRs.append (VRs.mono (bm_le _ s2) _ _ v1) v2
    · cases h

theorem cells_open : ∀ (d t : Nat) (ss : List CS), shk P d t = some ss → ∀ (fuel : Nat) (cs : List Value) (x : DataW H × List MemPlace), DataW.trod enc P w base (fun _ => true) held fuel t cs = some x →
    ∀ os bi, Opn w os bi → ∃ os' bi' as, (∃ t, os' = os ++ t) ∧ (∃ t, bi' = bi ++ t) ∧ Opn w os' bi' ∧ FitCs os' ss as ∧ VRs (bm bi') as cs
  | 0, _, _, h, _, _, _, _, _, _, _ => by simp [shk] at h
  | d + 1, t, ss, h, fuel, cs, x, hx, os, bi, ho => by
    simp only [shk] at h
    split at h
    · rename_i q hu
      injection h with h; subst h
      obtain ⟨n, rfl, _, hwf⟩ := DataW.trod_int hu hx
      exact ⟨os, bi, [.int q n], ⟨[], by simp⟩, ⟨[], by simp⟩, ho, ⟨⟨n, rfl, hwf⟩, trivial⟩, VRs.cons rfl VRs.nil⟩
    · rename_i hu
      injection h with h; subst h
      obtain ⟨b, rfl, _⟩ := DataW.trod_bool hu hx
      exact ⟨os, bi, [.bool b], ⟨[], by simp⟩, ⟨[], by simp⟩, ho, ⟨⟨b, rfl⟩, trivial⟩, VRs.cons rfl VRs.nil⟩
    · rename_i e hu
      split at h
      · rename_i ks hks
        cases hc : (P.cellsOf e == ks.length && Nat.blt 0 ks.length) with
        | false => rw [hc] at h; simp at h
        | true =>
          rw [hc] at h; simp only [cond_true] at h; injection h with h; subst h
          simp only [Bool.and_eq_true, beq_iff_eq, Nat.blt_eq] at hc
          obtain ⟨hce, hk0⟩ := hc
          rcases open_slice hu hx with ⟨rfl, _⟩ | ⟨a, len, cap, m, n, D, Pl, rfl, hb, hl, hm, hmm, _, hi⟩
          · exact ⟨os, bi, [.nils], ⟨[], by simp⟩, ⟨[], by simp⟩, ho, ⟨.inl rfl, trivial⟩, VRs.cons rfl VRs.nil⟩
          · by_cases hz : len = 0
            · subst hz
              exact ⟨os, bi, [.empt], ⟨[], by simp⟩, ⟨[], by simp⟩, ho, ⟨.inr (.inl rfl), trivial⟩, VRs.cons ⟨a, cap, rfl⟩ VRs.nil⟩
            · have hm2 : m = cap := by simpa using hmm
              have hel : ∀ i, i < len → ∃ as, FitK ks as ∧ ∀ j, j < ks.length → ∃ v u, w.cell? (a.add (i * ks.length + j)) = some u ∧ as[j]? = some v ∧ ∀ β, VR β v u := by
                intro i hil
                obtain ⟨cs', c1, c2⟩ := hi i (by omega)
                obtain ⟨_, hcl, hat⟩ := World.cells?_some c1
                obtain ⟨as, f1, v1⟩ := flat_open d e ks hks _ _ _ c2
                refine ⟨as, f1, fun j hj => ?_⟩
                have hjl : j < as.length := by rw [f1.length]; exact hj
                refine ⟨as[j], cs'[j]'(by omega), ?_, List.getElem?_eq_getElem hjl, fun β => ?_⟩
                · have := hat j (by omega)
                  rw [List.getElem?_eq_getElem (by omega), hce] at this
                  rw [← Go.Deep.add_add]; exact this
                · obtain ⟨v, hv, hr⟩ := (v1 β).get j _ (List.getElem?_eq_getElem hjl)
                  rw [List.getElem?_eq_getElem (by omega)] at hv
                  injection hv with hv; rw [hv]; exact hr
              obtain ⟨vs, g1, g2, g3⟩ := gather rfl hel
              -- the block
              have hvl : 0 < vs.length := by rw [g1]; exact Nat.mul_pos (by omega) (by omega)
              obtain ⟨u0, hu0, _⟩ := g3 0 vs[0] (List.getElem?_eq_getElem hvl)
              have hcell : ∃ arr el fr, w.heap[a.block]? = some (.cells arr el fr) ∧ a.spot = none := by
                unfold World.cell? at hu0
                have hab : (a.add 0).block = a.block ∧ (a.add 0).spot = a.spot := ⟨rfl, rfl⟩
                rw [hab.1] at hu0
                split at hu0
                · rename_i arr el fr hh
                  refine ⟨arr, el, fr, hh, ?_⟩
                  split at hu0
                  · cases hu0
                  · rename_i hs; rw [hab.2] at hs; simpa using hs
                · cases hu0
              obtain ⟨arr, el, fr, hh, hsp⟩ := hcell
              let i : BI := ⟨a.block, a.off, arr.size, ks.length, false⟩
              have hlt : a.block < w.heap.size := (Array.getElem?_eq_some_iff.1 hh).1
              refine ⟨os ++ [.cells false ks.length vs], bi ++ [i], [.slice os.length 0 len cap true], ⟨_, rfl⟩, ⟨_, rfl⟩, ⟨by simp [ho.len], ?_⟩, ⟨.inr (.inr ⟨os.length, len, cap, vs, rfl, by omega, hl, by unfold maxLen at hm; omega, by simp, g1, g2⟩), trivial⟩, VRs.cons ?_ VRs.nil⟩
              · intro b j o hj hoj
                by_cases hb2 : b < os.length
                · rw [List.getElem?_append_left (by rw [ho.len]; exact hb2)] at hj
                  rw [List.getElem?_append_left hb2] at hoj
                  exact ho.obj b j o hj hoj
                · have hbe : b = os.length := by
                    have := (List.getElem?_eq_some_iff.1 hoj).1
                    simp at this; omega
                  subst hbe
                  have e1 : (os ++ [AO.cells false ks.length vs])[os.length]? = some (.cells false ks.length vs) := by simp
                  have e2 : (bi ++ [i])[os.length]? = some i := by rw [← ho.len]; simp
                  rw [e1] at hoj; injection hoj with hoj; subst hoj
                  rw [e2] at hj; injection hj with hj; subst hj
                  refine ⟨⟨_, _, rfl⟩, fun β => ⟨rfl, rfl, arr, el, fr, hh, (fun h => nomatch h), fun j v hv => ?_⟩, hlt⟩
                  obtain ⟨u, c1, c2⟩ := g3 j v hv
                  refine ⟨u, ?_, c2 β⟩
                  unfold World.cell? at c1
                  have hab : (a.add j).block = a.block ∧ (a.add j).spot = none ∧ (a.add j).off = a.off + j := by
                    unfold Addr.add; split
                    · rename_i h0; exact ⟨rfl, hsp, by omega⟩
                    · exact ⟨rfl, rfl, rfl⟩
                  rw [hab.1, hh, hab.2.1, hab.2.2] at c1
                  simpa using c1
              · refine ⟨i, cap, ?_, ?_, hl, Nat.le_refl _, fun _ => rfl, fun h => by cases h⟩
                · show (bi ++ [i])[os.length]? = some i
                  rw [← ho.len]; simp
                · obtain ⟨ab, ao, asp⟩ := a
                  simp only at hsp; subst hsp; rfl
      · cases h
    · rename_i fs hu
      split at h
      · rename_i k hk
        cases hc : (P.cellsOf t == k.length) with
        | false => rw [hc] at h; simp at h
        | true =>
          rw [hc] at h; simp only [cond_true] at h; injection h with h; subst h
          obtain ⟨xs, n, rfl, _, hlen, hxl, hf⟩ := DataW.trod_struct hu hx
          have hk2 : P.cellsOf t = k.length := by simpa using hc
          obtain ⟨os', bi', as, p1, q1, o1, f1, v1⟩ := shf_open (cs := cs) (n := n) (fun t ks h cs' x' hx' => cells_open d t ks h n cs' x' hx') fs.toList 0 k hk (by
            intro f hf'
            obtain ⟨i, hi⟩ := List.mem_iff_getElem?.1 hf'
            rw [Array.getElem?_toList] at hi
            have h1 := hf i f hi
            have hil : i < xs.length := by rw [hxl]; exact (Array.getElem?_eq_some_iff.1 hi).1
            rw [List.getElem?_eq_getElem hil] at h1
            exact ⟨_, h1⟩) os bi ho
          refine ⟨os', bi', as, p1, q1, o1, f1, ?_⟩
          rw [List.drop_zero, List.take_of_length_le (by omega)] at v1
          exact v1
      · cases h
    · cases h
end
end
end Go.Ai
