/- AiWK -/
import Derived.Test.YthgkkbaaedefhaaAiWJ
set_option linter.unusedVariables false
set_option linter.unusedSimpArgs false
namespace Go.Ai
open Go
noncomputable section
set_option linter.unusedVariables false
variable {P : Program} {T : Types} {F : Funcs}

def hl (os : List AO) : Heap := (⟨0, .lf, 0⟩ : Heap).pushes os
theorem hl_nx (os : List AO) : (hl os).nx = os.length := by unfold hl; rw [Heap.nx_pushes]; simp
theorem hl_get (os : List AO) (b : Nat) : (hl os).get b = os[b]? := by
  unfold hl; rw [pushes_get]; simp only [more]
  rw [if_neg (by omega)]; rfl

def AO.flat : AO → Bool
  | .cells _ _ vs => vs.all AV.flat
  | _ => false

theorem all_flat {l : List AV} (h : l.all AV.flat = true) : ∀ v ∈ l, v.flat = true := List.all_eq_true.1 h
theorem flat_bel0 {σ : Nat → Option Nat} : ∀ {v : AV}, v.flat = true → v.bel0 σ
  | .int _ _, _ => trivial
  | .bool _, _ => trivial
theorem flats_bel0 {σ : Nat → Option Nat} : ∀ {l : List AV}, (∀ v ∈ l, v.flat = true) → bels0 σ l
  | [], _ => trivial
  | a :: l, h => ⟨flat_bel0 (h a List.mem_cons_self), flats_bel0 fun v hv => h v (List.mem_cons_of_mem _ hv)⟩

theorem flat_go {τ : Nat → Option Nat} : ∀ {o : AO}, o.flat = true → go τ o = o
  | .cells a b vs, h => by rw [go_cells, gvs_flat τ (all_flat h)]

theorem lies_flat {H : HV} {σ : List Nat} {os : List AO} (hl' : os.length = σ.length) (hlt : ∀ b ∈ σ, b < H.nx) (hn : σ.Nodup) (hG : ∀ g, g < T.G → σ[g]? = some g) (h : ∀ (c b : Nat), σ[c]? = some b → ∃ o, os[c]? = some o ∧ H.get b = some o ∧ o.flat = true) : Lies T H σ (hl os) := by
  refine ⟨by rw [hl_nx, hl'], hlt, hn, hG, fun c b hc => ?_⟩
  obtain ⟨o, h1, h2, h3⟩ := h c b hc
  refine ⟨o, by rw [hl_get]; exact h1, by rw [flat_go h3]; exact h2, ?_⟩
  cases o with
  | cells a e vs => exact flats_bel0 (all_flat h3)
  | _ => cases h3

def see (x : Option (Res × Heap)) (l : List Nat) : Option (Res × List (Option AO)) := x.map fun p => (p.1, l.map p.2.get)

theorem map_get_of {h : Heap} {os : List AO} (h1 : (List.range os.length).map h.get = os.map some) : ∀ c, c < os.length → h.get c = (hl os).get c := by
  intro c hc
  have : ((List.range os.length).map h.get)[c]? = (os.map some)[c]? := by rw [h1]
  simp only [List.getElem?_map, List.getElem?_range hc, Option.map_some] at this
  rw [hl_get]
  rw [List.getElem?_eq_getElem hc] at this ⊢
  simpa using this

/-- A call that was run, and hands back numbers. -/
theorem Ev_run (hT : TOk P T F) {k f : Nat} {args0 : List AV} {r0 : AV} {H : HV} {σ : List Nat} {os : List AO} (hL : Lies T H σ (hl os)) (hlen : os.length = σ.length) (ha : bels0 (fun c => σ[c]?) args0)
    (hrun : see (acall T F k (.func f args0) (hl os)) (List.range os.length) = some (.ret r0, os.map some)) (hr : ∀ τ, gv τ r0 = r0) : Ev P T (.func f (gvs (fun c => σ[c]?) args0)) H (.ret r0) [] [] := by
  obtain ⟨p, h1, h2⟩ := Option.map_eq_some_iff.1 hrun
  obtain ⟨r, h'⟩ := p
  injection h2 with h2 h3
  subst h2
  have := EvP_frame hT h1 hL ha (fun c hc => map_get_of h3 c (by omega)) [] rfl (fun j hj => by cases hj)
  rw [hr] at this
  exact this

/-- A call that was run, and hands back a new slice, and numbers. -/
def seeS (x : Option (Res × Heap)) (n : Nat) : Option ((Nat × Nat × Nat × Bool) × List AV × Bool × Option AO × List (Option AO)) := match x with
  | some (.ret (.tup (.slice b o l c e :: rest)), h) => some ((o, l, c, e), rest, Nat.ble n b, h.get b, (List.range n).map h.get)
  | _ => none
theorem Ev_runS (hT : TOk P T F) {k f : Nat} {args0 : List AV} {o l c : Nat} {e : Bool} {rest vs : List AV} {es : Nat} {H : HV} {σ : List Nat} {os : List AO} (hL : Lies T H σ (hl os)) (hlen : os.length = σ.length) (ha : bels0 (fun c => σ[c]?) args0)
    (hrun : seeS (acall T F k (.func f args0) (hl os)) os.length = some ((o, l, c, e), rest, true, some (.cells true es vs), os.map some)) (hr : rest.all AV.flat = true) (hv : vs.all AV.flat = true) :
    Ev P T (.func f (gvs (fun c => σ[c]?) args0)) H (.ret (.tup (.slice (H.at 0) o l c e :: rest))) [] [.cells true es vs] := by
  unfold seeS at hrun
  split at hrun
  · rename_i b o' l' c' e' rest' h' hx
    injection hrun with hrun
    simp only [Prod.mk.injEq] at hrun
    obtain ⟨⟨rfl, rfl, rfl, rfl⟩, rfl, hb, hg, hold⟩ := hrun
    have hb2 : os.length ≤ b := bleT.1 hb
    have := EvP_frame hT hx hL ha (fun c hc => map_get_of hold c (by omega)) [b - σ.length] (by simp [ndp]) (fun j hj => by
      rw [List.mem_singleton] at hj; subst hj
      rw [show σ.length + (b - σ.length) = b by omega]
      exact ⟨_, hg, rfl⟩)
    have hf : frm H σ [b - σ.length] b = some (H.at 0) := by
      unfold frm
      rw [List.getElem?_eq_none (by omega)]
      simp only [plc_cons, if_pos, Option.map_some]
    simp only [gv_tup, gvs_cons, gv_slice, hf, gvo_some, gvs_flat _ (all_flat hr), List.map_cons, List.map_nil, show σ.length + (b - σ.length) = b by omega, hg, goo_some, go_cells, gvs_flat _ (all_flat hv)] at this
    exact this
  · cases hrun

end
end Go.Ai
