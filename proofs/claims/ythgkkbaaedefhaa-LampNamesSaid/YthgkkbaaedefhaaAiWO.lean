/- AiWO -/
import Derived.Test.YthgkkbaaedefhaaAiWK
import Derived.Test.YthgkkbaaedefhaaAiWL
set_option linter.unusedVariables false
set_option linter.unusedSimpArgs false
namespace Go.Ai
open Go
noncomputable section
set_option linter.unusedVariables false
variable {P : Program} {T : Types} {F : Funcs} {H : HV}

theorem lies1 (hG : T.G = 0) {b : Nat} {o : AO} (h1 : b < H.nx) (g1 : H.get b = some o) (f1 : o.flat = true) : Lies T H [b] (hl [o]) :=
  lies_flat rfl (by simpa using h1) (by simp) (fun g h => by omega) (fun c x hc => by
    match c, hc with
    | 0, hc => simp at hc; subst hc; exact ⟨_, rfl, g1, f1⟩)
theorem lies2 (hG : T.G = 0) {b c : Nat} {o p : AO} (h1 : b < H.nx) (h2 : c < H.nx) (hn : b ≠ c) (g1 : H.get b = some o) (g2 : H.get c = some p) (f1 : o.flat = true) (f2 : p.flat = true) : Lies T H [b, c] (hl [o, p]) :=
  lies_flat rfl (by simp [h1, h2]) (by simp [hn]) (fun g h => by omega) (fun i x hc => by
    match i, hc with
    | 0, hc => simp at hc; subst hc; exact ⟨_, rfl, g1, f1⟩
    | 1, hc => simp at hc; subst hc; exact ⟨_, rfl, g2, f2⟩)
theorem lies3 (hG : T.G = 0) {b c d : Nat} {o p q : AO} (h1 : b < H.nx) (h2 : c < H.nx) (h3 : d < H.nx) (n1 : b ≠ c) (n2 : b ≠ d) (n3 : c ≠ d) (g1 : H.get b = some o) (g2 : H.get c = some p) (g3 : H.get d = some q) (f1 : o.flat = true) (f2 : p.flat = true) (f3 : q.flat = true) : Lies T H [b, c, d] (hl [o, p, q]) :=
  lies_flat rfl (by simp [h1, h2, h3]) (by simp [n1, n2, n3]) (fun g h => by omega) (fun i x hc => by
    match i, hc with
    | 0, hc => simp at hc; subst hc; exact ⟨_, rfl, g1, f1⟩
    | 1, hc => simp at hc; subst hc; exact ⟨_, rfl, g2, f2⟩
    | 2, hc => simp at hc; subst hc; exact ⟨_, rfl, g3, f3⟩)
theorem lies0 (hG : T.G = 0) : Lies T H [] (hl []) :=
  lies_flat rfl (by simp) (by simp) (fun g h => by omega) (fun c x hc => by simp at hc)
theorem mkh_nil (hb : HV) (i : Nat) (us : List (Nat × AO)) : (mkh hb us []).at i = hb.at i := by simp [HV.at, mkh]
theorem mkh_cons (hb : HV) (us : List (Nat × AO)) (o : AO) (ns : List AO) (i : Nat) : (mkh hb us (o :: ns)).at i = hb.at (ns.length + 1 + i) := by simp only [HV.at, mkh, List.length_cons]; omega
theorem mk_old0 {hb : HV} {ns : List AO} {b : Nat} (h : b < hb.nx) : (mkh hb [] ns).get b = hb.get b := by rw [mk_old h]; rfl
attribute [go_sem] mkh_nil mkh_cons mk_old0
theorem at_ne (hb : HV) {i j : Nat} (h : i ≠ j) : hb.at i ≠ hb.at j := by unfold HV.at; omega
theorem at_lt (hb : HV) (us : List (Nat × AO)) {ns : List AO} {i : Nat} (h : i < ns.length) : hb.at i < (mkh hb us ns).nx := by
  show hb.nx + i < hb.nx + ns.length; omega
theorem at_get (hb : HV) (us : List (Nat × AO)) {ns : List AO} {i : Nat} {o : AO} (h : ns[i]? = some o) : (mkh hb us ns).get (hb.at i) = some o := by rw [mk_at]; exact h
end
end Go.Ai
