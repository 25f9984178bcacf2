/- LpRNames -/
import Derived.Test.YthgkkbaaedefhaaAiWN
import Derived.Test.YthgkkbaaedefhaaLpG
import Derived.Test.YthgkkbaaedefhaaRows
import Derived.SizedLaws
import Derived.ShutString
import Derived.OpenShut
set_option linter.unusedVariables false
set_option linter.unusedSimpArgs false
namespace Go.Ai.Lp.LampNames
open Go Go.Proofs Go.Proofs.Ythgkkbaaedefhaa Go.ChangeShapes Go.WideShapes Go.ChangeAt Go.RowKit
set_option linter.unusedVariables false
theorem own : ownKnob Try.prog.godebug = none := by kernel_rfl
theorem laidOut : laidOutB Try.prog = true := by kernel_rfl
set_option maxRecDepth 100000 in
theorem lifted (os : Os) (started : os.Started) (H : Type) (enc : TypeId × Value → H) :
    ReturnsInHanded {} Try.checked os 6 .any (Rows.lampNamesSpec.pre6 enc Try.prog Try.f6 Rows.lampNamesRow.domain false) (Rows.lampNamesSpec.post enc Try.prog Try.f6 false true false false) := by
  refine returnsInHanded_of_change_sized (C := Try.checked) own started (by kernel_rfl) Try.func6
    (ChangeSpec.witness6 (enc := enc) (C := Try.checked) false ⟨#[], #[], []⟩ 8 (by kernel_rfl) (by kernel_rfl) (by kernel_rfl) (by kernel_rfl)) ?_
  intro W base args ds gs before hval0 hW hcnd hsz0 _
  have hval : ∀ (j : Nat) t v, Try.f6.params.toList[j]? = some t → args.toList[j]? = some v → Value.okWide Try.prog W .any base t v := by
    intro j t v a b
    rw [Array.getElem?_toList] at a b
    exact hval0 j t v a b
  have hW' := hW
  obtain ⟨p, q, hA0, hV, rfl, hfz, hnd⟩ := hW
  have hA : DataW.TrodAll enc Try.prog W 0 (fun _ => true) true Try.f6.params.toList args.toList ds p := hA0
  obtain ⟨rfl, rfl⟩ := trodVars_none hV
  obtain ⟨sss, hs⟩ : ∃ sss, shapes Try.prog Try.f6.params.toList = some sss := Option.isSome_iff_exists.1 (by kernel_rfl)
  obtain ⟨os', bi', xs, _, _, ho, hf, hr⟩ := args_open _ sss hs _ _ _ hA hval [] [] opn_nil
  refine (row_calls (by kernel_rfl) ho hr (names_row os' sss xs hs hf)).mono fun e W' ⟨he, bel⟩ => ?_
  subst he
  have hb := args_back laidOut bel _ _ _ _ (by kernel_rfl) hA
  rw [show Try.f6.params.toList = _ from rfl] at hA hb
  obtain ⟨rfl, rfl, rfl⟩ := trodAll_none hA
  exact ⟨_, rfl, _, _, _, [], _, [], hW', trodAll_mk1 (shut_bool Try.underlying4 _), hb, rfl, bel.frame _, fun h => by cases h⟩

theorem over : Rows.lampNamesRow.holds Try.pinned (OpenSpec.ofChange Rows.lampNamesSpec) :=
  OpenClaim.holds_of_wide 6 Try.f6 rfl rfl rfl rfl rfl rfl rfl ⟨rfl, rfl, rfl, rfl, rfl⟩ rfl rfl rfl rfl rfl (by kernel_rfl) Try.func6 (by kernel_rfl)
    (of_decide_eq_true (by kernel_rfl)) (by unfold Func.isWrapper; first | (rw [if_pos (by decide +kernel)]; kernel_rfl) | (rw [if_neg (by decide +kernel)]; exact ⟨rfl, rfl⟩))
    (fun os started H enc _ => lifted os started H enc)
end Go.Ai.Lp.LampNames
namespace Go.Proofs.Ythgkkbaaedefhaa
theorem lampNames_holds : Rows.LampNamesSaid := Go.Ai.Lp.LampNames.over
end Go.Proofs.Ythgkkbaaedefhaa
