/- LpRBurns -/
import Derived.Test.YthgkkbaaedefhaaAiWN
import Derived.Test.YthgkkbaaedefhaaLpF
import Derived.Test.YthgkkbaaedefhaaRows
import Derived.SizedLaws
import Derived.ShutString
import Derived.OpenShut
set_option linter.unusedVariables false
set_option linter.unusedSimpArgs false
namespace Go.Ai.Lp
open Go Go.Proofs Go.Proofs.Ythgkkbaaedefhaa Go.ChangeShapes Go.WideShapes Go.ChangeAt Go.RowKit
set_option linter.unusedVariables false
theorem own : ownKnob Try.prog.godebug = none := by kernel_rfl
theorem laidOut : laidOutB Try.prog = true := by kernel_rfl
set_option maxRecDepth 100000 in
theorem burns_lifted (ev : ∀ os sss xs, shapes Try.prog Try.f7.params.toList = some sss → FitAs os sss xs → Ev Try.prog T (.func 7 xs) (avw os) (.ret (.bool true)) [] [])
    (os : Os) (started : os.Started) (H : Type) (enc : TypeId × Value → H) :
    ReturnsInHanded {} Try.checked os 7 .any (Rows.lampBurnsSpec.pre6 enc Try.prog Try.f7 Rows.lampBurnsRow.domain false) (Rows.lampBurnsSpec.post enc Try.prog Try.f7 false true false false) := by
  refine returnsInHanded_of_change_sized (C := Try.checked) own started (by kernel_rfl) Try.func7
    (ChangeSpec.witness6 (enc := enc) (C := Try.checked) false ⟨#[], #[.agg #[.int .i64 0, .int .i64 0, .int .i64 0, .int .i64 0, .int .i64 0], .int .u16 0, .int .u8 0], []⟩ 8 (by kernel_rfl) (by kernel_rfl) (by kernel_rfl) (by kernel_rfl)) ?_
  intro W base args ds gs before hval0 hW hcnd hsz0 _
  have hval : ∀ (j : Nat) t v, Try.f7.params.toList[j]? = some t → args.toList[j]? = some v → Value.okWide Try.prog W .any base t v := by
    intro j t v a b
    exact hval0 j t v (by simpa using a) (by simpa using b)
  have hW' := hW
  obtain ⟨p, q, hA0, hV, rfl, hfz, hnd⟩ := hW
  have hA : DataW.TrodAll enc Try.prog W 0 (fun _ => true) true Try.f7.params.toList args.toList ds p := hA0
  obtain ⟨rfl, rfl⟩ := trodVars_none hV
  obtain ⟨sss, hs⟩ : ∃ sss, shapes Try.prog Try.f7.params.toList = some sss := Option.isSome_iff_exists.1 (by kernel_rfl)
  obtain ⟨os', bi', xs, _, _, ho, hf, hr⟩ := args_open _ sss hs _ _ _ hA hval [] [] opn_nil
  refine (row_calls (by kernel_rfl) ho hr (ev os' sss xs hs hf)).mono fun e W' ⟨he, bel⟩ => ?_
  subst he
  have hb := args_back laidOut bel _ _ _ _ (by kernel_rfl) hA
  rw [show Try.f7.params.toList = _ from rfl] at hA hb
  obtain ⟨v0, vs0, d0, ds0, p0, q0, hargs, rfl, rfl, h0, r0⟩ := trodAll_cons hA
  obtain ⟨v1, vs1, d1, ds1, p1, q1, rfl, rfl, rfl, h1, r1⟩ := trodAll_cons r0
  obtain ⟨v2, vs2, d2, ds2, p2, q2, rfl, rfl, rfl, h2, r2⟩ := trodAll_cons r1
  obtain ⟨rfl, rfl, rfl⟩ := trodAll_nil r2
  exact ⟨_, rfl, _, _, _, [], _, [], hW', trodAll_mk1 (shut_bool Try.underlying4 _), hb, rfl, bel.frame _, fun h => by cases h⟩

theorem burns_over (ev : ∀ os sss xs, shapes Try.prog Try.f7.params.toList = some sss → FitAs os sss xs → Ev Try.prog T (.func 7 xs) (avw os) (.ret (.bool true)) [] []) : Rows.lampBurnsRow.holds Try.pinned (OpenSpec.ofChange Rows.lampBurnsSpec) :=
  OpenClaim.holds_of_wide 7 Try.f7 rfl rfl rfl rfl rfl rfl rfl ⟨rfl, rfl, rfl, rfl, rfl⟩ rfl rfl rfl rfl rfl (by kernel_rfl) Try.func7 (by kernel_rfl)
    (of_decide_eq_true (by kernel_rfl)) (by unfold Func.isWrapper; first | (rw [if_pos (by decide +kernel)]; kernel_rfl) | (rw [if_neg (by decide +kernel)]; exact ⟨rfl, rfl⟩))
    (fun os started H enc _ => burns_lifted ev os started H enc)

set_option maxRecDepth 100000 in
theorem burns_ev (os : List AO) (sss : List (Bool × List CS)) (xs : List AV) (hs : shapes Try.prog Try.f7.params.toList = some sss) (hf : FitAs os sss xs) : Ev Try.prog T (.func 7 xs) (avw os) (.ret (.bool true)) [] [] := by
  have h0 : shapes Try.prog Try.f7.params.toList = some [(true, [.int .i64, .int .i64, .int .i64, .int .i64, .int .i64]), (false, [.int .u16]), (false, [.int .u8])] := by kernel_rfl
  rw [h0] at hs
  injection hs with hs
  subst hs
  obtain ⟨x, _, rfl, hx, hf1⟩ := hf.cons_inv
  obtain ⟨y, _, rfl, hy, hf2⟩ := hf1.cons_inv
  obtain ⟨z, _, rfl, hz, hf3⟩ := hf2.cons_inv
  obtain rfl := hf3.nil_inv
  obtain ⟨l, rfl, hl⟩ := hx.agg
  obtain ⟨m, rfl, hm⟩ := hy.one
  obtain ⟨k, rfl, hk⟩ := hz.one
  obtain ⟨_, _, rfl, ⟨a, rfl, _⟩, hl1⟩ := hl.cons_inv
  obtain ⟨_, _, rfl, ⟨b, rfl, _⟩, hl2⟩ := hl1.cons_inv
  obtain ⟨_, _, rfl, ⟨c, rfl, _⟩, hl3⟩ := hl2.cons_inv
  obtain ⟨_, _, rfl, ⟨d, rfl, _⟩, hl4⟩ := hl3.cons_inv
  obtain ⟨_, _, rfl, ⟨e, rfl, _⟩, hl5⟩ := hl4.cons_inv
  obtain rfl := hl5.nil_inv
  have hm' : 0 ≤ m ∧ m ≤ 65535 := by simp [Lit.wf, IntKind.min, IntKind.max, IntKind.signed, IntKind.bits] at hm; omega
  have hk' : 0 ≤ k ∧ k ≤ 255 := by simp [Lit.wf, IntKind.min, IntKind.max, IntKind.signed, IntKind.bits] at hk; omega
  exact main_ev _ a b c d e m k hm'.1 hm'.2 hk'.1 hk'.2
end Go.Ai.Lp
namespace Go.Proofs.Ythgkkbaaedefhaa
theorem lampBurns_holds : Rows.LampBurnsSaid := Go.Ai.Lp.burns_over Go.Ai.Lp.burns_ev
end Go.Proofs.Ythgkkbaaedefhaa
