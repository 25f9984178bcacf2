/- LpE0 -/
import Derived.Test.YthgkkbaaedefhaaLpD
set_option linter.unusedVariables false
set_option linter.unusedSimpArgs false
namespace Go.Ai.Lp
open Go Go.Proofs
set_option maxRecDepth 100000
set_option maxHeartbeats 4000000
set_option linter.unusedSimpArgs false
set_option linter.unusedVariables false

theorem night_yes (hb : HV) {a b c d e : Int} (h : okNight a b c d e) : Ev Try.prog T (.func 28 [nightV a b c d e]) hb (.ret (.bool true)) [] [] := by
  have := night_ev hb a b c d e
  obtain ⟨h1, h2, h3, h4, h5, h6, h7, h8⟩ := h
  simp only [h1, h2, h3, h4, h5, h6, h7, h8, decide_true, Bool.and_true] at this
  exact this
theorem night_no (hb : HV) {a b c d e : Int} (h : ¬ okNight a b c d e) : Ev Try.prog T (.func 28 [nightV a b c d e]) hb (.ret (.bool false)) [] [] := by
  have := night_ev hb a b c d e
  rw [show (decide (0 ≤ a) && decide (a ≤ b) && decide (b ≤ 2880) && (decide (0 ≤ c) && decide (c ≤ d)) && decide (d ≤ 2880) && (decide (0 ≤ e) && decide (e ≤ 2880))) = false by
    unfold okNight at h; simp only [Bool.and_eq_false_iff, decide_eq_false_iff_not]; omega] at this
  exact this
theorem e1 (M a b : Int) : ((f1 M a b == true) = false) ↔ ¬ (a ≤ M ∧ M < b) := by simp [f1]
theorem e2 (M a b : Int) : ((f1 M a b == false) = false) ↔ (a ≤ M ∧ M < b) := by simp [f1]
theorem e3 (M a b d : Int) : ((f1 M a b == !decide (M < d)) = false) ↔ ¬ ((a ≤ M ∧ M < b) ↔ ¬ M < d) := by
  unfold f1; by_cases a ≤ M <;> by_cases M < b <;> by_cases M < d <;> simp [*]
theorem g1 (M a b x y : Int) : (((f1 M a b || f1 M x y) == true) = false) ↔ ¬ ((a ≤ M ∧ M < b) ∨ (x ≤ M ∧ M < y)) := by
  unfold f1; by_cases a ≤ M <;> by_cases M < b <;> by_cases x ≤ M <;> by_cases M < y <;> simp [*]
theorem g2 (M a b x y : Int) : (((f1 M a b || f1 M x y) == false) = false) ↔ ((a ≤ M ∧ M < b) ∨ (x ≤ M ∧ M < y)) := by
  unfold f1; by_cases a ≤ M <;> by_cases M < b <;> by_cases x ≤ M <;> by_cases M < y <;> simp [*]
theorem g3 (M a b x y d : Int) : (((f1 M a b || f1 M x y) == !decide (M < d)) = false) ↔ ¬ (((a ≤ M ∧ M < b) ∨ (x ≤ M ∧ M < y)) ↔ ¬ M < d) := by
  unfold f1; by_cases a ≤ M <;> by_cases M < b <;> by_cases x ≤ M <;> by_cases M < y <;> by_cases M < d <;> simp [*]
theorem e0 (M d : Int) : ((false == !decide (M < d)) = false) ↔ ¬ M < d := by by_cases M < d <;> simp [*]
theorem ft : ((false == true) = false) ↔ True := by simp
theorem tf : ((true == false) = false) ↔ True := by simp
theorem ff : ((false == false) = false) ↔ False := by simp
theorem tt : ((true == true) = false) ↔ False := by simp

theorem main_no (hb : HV) {a b c d e m k : Int} (h : ¬ okNight a b c d e) : Ev Try.prog T (.func 7 [nightV a b c d e, .int .u16 m, .int .u8 k]) hb (.ret (.bool true)) [] [] := by
  refine Ev_func (k := 165) tok F7 rfl rfl rfl no_ups ?_
  repeat' first
    | refine W_seq' ?_
    | refine W_reg tok [0, 1, 2, 3, 6, 7, 8, 9, 10, 11, 12, 13, 14, 15, 16, 17, 18, 19, 20, 22, 29, 47, 52, 53, 54, 55, 78] (fun Q' hQ => ?_); simp (maxSteps := 10000000) (disch := omega) only [go_sem]; (try subst hQ)
    | refine W_regD tok [0, 1, 2, 3, 6, 7, 8, 9, 10, 11, 12, 13, 14, 15, 16, 17, 18, 19, 20, 22, 29, 47, 52, 53, 54, 55, 78] [0, 1, 0, 4, 15, 31, 63, 127, 255, 511, 1023, 511, 511, 4607, 14847, 31231, 63999, 131071, 262143, 524287] [[], [], [0, 1], [0, 1], [], [], [], [], [], [], [], [9, 10], [9, 10, 11], [9, 10, 11], [9, 10], [9, 10], [9, 10], [], [], []] (by decide +kernel) (by decide +kernel) (fun Q' hQ => ?_); simp (maxSteps := 10000000) (disch := omega) only [go_sem]; (try subst hQ)
    | refine W_cond' (fun Q' hQ => ?_); simp (maxSteps := 10000000) (disch := omega) only [go_sem]; (try subst hQ)
    | refine W_block' ?_
    | refine W_scope ?_
    | refine W_label ?_
    | refine W_ret ?_
    | refine W_skip ?_
    | refine W_exit ?_
    | simp only [thn_normal, thn_ret, thn_exit, thn_panic, blk_normal, blk_ret, blk_panic, blk_exit, wrq_normal, wrq_exit, wrq_ret, rgq_none, rgq_some, Nat.reduceEqDiff, ite_true, ite_false]
    | refine wcl_of (burns_no _ _ _ _ _ _ h) ?_; simp (maxSteps := 10000000) (disch := omega) only [go_sem]; (try subst hQ)
    | refine wcl_of (night_no _ h) ?_; simp (maxSteps := 10000000) (disch := omega) only [go_sem]; (try subst hQ)
    | refine wcl_of (alive_ev _) ?_; simp (maxSteps := 10000000) (disch := omega) only [go_sem]; (try subst hQ)
    | (refine wgd1_of (fun hg => ?_) (fun hg => ?_)) <;> simp (maxSteps := 10000000) (disch := omega) only [go_sem, hg] <;> (try subst hQ)
    | (refine wcnd_of (fun hg => ?_) (fun hg => ?_)) <;> (try subst hQ)
    | refine wout_append ?_; simp (maxSteps := 10000000) (disch := omega) only [go_sem]; (try subst hQ)
  first
    | (refine Lv_end (.inl rfl) [] ?_ rfl rfl ?_ no_ups <;> simp only [go_sem, Try.results7, List.flatten_cons, List.flatten_nil, I] <;> done)




end Go.Ai.Lp
