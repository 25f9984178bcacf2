/- LpD -/
import Derived.Test.YthgkkbaaedefhaaLpC
set_option linter.unusedVariables false
set_option linter.unusedSimpArgs false
namespace Go.Ai.Lp
open Go Go.Proofs
set_option maxRecDepth 100000
set_option maxHeartbeats 4000000
set_option linter.unusedSimpArgs false
set_option linter.unusedVariables false
abbrev nightV (a b c d e : Int) : AV := .agg [I a, I b, I c, I d, I e]

theorem burns_no0 (hb : HV) (a b c d e : Int)  (b0 : ¬ (0 ≤ b)) : Ev Try.prog T (.func 14 [nightV a b c d e]) hb (.ret (.tup [.nils, I 1])) [] [] := by
  refine Ev_func (k := 94) tok F14 rfl rfl rfl no_ups ?_
  repeat' first
    | refine W_seq' ?_
    | refine W_reg tok [0, 1, 2, 3, 4, 5, 7, 39, 65, 77, 78, 79, 80, 87] (fun Q' hQ => ?_); simp (maxSteps := 10000000) (disch := omega) only [go_sem, decide_eq_false b0]; (try subst hQ)
    | refine W_cond' (fun Q' hQ => ?_); simp (maxSteps := 10000000) (disch := omega) only [go_sem, decide_eq_false b0]; (try subst hQ)
    | refine W_block' ?_
    | refine W_scope ?_
    | refine W_label ?_
    | refine W_ret ?_
    | refine W_skip ?_
    | refine W_exit ?_
    | simp only [thn_normal, thn_ret, thn_exit, thn_panic, blk_normal, blk_ret, blk_panic, blk_exit, wrq_normal, wrq_exit, wrq_ret, rgq_none, rgq_some, Nat.reduceEqDiff, ite_true, ite_false]
    | refine wcl_of (within_ev _ _ _ _) ?_; simp (maxSteps := 10000000) (disch := omega) only [go_sem, decide_eq_false b0]; (try subst hQ)
    | refine wcl_of (isTime_ev _ _) ?_; simp (maxSteps := 10000000) (disch := omega) only [go_sem, decide_eq_false b0]; (try subst hQ)
    | (refine wgd1_of (fun hg => ?_) (fun hg => ?_)) <;> simp (maxSteps := 10000000) (disch := omega) only [go_sem, hg, decide_eq_false b0] <;> (try subst hQ)
    | (refine wcnd_of (fun hg => ?_) (fun hg => ?_)) <;> (try subst hQ)
    | refine wout_append ?_; simp (maxSteps := 10000000) (disch := omega) only [go_sem, decide_eq_false b0]; (try subst hQ)
  first
    | (refine Lv_end (.inl rfl) [] ?_ rfl rfl ?_ no_ups <;> simp only [go_sem, Try.results14, List.flatten_cons, List.flatten_nil, I] <;> done)

theorem burns_no1 (hb : HV) (a b c d e : Int) (b0 : 0 ≤ b) (b1 : ¬ (b ≤ 2880)) : Ev Try.prog T (.func 14 [nightV a b c d e]) hb (.ret (.tup [.nils, I 1])) [] [] := by
  refine Ev_func (k := 94) tok F14 rfl rfl rfl no_ups ?_
  repeat' first
    | refine W_seq' ?_
    | refine W_reg tok [0, 1, 2, 3, 4, 5, 7, 39, 65, 77, 78, 79, 80, 87] (fun Q' hQ => ?_); simp (maxSteps := 10000000) (disch := omega) only [go_sem, decide_eq_true b0, decide_eq_false b1]; (try subst hQ)
    | refine W_cond' (fun Q' hQ => ?_); simp (maxSteps := 10000000) (disch := omega) only [go_sem, decide_eq_true b0, decide_eq_false b1]; (try subst hQ)
    | refine W_block' ?_
    | refine W_scope ?_
    | refine W_label ?_
    | refine W_ret ?_
    | refine W_skip ?_
    | refine W_exit ?_
    | simp only [thn_normal, thn_ret, thn_exit, thn_panic, blk_normal, blk_ret, blk_panic, blk_exit, wrq_normal, wrq_exit, wrq_ret, rgq_none, rgq_some, Nat.reduceEqDiff, ite_true, ite_false]
    | refine wcl_of (within_ev _ _ _ _) ?_; simp (maxSteps := 10000000) (disch := omega) only [go_sem, decide_eq_true b0, decide_eq_false b1]; (try subst hQ)
    | refine wcl_of (isTime_ev _ _) ?_; simp (maxSteps := 10000000) (disch := omega) only [go_sem, decide_eq_true b0, decide_eq_false b1]; (try subst hQ)
    | (refine wgd1_of (fun hg => ?_) (fun hg => ?_)) <;> simp (maxSteps := 10000000) (disch := omega) only [go_sem, hg, decide_eq_true b0, decide_eq_false b1] <;> (try subst hQ)
    | (refine wcnd_of (fun hg => ?_) (fun hg => ?_)) <;> (try subst hQ)
    | refine wout_append ?_; simp (maxSteps := 10000000) (disch := omega) only [go_sem, decide_eq_true b0, decide_eq_false b1]; (try subst hQ)
  first
    | (refine Lv_end (.inl rfl) [] ?_ rfl rfl ?_ no_ups <;> simp only [go_sem, Try.results14, List.flatten_cons, List.flatten_nil, I] <;> done)

theorem burns_no2 (hb : HV) (a b c d e : Int) (b0 : 0 ≤ b) (b1 : b ≤ 2880) (a0 : ¬ (0 ≤ a)) : Ev Try.prog T (.func 14 [nightV a b c d e]) hb (.ret (.tup [.nils, I 1])) [] [] := by
  refine Ev_func (k := 94) tok F14 rfl rfl rfl no_ups ?_
  repeat' first
    | refine W_seq' ?_
    | refine W_reg tok [0, 1, 2, 3, 4, 5, 7, 39, 65, 77, 78, 79, 80, 87] (fun Q' hQ => ?_); simp (maxSteps := 10000000) (disch := omega) only [go_sem, decide_eq_true b0, decide_eq_true b1, decide_eq_false a0]; (try subst hQ)
    | refine W_cond' (fun Q' hQ => ?_); simp (maxSteps := 10000000) (disch := omega) only [go_sem, decide_eq_true b0, decide_eq_true b1, decide_eq_false a0]; (try subst hQ)
    | refine W_block' ?_
    | refine W_scope ?_
    | refine W_label ?_
    | refine W_ret ?_
    | refine W_skip ?_
    | refine W_exit ?_
    | simp only [thn_normal, thn_ret, thn_exit, thn_panic, blk_normal, blk_ret, blk_panic, blk_exit, wrq_normal, wrq_exit, wrq_ret, rgq_none, rgq_some, Nat.reduceEqDiff, ite_true, ite_false]
    | refine wcl_of (within_ev _ _ _ _) ?_; simp (maxSteps := 10000000) (disch := omega) only [go_sem, decide_eq_true b0, decide_eq_true b1, decide_eq_false a0]; (try subst hQ)
    | refine wcl_of (isTime_ev _ _) ?_; simp (maxSteps := 10000000) (disch := omega) only [go_sem, decide_eq_true b0, decide_eq_true b1, decide_eq_false a0]; (try subst hQ)
    | (refine wgd1_of (fun hg => ?_) (fun hg => ?_)) <;> simp (maxSteps := 10000000) (disch := omega) only [go_sem, hg, decide_eq_true b0, decide_eq_true b1, decide_eq_false a0] <;> (try subst hQ)
    | (refine wcnd_of (fun hg => ?_) (fun hg => ?_)) <;> (try subst hQ)
    | refine wout_append ?_; simp (maxSteps := 10000000) (disch := omega) only [go_sem, decide_eq_true b0, decide_eq_true b1, decide_eq_false a0]; (try subst hQ)
  first
    | (refine Lv_end (.inl rfl) [] ?_ rfl rfl ?_ no_ups <;> simp only [go_sem, Try.results14, List.flatten_cons, List.flatten_nil, I] <;> done)

theorem burns_no3 (hb : HV) (a b c d e : Int) (b0 : 0 ≤ b) (b1 : b ≤ 2880) (a0 : 0 ≤ a) (ab : ¬ (a ≤ b)) : Ev Try.prog T (.func 14 [nightV a b c d e]) hb (.ret (.tup [.nils, I 1])) [] [] := by
  refine Ev_func (k := 94) tok F14 rfl rfl rfl no_ups ?_
  repeat' first
    | refine W_seq' ?_
    | refine W_reg tok [0, 1, 2, 3, 4, 5, 7, 39, 65, 77, 78, 79, 80, 87] (fun Q' hQ => ?_); simp (maxSteps := 10000000) (disch := omega) only [go_sem, decide_eq_true b0, decide_eq_true b1, decide_eq_true a0, decide_eq_false ab]; (try subst hQ)
    | refine W_cond' (fun Q' hQ => ?_); simp (maxSteps := 10000000) (disch := omega) only [go_sem, decide_eq_true b0, decide_eq_true b1, decide_eq_true a0, decide_eq_false ab]; (try subst hQ)
    | refine W_block' ?_
    | refine W_scope ?_
    | refine W_label ?_
    | refine W_ret ?_
    | refine W_skip ?_
    | refine W_exit ?_
    | simp only [thn_normal, thn_ret, thn_exit, thn_panic, blk_normal, blk_ret, blk_panic, blk_exit, wrq_normal, wrq_exit, wrq_ret, rgq_none, rgq_some, Nat.reduceEqDiff, ite_true, ite_false]
    | refine wcl_of (within_ev _ _ _ _) ?_; simp (maxSteps := 10000000) (disch := omega) only [go_sem, decide_eq_true b0, decide_eq_true b1, decide_eq_true a0, decide_eq_false ab]; (try subst hQ)
    | refine wcl_of (isTime_ev _ _) ?_; simp (maxSteps := 10000000) (disch := omega) only [go_sem, decide_eq_true b0, decide_eq_true b1, decide_eq_true a0, decide_eq_false ab]; (try subst hQ)
    | (refine wgd1_of (fun hg => ?_) (fun hg => ?_)) <;> simp (maxSteps := 10000000) (disch := omega) only [go_sem, hg, decide_eq_true b0, decide_eq_true b1, decide_eq_true a0, decide_eq_false ab] <;> (try subst hQ)
    | (refine wcnd_of (fun hg => ?_) (fun hg => ?_)) <;> (try subst hQ)
    | refine wout_append ?_; simp (maxSteps := 10000000) (disch := omega) only [go_sem, decide_eq_true b0, decide_eq_true b1, decide_eq_true a0, decide_eq_false ab]; (try subst hQ)
  first
    | (refine Lv_end (.inl rfl) [] ?_ rfl rfl ?_ no_ups <;> simp only [go_sem, Try.results14, List.flatten_cons, List.flatten_nil, I] <;> done)

theorem burns_no4 (hb : HV) (a b c d e : Int) (b0 : 0 ≤ b) (b1 : b ≤ 2880) (a0 : 0 ≤ a) (ab : a ≤ b) (d0 : ¬ (0 ≤ d)) : Ev Try.prog T (.func 14 [nightV a b c d e]) hb (.ret (.tup [.nils, I 1])) [] [] := by
  refine Ev_func (k := 94) tok F14 rfl rfl rfl no_ups ?_
  repeat' first
    | refine W_seq' ?_
    | refine W_reg tok [0, 1, 2, 3, 4, 5, 7, 39, 65, 77, 78, 79, 80, 87] (fun Q' hQ => ?_); simp (maxSteps := 10000000) (disch := omega) only [go_sem, decide_eq_true b0, decide_eq_true b1, decide_eq_true a0, decide_eq_true ab, decide_eq_false d0]; (try subst hQ)
    | refine W_cond' (fun Q' hQ => ?_); simp (maxSteps := 10000000) (disch := omega) only [go_sem, decide_eq_true b0, decide_eq_true b1, decide_eq_true a0, decide_eq_true ab, decide_eq_false d0]; (try subst hQ)
    | refine W_block' ?_
    | refine W_scope ?_
    | refine W_label ?_
    | refine W_ret ?_
    | refine W_skip ?_
    | refine W_exit ?_
    | simp only [thn_normal, thn_ret, thn_exit, thn_panic, blk_normal, blk_ret, blk_panic, blk_exit, wrq_normal, wrq_exit, wrq_ret, rgq_none, rgq_some, Nat.reduceEqDiff, ite_true, ite_false]
    | refine wcl_of (within_ev _ _ _ _) ?_; simp (maxSteps := 10000000) (disch := omega) only [go_sem, decide_eq_true b0, decide_eq_true b1, decide_eq_true a0, decide_eq_true ab, decide_eq_false d0]; (try subst hQ)
    | refine wcl_of (isTime_ev _ _) ?_; simp (maxSteps := 10000000) (disch := omega) only [go_sem, decide_eq_true b0, decide_eq_true b1, decide_eq_true a0, decide_eq_true ab, decide_eq_false d0]; (try subst hQ)
    | (refine wgd1_of (fun hg => ?_) (fun hg => ?_)) <;> simp (maxSteps := 10000000) (disch := omega) only [go_sem, hg, decide_eq_true b0, decide_eq_true b1, decide_eq_true a0, decide_eq_true ab, decide_eq_false d0] <;> (try subst hQ)
    | (refine wcnd_of (fun hg => ?_) (fun hg => ?_)) <;> (try subst hQ)
    | refine wout_append ?_; simp (maxSteps := 10000000) (disch := omega) only [go_sem, decide_eq_true b0, decide_eq_true b1, decide_eq_true a0, decide_eq_true ab, decide_eq_false d0]; (try subst hQ)
  first
    | (refine Lv_end (.inl rfl) [] ?_ rfl rfl ?_ no_ups <;> simp only [go_sem, Try.results14, List.flatten_cons, List.flatten_nil, I] <;> done)

theorem burns_no5 (hb : HV) (a b c d e : Int) (b0 : 0 ≤ b) (b1 : b ≤ 2880) (a0 : 0 ≤ a) (ab : a ≤ b) (d0 : 0 ≤ d) (d1 : ¬ (d ≤ 2880)) : Ev Try.prog T (.func 14 [nightV a b c d e]) hb (.ret (.tup [.nils, I 1])) [] [] := by
  refine Ev_func (k := 94) tok F14 rfl rfl rfl no_ups ?_
  repeat' first
    | refine W_seq' ?_
    | refine W_reg tok [0, 1, 2, 3, 4, 5, 7, 39, 65, 77, 78, 79, 80, 87] (fun Q' hQ => ?_); simp (maxSteps := 10000000) (disch := omega) only [go_sem, decide_eq_true b0, decide_eq_true b1, decide_eq_true a0, decide_eq_true ab, decide_eq_true d0, decide_eq_false d1]; (try subst hQ)
    | refine W_cond' (fun Q' hQ => ?_); simp (maxSteps := 10000000) (disch := omega) only [go_sem, decide_eq_true b0, decide_eq_true b1, decide_eq_true a0, decide_eq_true ab, decide_eq_true d0, decide_eq_false d1]; (try subst hQ)
    | refine W_block' ?_
    | refine W_scope ?_
    | refine W_label ?_
    | refine W_ret ?_
    | refine W_skip ?_
    | refine W_exit ?_
    | simp only [thn_normal, thn_ret, thn_exit, thn_panic, blk_normal, blk_ret, blk_panic, blk_exit, wrq_normal, wrq_exit, wrq_ret, rgq_none, rgq_some, Nat.reduceEqDiff, ite_true, ite_false]
    | refine wcl_of (within_ev _ _ _ _) ?_; simp (maxSteps := 10000000) (disch := omega) only [go_sem, decide_eq_true b0, decide_eq_true b1, decide_eq_true a0, decide_eq_true ab, decide_eq_true d0, decide_eq_false d1]; (try subst hQ)
    | refine wcl_of (isTime_ev _ _) ?_; simp (maxSteps := 10000000) (disch := omega) only [go_sem, decide_eq_true b0, decide_eq_true b1, decide_eq_true a0, decide_eq_true ab, decide_eq_true d0, decide_eq_false d1]; (try subst hQ)
    | (refine wgd1_of (fun hg => ?_) (fun hg => ?_)) <;> simp (maxSteps := 10000000) (disch := omega) only [go_sem, hg, decide_eq_true b0, decide_eq_true b1, decide_eq_true a0, decide_eq_true ab, decide_eq_true d0, decide_eq_false d1] <;> (try subst hQ)
    | (refine wcnd_of (fun hg => ?_) (fun hg => ?_)) <;> (try subst hQ)
    | refine wout_append ?_; simp (maxSteps := 10000000) (disch := omega) only [go_sem, decide_eq_true b0, decide_eq_true b1, decide_eq_true a0, decide_eq_true ab, decide_eq_true d0, decide_eq_false d1]; (try subst hQ)
  first
    | (refine Lv_end (.inl rfl) [] ?_ rfl rfl ?_ no_ups <;> simp only [go_sem, Try.results14, List.flatten_cons, List.flatten_nil, I] <;> done)

theorem burns_no6 (hb : HV) (a b c d e : Int) (b0 : 0 ≤ b) (b1 : b ≤ 2880) (a0 : 0 ≤ a) (ab : a ≤ b) (d0 : 0 ≤ d) (d1 : d ≤ 2880) (c0 : ¬ (0 ≤ c)) : Ev Try.prog T (.func 14 [nightV a b c d e]) hb (.ret (.tup [.nils, I 1])) [] [] := by
  refine Ev_func (k := 94) tok F14 rfl rfl rfl no_ups ?_
  repeat' first
    | refine W_seq' ?_
    | refine W_reg tok [0, 1, 2, 3, 4, 5, 7, 39, 65, 77, 78, 79, 80, 87] (fun Q' hQ => ?_); simp (maxSteps := 10000000) (disch := omega) only [go_sem, decide_eq_true b0, decide_eq_true b1, decide_eq_true a0, decide_eq_true ab, decide_eq_true d0, decide_eq_true d1, decide_eq_false c0]; (try subst hQ)
    | refine W_cond' (fun Q' hQ => ?_); simp (maxSteps := 10000000) (disch := omega) only [go_sem, decide_eq_true b0, decide_eq_true b1, decide_eq_true a0, decide_eq_true ab, decide_eq_true d0, decide_eq_true d1, decide_eq_false c0]; (try subst hQ)
    | refine W_block' ?_
    | refine W_scope ?_
    | refine W_label ?_
    | refine W_ret ?_
    | refine W_skip ?_
    | refine W_exit ?_
    | simp only [thn_normal, thn_ret, thn_exit, thn_panic, blk_normal, blk_ret, blk_panic, blk_exit, wrq_normal, wrq_exit, wrq_ret, rgq_none, rgq_some, Nat.reduceEqDiff, ite_true, ite_false]
    | refine wcl_of (within_ev _ _ _ _) ?_; simp (maxSteps := 10000000) (disch := omega) only [go_sem, decide_eq_true b0, decide_eq_true b1, decide_eq_true a0, decide_eq_true ab, decide_eq_true d0, decide_eq_true d1, decide_eq_false c0]; (try subst hQ)
    | refine wcl_of (isTime_ev _ _) ?_; simp (maxSteps := 10000000) (disch := omega) only [go_sem, decide_eq_true b0, decide_eq_true b1, decide_eq_true a0, decide_eq_true ab, decide_eq_true d0, decide_eq_true d1, decide_eq_false c0]; (try subst hQ)
    | (refine wgd1_of (fun hg => ?_) (fun hg => ?_)) <;> simp (maxSteps := 10000000) (disch := omega) only [go_sem, hg, decide_eq_true b0, decide_eq_true b1, decide_eq_true a0, decide_eq_true ab, decide_eq_true d0, decide_eq_true d1, decide_eq_false c0] <;> (try subst hQ)
    | (refine wcnd_of (fun hg => ?_) (fun hg => ?_)) <;> (try subst hQ)
    | refine wout_append ?_; simp (maxSteps := 10000000) (disch := omega) only [go_sem, decide_eq_true b0, decide_eq_true b1, decide_eq_true a0, decide_eq_true ab, decide_eq_true d0, decide_eq_true d1, decide_eq_false c0]; (try subst hQ)
  first
    | (refine Lv_end (.inl rfl) [] ?_ rfl rfl ?_ no_ups <;> simp only [go_sem, Try.results14, List.flatten_cons, List.flatten_nil, I] <;> done)

theorem burns_no7 (hb : HV) (a b c d e : Int) (b0 : 0 ≤ b) (b1 : b ≤ 2880) (a0 : 0 ≤ a) (ab : a ≤ b) (d0 : 0 ≤ d) (d1 : d ≤ 2880) (c0 : 0 ≤ c) (cd : ¬ (c ≤ d)) : Ev Try.prog T (.func 14 [nightV a b c d e]) hb (.ret (.tup [.nils, I 1])) [] [] := by
  refine Ev_func (k := 94) tok F14 rfl rfl rfl no_ups ?_
  repeat' first
    | refine W_seq' ?_
    | refine W_reg tok [0, 1, 2, 3, 4, 5, 7, 39, 65, 77, 78, 79, 80, 87] (fun Q' hQ => ?_); simp (maxSteps := 10000000) (disch := omega) only [go_sem, decide_eq_true b0, decide_eq_true b1, decide_eq_true a0, decide_eq_true ab, decide_eq_true d0, decide_eq_true d1, decide_eq_true c0, decide_eq_false cd]; (try subst hQ)
    | refine W_cond' (fun Q' hQ => ?_); simp (maxSteps := 10000000) (disch := omega) only [go_sem, decide_eq_true b0, decide_eq_true b1, decide_eq_true a0, decide_eq_true ab, decide_eq_true d0, decide_eq_true d1, decide_eq_true c0, decide_eq_false cd]; (try subst hQ)
    | refine W_block' ?_
    | refine W_scope ?_
    | refine W_label ?_
    | refine W_ret ?_
    | refine W_skip ?_
    | refine W_exit ?_
    | simp only [thn_normal, thn_ret, thn_exit, thn_panic, blk_normal, blk_ret, blk_panic, blk_exit, wrq_normal, wrq_exit, wrq_ret, rgq_none, rgq_some, Nat.reduceEqDiff, ite_true, ite_false]
    | refine wcl_of (within_ev _ _ _ _) ?_; simp (maxSteps := 10000000) (disch := omega) only [go_sem, decide_eq_true b0, decide_eq_true b1, decide_eq_true a0, decide_eq_true ab, decide_eq_true d0, decide_eq_true d1, decide_eq_true c0, decide_eq_false cd]; (try subst hQ)
    | refine wcl_of (isTime_ev _ _) ?_; simp (maxSteps := 10000000) (disch := omega) only [go_sem, decide_eq_true b0, decide_eq_true b1, decide_eq_true a0, decide_eq_true ab, decide_eq_true d0, decide_eq_true d1, decide_eq_true c0, decide_eq_false cd]; (try subst hQ)
    | (refine wgd1_of (fun hg => ?_) (fun hg => ?_)) <;> simp (maxSteps := 10000000) (disch := omega) only [go_sem, hg, decide_eq_true b0, decide_eq_true b1, decide_eq_true a0, decide_eq_true ab, decide_eq_true d0, decide_eq_true d1, decide_eq_true c0, decide_eq_false cd] <;> (try subst hQ)
    | (refine wcnd_of (fun hg => ?_) (fun hg => ?_)) <;> (try subst hQ)
    | refine wout_append ?_; simp (maxSteps := 10000000) (disch := omega) only [go_sem, decide_eq_true b0, decide_eq_true b1, decide_eq_true a0, decide_eq_true ab, decide_eq_true d0, decide_eq_true d1, decide_eq_true c0, decide_eq_false cd]; (try subst hQ)
  first
    | (refine Lv_end (.inl rfl) [] ?_ rfl rfl ?_ no_ups <;> simp only [go_sem, Try.results14, List.flatten_cons, List.flatten_nil, I] <;> done)

theorem burns_no8 (hb : HV) (a b c d e : Int) (b0 : 0 ≤ b) (b1 : b ≤ 2880) (a0 : 0 ≤ a) (ab : a ≤ b) (d0 : 0 ≤ d) (d1 : d ≤ 2880) (c0 : 0 ≤ c) (cd : c ≤ d) (e0 : ¬ (0 ≤ e)) : Ev Try.prog T (.func 14 [nightV a b c d e]) hb (.ret (.tup [.nils, I 1])) [] [] := by
  refine Ev_func (k := 94) tok F14 rfl rfl rfl no_ups ?_
  repeat' first
    | refine W_seq' ?_
    | refine W_reg tok [0, 1, 2, 3, 4, 5, 7, 39, 65, 77, 78, 79, 80, 87] (fun Q' hQ => ?_); simp (maxSteps := 10000000) (disch := omega) only [go_sem, decide_eq_true b0, decide_eq_true b1, decide_eq_true a0, decide_eq_true ab, decide_eq_true d0, decide_eq_true d1, decide_eq_true c0, decide_eq_true cd, decide_eq_false e0]; (try subst hQ)
    | refine W_cond' (fun Q' hQ => ?_); simp (maxSteps := 10000000) (disch := omega) only [go_sem, decide_eq_true b0, decide_eq_true b1, decide_eq_true a0, decide_eq_true ab, decide_eq_true d0, decide_eq_true d1, decide_eq_true c0, decide_eq_true cd, decide_eq_false e0]; (try subst hQ)
    | refine W_block' ?_
    | refine W_scope ?_
    | refine W_label ?_
    | refine W_ret ?_
    | refine W_skip ?_
    | refine W_exit ?_
    | simp only [thn_normal, thn_ret, thn_exit, thn_panic, blk_normal, blk_ret, blk_panic, blk_exit, wrq_normal, wrq_exit, wrq_ret, rgq_none, rgq_some, Nat.reduceEqDiff, ite_true, ite_false]
    | refine wcl_of (within_ev _ _ _ _) ?_; simp (maxSteps := 10000000) (disch := omega) only [go_sem, decide_eq_true b0, decide_eq_true b1, decide_eq_true a0, decide_eq_true ab, decide_eq_true d0, decide_eq_true d1, decide_eq_true c0, decide_eq_true cd, decide_eq_false e0]; (try subst hQ)
    | refine wcl_of (isTime_ev _ _) ?_; simp (maxSteps := 10000000) (disch := omega) only [go_sem, decide_eq_true b0, decide_eq_true b1, decide_eq_true a0, decide_eq_true ab, decide_eq_true d0, decide_eq_true d1, decide_eq_true c0, decide_eq_true cd, decide_eq_false e0]; (try subst hQ)
    | (refine wgd1_of (fun hg => ?_) (fun hg => ?_)) <;> simp (maxSteps := 10000000) (disch := omega) only [go_sem, hg, decide_eq_true b0, decide_eq_true b1, decide_eq_true a0, decide_eq_true ab, decide_eq_true d0, decide_eq_true d1, decide_eq_true c0, decide_eq_true cd, decide_eq_false e0] <;> (try subst hQ)
    | (refine wcnd_of (fun hg => ?_) (fun hg => ?_)) <;> (try subst hQ)
    | refine wout_append ?_; simp (maxSteps := 10000000) (disch := omega) only [go_sem, decide_eq_true b0, decide_eq_true b1, decide_eq_true a0, decide_eq_true ab, decide_eq_true d0, decide_eq_true d1, decide_eq_true c0, decide_eq_true cd, decide_eq_false e0]; (try subst hQ)
  first
    | (refine Lv_end (.inl rfl) [] ?_ rfl rfl ?_ no_ups <;> simp only [go_sem, Try.results14, List.flatten_cons, List.flatten_nil, I] <;> done)

theorem burns_no9 (hb : HV) (a b c d e : Int) (b0 : 0 ≤ b) (b1 : b ≤ 2880) (a0 : 0 ≤ a) (ab : a ≤ b) (d0 : 0 ≤ d) (d1 : d ≤ 2880) (c0 : 0 ≤ c) (cd : c ≤ d) (e0 : 0 ≤ e) (e1 : ¬ (e ≤ 2880)) : Ev Try.prog T (.func 14 [nightV a b c d e]) hb (.ret (.tup [.nils, I 1])) [] [] := by
  refine Ev_func (k := 94) tok F14 rfl rfl rfl no_ups ?_
  repeat' first
    | refine W_seq' ?_
    | refine W_reg tok [0, 1, 2, 3, 4, 5, 7, 39, 65, 77, 78, 79, 80, 87] (fun Q' hQ => ?_); simp (maxSteps := 10000000) (disch := omega) only [go_sem, decide_eq_true b0, decide_eq_true b1, decide_eq_true a0, decide_eq_true ab, decide_eq_true d0, decide_eq_true d1, decide_eq_true c0, decide_eq_true cd, decide_eq_true e0, decide_eq_false e1]; (try subst hQ)
    | refine W_cond' (fun Q' hQ => ?_); simp (maxSteps := 10000000) (disch := omega) only [go_sem, decide_eq_true b0, decide_eq_true b1, decide_eq_true a0, decide_eq_true ab, decide_eq_true d0, decide_eq_true d1, decide_eq_true c0, decide_eq_true cd, decide_eq_true e0, decide_eq_false e1]; (try subst hQ)
    | refine W_block' ?_
    | refine W_scope ?_
    | refine W_label ?_
    | refine W_ret ?_
    | refine W_skip ?_
    | refine W_exit ?_
    | simp only [thn_normal, thn_ret, thn_exit, thn_panic, blk_normal, blk_ret, blk_panic, blk_exit, wrq_normal, wrq_exit, wrq_ret, rgq_none, rgq_some, Nat.reduceEqDiff, ite_true, ite_false]
    | refine wcl_of (within_ev _ _ _ _) ?_; simp (maxSteps := 10000000) (disch := omega) only [go_sem, decide_eq_true b0, decide_eq_true b1, decide_eq_true a0, decide_eq_true ab, decide_eq_true d0, decide_eq_true d1, decide_eq_true c0, decide_eq_true cd, decide_eq_true e0, decide_eq_false e1]; (try subst hQ)
    | refine wcl_of (isTime_ev _ _) ?_; simp (maxSteps := 10000000) (disch := omega) only [go_sem, decide_eq_true b0, decide_eq_true b1, decide_eq_true a0, decide_eq_true ab, decide_eq_true d0, decide_eq_true d1, decide_eq_true c0, decide_eq_true cd, decide_eq_true e0, decide_eq_false e1]; (try subst hQ)
    | (refine wgd1_of (fun hg => ?_) (fun hg => ?_)) <;> simp (maxSteps := 10000000) (disch := omega) only [go_sem, hg, decide_eq_true b0, decide_eq_true b1, decide_eq_true a0, decide_eq_true ab, decide_eq_true d0, decide_eq_true d1, decide_eq_true c0, decide_eq_true cd, decide_eq_true e0, decide_eq_false e1] <;> (try subst hQ)
    | (refine wcnd_of (fun hg => ?_) (fun hg => ?_)) <;> (try subst hQ)
    | refine wout_append ?_; simp (maxSteps := 10000000) (disch := omega) only [go_sem, decide_eq_true b0, decide_eq_true b1, decide_eq_true a0, decide_eq_true ab, decide_eq_true d0, decide_eq_true d1, decide_eq_true c0, decide_eq_true cd, decide_eq_true e0, decide_eq_false e1]; (try subst hQ)
  first
    | (refine Lv_end (.inl rfl) [] ?_ rfl rfl ?_ no_ups <;> simp only [go_sem, Try.results14, List.flatten_cons, List.flatten_nil, I] <;> done)

def okNight (a b c d e : Int) : Prop := 0 ≤ a ∧ a ≤ b ∧ b ≤ 2880 ∧ 0 ≤ c ∧ c ≤ d ∧ d ≤ 2880 ∧ 0 ≤ e ∧ e ≤ 2880
theorem burns_no (hb : HV) (a b c d e : Int) (h : ¬ okNight a b c d e) : Ev Try.prog T (.func 14 [nightV a b c d e]) hb (.ret (.tup [.nils, I 1])) [] [] := by
  by_cases b0 : 0 ≤ b
  case neg => exact burns_no0 hb a b c d e  b0
  by_cases b1 : b ≤ 2880
  case neg => exact burns_no1 hb a b c d e b0 b1
  by_cases a0 : 0 ≤ a
  case neg => exact burns_no2 hb a b c d e b0 b1 a0
  by_cases ab : a ≤ b
  case neg => exact burns_no3 hb a b c d e b0 b1 a0 ab
  by_cases d0 : 0 ≤ d
  case neg => exact burns_no4 hb a b c d e b0 b1 a0 ab d0
  by_cases d1 : d ≤ 2880
  case neg => exact burns_no5 hb a b c d e b0 b1 a0 ab d0 d1
  by_cases c0 : 0 ≤ c
  case neg => exact burns_no6 hb a b c d e b0 b1 a0 ab d0 d1 c0
  by_cases cd : c ≤ d
  case neg => exact burns_no7 hb a b c d e b0 b1 a0 ab d0 d1 c0 cd
  by_cases e0 : 0 ≤ e
  case neg => exact burns_no8 hb a b c d e b0 b1 a0 ab d0 d1 c0 cd e0
  by_cases e1 : e ≤ 2880
  case neg => exact burns_no9 hb a b c d e b0 b1 a0 ab d0 d1 c0 cd e0 e1
  exact absurd ⟨a0, ab, b1, c0, cd, d1, e0, e1⟩ h


def f1 (m lo hi : Int) : Bool := decide (lo ≤ m) && decide (m < hi)
theorem sum0 (hb : HV) (m : Int) {b : Nat} (h1 : b < hb.nx) (g1 : hb.get b = some (.cells true 1 [I m])) : Ev Try.prog T (.func 29 [.nils, .ptr b 0]) hb (.ret (.tup [.bool false, I 0])) [] [] := by
  refine Ev_func (k := 36) tok F29 rfl rfl rfl no_ups ?_
  repeat' first
    | refine W_seq' ?_
    | refine W_reg tok [0, 1, 3, 4, 6, 7, 8, 9, 10] (fun Q' hQ => ?_); simp (maxSteps := 10000000) (disch := omega) only [go_sem, g1]; (try subst hQ)
    | refine W_cond' (fun Q' hQ => ?_); simp (maxSteps := 10000000) (disch := omega) only [go_sem, g1]; (try subst hQ)
    | refine W_block' ?_
    | refine W_scope ?_
    | refine W_label ?_
    | refine W_ret ?_
    | refine W_skip ?_
    | refine W_exit ?_
    | simp only [thn_normal, thn_ret, thn_exit, thn_panic, blk_normal, blk_ret, blk_panic, blk_exit, wrq_normal, wrq_exit, wrq_ret, rgq_none, rgq_some, Nat.reduceEqDiff, ite_true, ite_false]
    | (refine wgd1_of (fun hg => ?_) (fun hg => ?_)) <;> simp (maxSteps := 10000000) (disch := omega) only [go_sem, hg, g1] <;> (try subst hQ)
    | (refine wcnd_of (fun hg => ?_) (fun hg => ?_)) <;> (try subst hQ)
    | refine wout_append ?_; simp (maxSteps := 10000000) (disch := omega) only [go_sem, g1]; (try subst hQ)
    | refine W_unroll 1 ?_
    | refine Wrl_go ?_
    | (refine Lv_pure (by simp) ?_; simp only [go_sem, Try.results29])
theorem sum1 (hb : HV) (m x y : Int) {b c : Nat} (h1 : b < hb.nx) (g1 : hb.get b = some (.cells true 1 [I m])) (h2 : c < hb.nx) (g2 : hb.get c = some (.cells true 2 [I x, I y])) (x0 : 0 ≤ x) (xy : x ≤ y) (y1 : y ≤ 2880) : Ev Try.prog T (.func 29 [.slice c 0 1 1 false, .ptr b 0]) hb (.ret (.tup [.bool (f1 m x y), I (y - x)])) [] [] := by
  refine Ev_func (k := 36) tok F29 rfl rfl rfl no_ups ?_
  repeat' first
    | refine W_seq' ?_
    | refine W_reg tok [0, 1, 3, 4, 6, 7, 8, 9, 10] (fun Q' hQ => ?_); simp (maxSteps := 10000000) (disch := omega) only [go_sem, g1, g2]; (try subst hQ)
    | refine W_cond' (fun Q' hQ => ?_); simp (maxSteps := 10000000) (disch := omega) only [go_sem, g1, g2]; (try subst hQ)
    | refine W_block' ?_
    | refine W_scope ?_
    | refine W_label ?_
    | refine W_ret ?_
    | refine W_skip ?_
    | refine W_exit ?_
    | simp only [thn_normal, thn_ret, thn_exit, thn_panic, blk_normal, blk_ret, blk_panic, blk_exit, wrq_normal, wrq_exit, wrq_ret, rgq_none, rgq_some, Nat.reduceEqDiff, ite_true, ite_false]
    | (refine wgd1_of (fun hg => ?_) (fun hg => ?_)) <;> simp (maxSteps := 10000000) (disch := omega) only [go_sem, hg, g1, g2] <;> (try subst hQ)
    | (refine wcnd_of (fun hg => ?_) (fun hg => ?_)) <;> (try subst hQ)
    | refine wout_append ?_; simp (maxSteps := 10000000) (disch := omega) only [go_sem, g1, g2]; (try subst hQ)
    | refine W_unroll 2 ?_
    | refine Wrl_go ?_
    | (refine Lv_pure (by simp) ?_; simp only [go_sem, Try.results29])
  all_goals simp only [decide_eq_true_eq, decide_eq_false_iff_not] at *
  all_goals simp [f1, I, *]
theorem sum2 (hb : HV) (m x y z w : Int) {b c : Nat} (h1 : b < hb.nx) (g1 : hb.get b = some (.cells true 1 [I m])) (h2 : c < hb.nx) (g2 : hb.get c = some (.cells true 2 [I x, I y, I z, I w])) (x0 : 0 ≤ x) (xy : x ≤ y) (y1 : y ≤ 2880) (z0 : 0 ≤ z) (zw : z ≤ w) (w1 : w ≤ 2880) : Ev Try.prog T (.func 29 [.slice c 0 2 2 false, .ptr b 0]) hb (.ret (.tup [.bool (f1 m x y || f1 m z w), I ((y - x) + (w - z))])) [] [] := by
  refine Ev_func (k := 36) tok F29 rfl rfl rfl no_ups ?_
  repeat' first
    | refine W_seq' ?_
    | refine W_reg tok [0, 1, 3, 4, 6, 7, 8, 9, 10] (fun Q' hQ => ?_); simp (maxSteps := 10000000) (disch := omega) only [go_sem, g1, g2]; (try subst hQ)
    | refine W_cond' (fun Q' hQ => ?_); simp (maxSteps := 10000000) (disch := omega) only [go_sem, g1, g2]; (try subst hQ)
    | refine W_block' ?_
    | refine W_scope ?_
    | refine W_label ?_
    | refine W_ret ?_
    | refine W_skip ?_
    | refine W_exit ?_
    | simp only [thn_normal, thn_ret, thn_exit, thn_panic, blk_normal, blk_ret, blk_panic, blk_exit, wrq_normal, wrq_exit, wrq_ret, rgq_none, rgq_some, Nat.reduceEqDiff, ite_true, ite_false]
    | (refine wgd1_of (fun hg => ?_) (fun hg => ?_)) <;> simp (maxSteps := 10000000) (disch := omega) only [go_sem, hg, g1, g2] <;> (try subst hQ)
    | (refine wcnd_of (fun hg => ?_) (fun hg => ?_)) <;> (try subst hQ)
    | refine wout_append ?_; simp (maxSteps := 10000000) (disch := omega) only [go_sem, g1, g2]; (try subst hQ)
    | refine W_unroll 3 ?_
    | refine Wrl_go ?_
    | (refine Lv_pure (by simp) ?_; simp only [go_sem, Try.results29])
  all_goals simp only [decide_eq_true_eq, decide_eq_false_iff_not] at *
  all_goals simp [f1, I, *]

end Go.Ai.Lp
