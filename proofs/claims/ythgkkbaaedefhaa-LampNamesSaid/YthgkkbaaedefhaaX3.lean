/- X3 -/
import Derived.Test.YthgkkbaaedefhaaAiWL
import Derived.Test.YthgkkbaaedefhaaLpT
set_option linter.unusedVariables false
set_option linter.unusedSimpArgs false
namespace Go.Ai.Lp
open Go Go.Proofs
set_option maxRecDepth 100000
set_option maxHeartbeats 4000000
set_option linter.unusedSimpArgs false
set_option linter.unusedVariables false

theorem within_ev (hb : HV) (a b c : Int) : Ev Try.prog T (.func 37 [.int .i64 a, .int .i64 b, .int .i64 c]) hb (.ret (.bool (decide (b ≤ a) && decide (a ≤ c)))) [] [] := by
  refine Ev_func (k := 15) tok F37 rfl rfl rfl no_ups ?_
  repeat' first
    | refine W_seq' ?_
    | refine W_reg tok [0, 1, 2, 6] (fun Q' hQ => ?_); simp (maxSteps := 10000000) (disch := omega) only [go_sem]; (try subst hQ)
    | refine W_cond' (fun Q' hQ => ?_); simp (maxSteps := 10000000) (disch := omega) only [go_sem]; (try subst hQ)
    | refine W_block' ?_
    | refine W_scope ?_
    | refine W_label ?_
    | refine W_ret ?_
    | refine W_skip ?_
    | refine W_exit ?_
    | simp only [thn_normal, thn_ret, thn_exit, thn_panic, blk_normal, blk_ret, blk_panic, blk_exit, wrq_normal, wrq_exit, wrq_ret, rgq_none, rgq_some, Nat.reduceEqDiff, ite_true, ite_false]
    | (refine wgd1_of (fun hg => ?_) (fun hg => ?_)) <;> simp (maxSteps := 10000000) (disch := omega) only [go_sem, hg] <;> (try subst hQ)
    | (refine wcnd_of (fun hg => ?_) (fun hg => ?_)) <;> (try subst hQ)
    | refine wout_append ?_; simp (maxSteps := 10000000) (disch := omega) only [go_sem]; (try subst hQ)
    | (refine Lv_pure (by simp) ?_; simp only [go_sem, Try.results37])
theorem in_ev (hb : HV) (a b c : Int) : Ev Try.prog T (.func 39 [.int .i64 a, .int .i64 b, .int .i64 c]) hb (.ret (.bool (decide (b ≤ a) && decide (a ≤ c)))) [] [] := by
  refine Ev_func (k := 15) tok F39 rfl rfl rfl no_ups ?_
  repeat' first
    | refine W_seq' ?_
    | refine W_reg tok [0, 1, 2, 6] (fun Q' hQ => ?_); simp (maxSteps := 10000000) (disch := omega) only [go_sem]; (try subst hQ)
    | refine W_cond' (fun Q' hQ => ?_); simp (maxSteps := 10000000) (disch := omega) only [go_sem]; (try subst hQ)
    | refine W_block' ?_
    | refine W_scope ?_
    | refine W_label ?_
    | refine W_ret ?_
    | refine W_skip ?_
    | refine W_exit ?_
    | simp only [thn_normal, thn_ret, thn_exit, thn_panic, blk_normal, blk_ret, blk_panic, blk_exit, wrq_normal, wrq_exit, wrq_ret, rgq_none, rgq_some, Nat.reduceEqDiff, ite_true, ite_false]
    | (refine wgd1_of (fun hg => ?_) (fun hg => ?_)) <;> simp (maxSteps := 10000000) (disch := omega) only [go_sem, hg] <;> (try subst hQ)
    | (refine wcnd_of (fun hg => ?_) (fun hg => ?_)) <;> (try subst hQ)
    | refine wout_append ?_; simp (maxSteps := 10000000) (disch := omega) only [go_sem]; (try subst hQ)
    | (refine Lv_pure (by simp) ?_; simp only [go_sem, Try.results39])
theorem isTime_ev (hb : HV) (a : Int) : Ev Try.prog T (.func 36 [.int .i64 a]) hb (.ret (.bool (decide (0 ≤ a) && decide (a ≤ 2880)))) [] [] := by
  refine Ev_func (k := 5) tok F36 rfl rfl rfl no_ups ?_
  repeat' first
    | refine W_seq' ?_
    | refine W_reg tok [0, 2] (fun Q' hQ => ?_); simp (maxSteps := 10000000) (disch := omega) only [go_sem]; (try subst hQ)
    | refine W_cond' (fun Q' hQ => ?_); simp (maxSteps := 10000000) (disch := omega) only [go_sem]; (try subst hQ)
    | refine W_block' ?_
    | refine W_scope ?_
    | refine W_label ?_
    | refine W_ret ?_
    | refine W_skip ?_
    | refine W_exit ?_
    | simp only [thn_normal, thn_ret, thn_exit, thn_panic, blk_normal, blk_ret, blk_panic, blk_exit, wrq_normal, wrq_exit, wrq_ret, rgq_none, rgq_some, Nat.reduceEqDiff, ite_true, ite_false]
    | refine wcl_of (within_ev _ _ _ _) ?_; simp (maxSteps := 10000000) (disch := omega) only [go_sem]; (try subst hQ)
    | (refine wgd1_of (fun hg => ?_) (fun hg => ?_)) <;> simp (maxSteps := 10000000) (disch := omega) only [go_sem, hg] <;> (try subst hQ)
    | (refine wcnd_of (fun hg => ?_) (fun hg => ?_)) <;> (try subst hQ)
    | refine wout_append ?_; simp (maxSteps := 10000000) (disch := omega) only [go_sem]; (try subst hQ)
    | (refine Lv_pure (by simp) ?_; simp only [go_sem, Try.results36])
theorem span_ev (hb : HV) (a b : Int) : Ev Try.prog T (.func 27 [.int .i64 a, .int .i64 b]) hb (.ret (.agg [.int .i64 a, .int .i64 b])) [] [] := by
  refine Ev_func (k := 8) tok F27 rfl rfl rfl no_ups ?_
  repeat' first
    | refine W_seq' ?_
    | refine W_reg tok [0, 1, 4] (fun Q' hQ => ?_); simp (maxSteps := 10000000) (disch := omega) only [go_sem]; (try subst hQ)
    | refine W_cond' (fun Q' hQ => ?_); simp (maxSteps := 10000000) (disch := omega) only [go_sem]; (try subst hQ)
    | refine W_block' ?_
    | refine W_scope ?_
    | refine W_label ?_
    | refine W_ret ?_
    | refine W_skip ?_
    | refine W_exit ?_
    | simp only [thn_normal, thn_ret, thn_exit, thn_panic, blk_normal, blk_ret, blk_panic, blk_exit, wrq_normal, wrq_exit, wrq_ret, rgq_none, rgq_some, Nat.reduceEqDiff, ite_true, ite_false]
    | (refine wgd1_of (fun hg => ?_) (fun hg => ?_)) <;> simp (maxSteps := 10000000) (disch := omega) only [go_sem, hg] <;> (try subst hQ)
    | (refine wcnd_of (fun hg => ?_) (fun hg => ?_)) <;> (try subst hQ)
    | refine wout_append ?_; simp (maxSteps := 10000000) (disch := omega) only [go_sem]; (try subst hQ)
    | (refine Lv_pure (by simp) ?_; simp only [go_sem, Try.results27])
theorem night_ev (hb : HV) (a b c d e : Int) : Ev Try.prog T (.func 28 [.agg [.int .i64 a, .int .i64 b, .int .i64 c, .int .i64 d, .int .i64 e]]) hb (.ret (.bool (decide (0 ≤ a) && decide (a ≤ b) && decide (b ≤ 2880) && (decide (0 ≤ c) && decide (c ≤ d)) && decide (d ≤ 2880) && (decide (0 ≤ e) && decide (e ≤ 2880))))) [] [] := by
  refine Ev_func (k := 30) tok F28 rfl rfl rfl no_ups ?_
  repeat' first
    | refine W_seq' ?_
    | refine W_reg tok [0, 1, 2] (fun Q' hQ => ?_); simp (maxSteps := 10000000) (disch := omega) only [go_sem]; (try subst hQ)
    | refine W_cond' (fun Q' hQ => ?_); simp (maxSteps := 10000000) (disch := omega) only [go_sem]; (try subst hQ)
    | refine W_block' ?_
    | refine W_scope ?_
    | refine W_label ?_
    | refine W_ret ?_
    | refine W_skip ?_
    | refine W_exit ?_
    | simp only [thn_normal, thn_ret, thn_exit, thn_panic, blk_normal, blk_ret, blk_panic, blk_exit, wrq_normal, wrq_exit, wrq_ret, rgq_none, rgq_some, Nat.reduceEqDiff, ite_true, ite_false]
    | refine wcl_of (in_ev _ _ _ _) ?_; simp (maxSteps := 10000000) (disch := omega) only [go_sem]; (try subst hQ)
    | (refine wgd1_of (fun hg => ?_) (fun hg => ?_)) <;> simp (maxSteps := 10000000) (disch := omega) only [go_sem, hg] <;> (try subst hQ)
    | (refine wcnd_of (fun hg => ?_) (fun hg => ?_)) <;> (try subst hQ)
    | refine wout_append ?_; simp (maxSteps := 10000000) (disch := omega) only [go_sem]; (try subst hQ)
    | (refine Lv_pure (by simp) ?_; simp only [go_sem, Try.results28])
  all_goals trace_state

/-- A new slice of such elements: its value, and its block. -/
def slv (hb : HV) (l : List (List AV)) : AV := match l with | [] => .nils | x :: r => .slice (hb.at 0) 0 (r.length + 1) (r.length + 1) false
def sln (w : Nat) (l : List (List AV)) : List AO := match l with | [] => [] | x :: r => [.cells true w (x :: r).flatten]
def spn (a b : Int) : List AV := [.int .i64 a, .int .i64 b]
def burnsL (a b c d e : Int) : List (List AV) := (if max e 1 ≤ min b d - max a c then (if a < max a c then [spn a (max a c)] else []) ++ (if min b d < b then [spn (min b d) b] else []) else if a < b then [spn a b] else [])

theorem burns_ok (hb : HV) (a b c d e : Int) (h1 : 0 ≤ a) (h2 : a ≤ b) (h3 : b ≤ 2880) (h4 : 0 ≤ c) (h5 : c ≤ d) (h6 : d ≤ 2880) (h7 : 0 ≤ e) (h8 : e ≤ 2880) : Ev Try.prog T (.func 14 [.agg [.int .i64 a, .int .i64 b, .int .i64 c, .int .i64 d, .int .i64 e]]) hb (.ret (.tup [slv hb (burnsL a b c d e), .int .i64 0])) [] (sln 2 (burnsL a b c d e)) := by
  have h9 : 0 ≤ b := by omega
  have h10 : 0 ≤ d := by omega
  refine Ev_func (k := 94) tok F14 rfl rfl rfl no_ups ?_
  repeat' first
    | refine W_seq' ?_
    | refine W_reg tok [0, 1, 2, 3, 4, 5, 7, 39, 65, 77, 78, 79, 80, 87] (fun Q' hQ => ?_); simp (maxSteps := 10000000) (disch := omega) only [go_sem, decide_eq_true h1, decide_eq_true h2, decide_eq_true h3, decide_eq_true h4, decide_eq_true h5, decide_eq_true h6, decide_eq_true h7, decide_eq_true h8, decide_eq_true h9, decide_eq_true h10]; (try subst hQ)
    | refine W_cond' (fun Q' hQ => ?_); simp (maxSteps := 10000000) (disch := omega) only [go_sem, decide_eq_true h1, decide_eq_true h2, decide_eq_true h3, decide_eq_true h4, decide_eq_true h5, decide_eq_true h6, decide_eq_true h7, decide_eq_true h8, decide_eq_true h9, decide_eq_true h10]; (try subst hQ)
    | refine W_block' ?_
    | refine W_scope ?_
    | refine W_label ?_
    | refine W_ret ?_
    | refine W_skip ?_
    | refine W_exit ?_
    | simp only [thn_normal, thn_ret, thn_exit, thn_panic, blk_normal, blk_ret, blk_panic, blk_exit, wrq_normal, wrq_exit, wrq_ret, rgq_none, rgq_some, Nat.reduceEqDiff, ite_true, ite_false]
    | refine wcl_of (within_ev _ _ _ _) ?_; simp (maxSteps := 10000000) (disch := omega) only [go_sem, decide_eq_true h1, decide_eq_true h2, decide_eq_true h3, decide_eq_true h4, decide_eq_true h5, decide_eq_true h6, decide_eq_true h7, decide_eq_true h8, decide_eq_true h9, decide_eq_true h10]; (try subst hQ)
    | refine wcl_of (isTime_ev _ _) ?_; simp (maxSteps := 10000000) (disch := omega) only [go_sem, decide_eq_true h1, decide_eq_true h2, decide_eq_true h3, decide_eq_true h4, decide_eq_true h5, decide_eq_true h6, decide_eq_true h7, decide_eq_true h8, decide_eq_true h9, decide_eq_true h10]; (try subst hQ)
    | (refine wgd1_of (fun hg => ?_) (fun hg => ?_)) <;> simp (maxSteps := 10000000) (disch := omega) only [go_sem, hg, decide_eq_true h1, decide_eq_true h2, decide_eq_true h3, decide_eq_true h4, decide_eq_true h5, decide_eq_true h6, decide_eq_true h7, decide_eq_true h8, decide_eq_true h9, decide_eq_true h10] <;> (try subst hQ)
    | (refine wcnd_of (fun hg => ?_) (fun hg => ?_)) <;> (try subst hQ)
    | refine wout_append ?_; simp (maxSteps := 10000000) (disch := omega) only [go_sem, decide_eq_true h1, decide_eq_true h2, decide_eq_true h3, decide_eq_true h4, decide_eq_true h5, decide_eq_true h6, decide_eq_true h7, decide_eq_true h8, decide_eq_true h9, decide_eq_true h10]; (try subst hQ)
    | refine W_unroll 3 ?_
    | refine Wrl_go ?_
  all_goals
    simp only [decide_eq_true_eq, decide_eq_false_iff_not] at *
    simp only [burnsL, *, if_true, if_false, ite_true, ite_false, List.cons_append, List.nil_append, List.append_nil, slv, sln, List.length_nil, List.length_cons, Nat.reduceAdd]
    first
      | (refine Lv_end (.inl rfl) [] ?_ rfl rfl ?_ no_ups <;> simp only [go_sem, Try.results14, List.flatten_cons, List.flatten_nil, spn] <;> done)
      | (refine Lv_end (.inl rfl) [3] ?_ rfl rfl ?_ no_ups <;> simp only [go_sem, Try.results14, List.flatten_cons, List.flatten_nil, spn] <;> done)
      | (refine Lv_end (.inl rfl) [4] ?_ rfl rfl ?_ no_ups <;> simp only [go_sem, Try.results14, List.flatten_cons, List.flatten_nil, spn] <;> done)
      | (refine Lv_end (.inl rfl) [5] ?_ rfl rfl ?_ no_ups <;> simp only [go_sem, Try.results14, List.flatten_cons, List.flatten_nil, spn] <;> done)
      | (refine Lv_end (.inl rfl) [6] ?_ rfl rfl ?_ no_ups <;> simp only [go_sem, Try.results14, List.flatten_cons, List.flatten_nil, spn] <;> done)
      | (refine Lv_end (.inl rfl) [7] ?_ rfl rfl ?_ no_ups <;> simp only [go_sem, Try.results14, List.flatten_cons, List.flatten_nil, spn] <;> done)
      | (refine Lv_end (.inl rfl) [8] ?_ rfl rfl ?_ no_ups <;> simp only [go_sem, Try.results14, List.flatten_cons, List.flatten_nil, spn] <;> done)
      | (refine Lv_end (.inl rfl) [9] ?_ rfl rfl ?_ no_ups <;> simp only [go_sem, Try.results14, List.flatten_cons, List.flatten_nil, spn] <;> done)
end Go.Ai.Lp
