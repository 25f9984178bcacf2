/- LpEbn01 -/
import Derived.Test.YthgkkbaaedefhaaLpE0
set_option linter.unusedVariables false
set_option linter.unusedSimpArgs false
namespace Go.Ai.Lp
open Go Go.Proofs
set_option maxRecDepth 100000
set_option maxHeartbeats 4000000
set_option linter.unusedSimpArgs false
set_option linter.unusedVariables false

theorem main_bn01 (hb : HV) {a b c d e m k : Int} (h : okNight a b c d e) (m0 : 0 ≤ m) (m1 : m ≤ 65535) (k0 : 0 ≤ k) (k1 : k ≤ 255) (hy : max e 1 ≤ min b d - max a c) (hk : ¬ max (min 2880 (e + k)) 1 ≤ min b d - max a c) (p : ¬ a < max a c) (q : min b d < b) : Ev Try.prog T (.func 7 [nightV a b c d e, .int .u16 m, .int .u8 k]) hb (.ret (.bool true)) [] [] := by
  have h' := h
  obtain ⟨h1, h2, h3, h4, h5, h6, h7, h8⟩ := h'
  have bL : ∀ hb, Ev Try.prog T (.func 14 [nightV a b c d e]) hb (.ret (.tup [.slice (hb.at 0) 0 1 1 false, I 0])) [] [.cells true 2 [I (min b d), I (b)]] := fun hb => by
    have := burns_ok hb a b c d e h1 h2 h3 h4 h5 h6 h7 h8
    rw [show burnsL a b c d e = [spn (min b d) (b)] by simp only [burnsL, hy, p, q, if_true, if_false, ite_true, ite_false, List.nil_append, List.append_nil, List.cons_append]] at this
    exact this
  have bK : ∀ hb, Ev Try.prog T (.func 14 [nightV a b c d (min 2880 (e + k))]) hb (.ret (.tup [.slice (hb.at 0) 0 1 1 false, I 0])) [] [.cells true 2 [I (a), I (b)]] := fun hb => by
    have := burns_ok hb a b c d (min 2880 (e + k)) h1 h2 h3 h4 h5 h6 (by omega) (by omega)
    rw [show burnsL a b c d (min 2880 (e + k)) = [spn (a) (b)] by simp only [burnsL, hk, show a < b by omega, if_true, if_false, ite_true, ite_false, List.nil_append, List.append_nil, List.cons_append]] at this
    exact this
  have hc0 : decide ((b : Int) ≤ min b d) = false := decide_eq_false (by omega)
  have hc1 : decide (((b - min b d) : Int) ≤ (b - a)) = true := decide_eq_true (by omega)
  have hc2 : decide (e ≤ min b d - max a c) = true := decide_eq_true (by omega)
  have hc3 : decide (1 ≤ min b d - max a c) = true := decide_eq_true (by omega)
  refine Ev_func (k := 165) tok F7 rfl rfl rfl no_ups ?_
  repeat' first
    | refine W_seq' ?_
    | refine W_reg tok [0, 1, 2, 3, 6, 7, 8, 9, 10, 11, 12, 13, 14, 15, 16, 17, 18, 19, 20, 22, 29, 47, 52, 53, 54, 55, 78] (fun Q' hQ => ?_); simp (maxSteps := 10000000) (disch := omega) only [go_sem, hc0, hc1, hc2, hc3]; (try subst hQ)
    | refine W_regD tok [0, 1, 2, 3, 6, 7, 8, 9, 10, 11, 12, 13, 14, 15, 16, 17, 18, 19, 20, 22, 29, 47, 52, 53, 54, 55, 78] [0, 1, 0, 4, 15, 31, 63, 127, 255, 511, 1023, 511, 511, 4607, 14847, 31231, 63999, 131071, 262143, 524287] [[], [], [0, 1], [0, 1], [], [], [], [], [], [], [], [9, 10], [9, 10, 11], [9, 10, 11], [9, 10], [9, 10], [9, 10], [], [], []] (by decide +kernel) (by decide +kernel) (fun Q' hQ => ?_); simp (maxSteps := 10000000) (disch := omega) only [go_sem, hc0, hc1, hc2, hc3]; (try subst hQ)
    | refine W_cond' (fun Q' hQ => ?_); simp (maxSteps := 10000000) (disch := omega) only [go_sem, hc0, hc1, hc2, hc3]; (try subst hQ)
    | refine W_block' ?_
    | refine W_scope ?_
    | refine W_label ?_
    | refine W_ret ?_
    | refine W_skip ?_
    | refine W_exit ?_
    | simp only [thn_normal, thn_ret, thn_exit, thn_panic, blk_normal, blk_ret, blk_panic, blk_exit, wrq_normal, wrq_exit, wrq_ret, rgq_none, rgq_some, Nat.reduceEqDiff, ite_true, ite_false]
    | refine wcl_of (bL _) ?_; simp (maxSteps := 10000000) (disch := omega) only [go_sem, hc0, hc1, hc2, hc3]; (try subst hQ)
    | refine wcl_of (bK _) ?_; simp (maxSteps := 10000000) (disch := omega) only [go_sem, hc0, hc1, hc2, hc3]; (try subst hQ)
    | refine wcl_of (night_yes _ h) ?_; simp (maxSteps := 10000000) (disch := omega) only [go_sem, hc0, hc1, hc2, hc3]; (try subst hQ)
    | refine wcl_of (sum1 _ _ _ _ (by exact at_lt _ _ (Nat.le_of_ble_eq_true rfl)) (by exact at_get _ _ rfl) (by exact at_lt _ _ (Nat.le_of_ble_eq_true rfl)) (by exact at_get _ _ rfl) (by omega) (by omega) (by omega)) ?_; simp (maxSteps := 10000000) (disch := omega) only [go_sem, hc0, hc1, hc2, hc3]; (try subst hQ)
    | refine wcl_of (alive_ev _) ?_; simp (maxSteps := 10000000) (disch := omega) only [go_sem, hc0, hc1, hc2, hc3]; (try subst hQ)
    | (refine wgd1_of (fun hg => ?_) (fun hg => ?_)) <;> simp (maxSteps := 10000000) (disch := omega) only [go_sem, hg, hc0, hc1, hc2, hc3] <;> (try subst hQ)
    | (refine wcnd_of (fun hg => ?_) (fun hg => ?_)) <;> (try subst hQ)
    | refine wout_append ?_; simp (maxSteps := 10000000) (disch := omega) only [go_sem, hc0, hc1, hc2, hc3]; (try subst hQ)
    | refine W_unroll 3 ?_
    | refine Wrl_go ?_
  all_goals first
    | (refine Lv_end (.inl rfl) [] ?_ rfl rfl ?_ no_ups <;> simp only [go_sem, Try.results7] <;> done)
    | (exfalso; clear bL bK; generalize m.tmod 2881 = M at *; simp only [e0, e1, e2, e3, g1, g2, g3, ft, tf, ff, tt, decide_eq_true_eq, decide_eq_false_iff_not] at * <;> omega)

end Go.Ai.Lp
