/- LpC -/
import Derived.Test.YthgkkbaaedefhaaAiWO
import Derived.Test.YthgkkbaaedefhaaLpA
import Derived.Test.YthgkkbaaedefhaaX3
set_option linter.unusedVariables false
set_option linter.unusedSimpArgs false
namespace Go.Ai.Lp
open Go Go.Proofs
set_option maxRecDepth 100000
set_option maxHeartbeats 4000000
set_option linter.unusedSimpArgs false
set_option linter.unusedVariables false

abbrev I (n : Int) : AV := .int .i64 n
theorem walkC (H : HV) {b c : Nat} (h1 : b < H.nx) (h2 : c < H.nx) (hn : b ≠ c) (g1 : H.get b = some (.cells true 3 st0)) (g2 : H.get c = some (.cells true 3 la0)) :
    Ev Try.prog T (.func 16 [.agg [I 4, I 5, I 1, .slice b 0 4 4 true, .slice c 0 4 4 true], I 1, I 3]) H (.ret (.tup [I 9, I 0])) [] [] :=
  Ev_run tok (lies2 rfl h1 h2 hn g1 g2 rfl rfl) rfl (by simp [bels0, AV.bel0, town]) walkS (fun _ => rfl)
theorem orderC (H : HV) {b c : Nat} (h1 : b < H.nx) (h2 : c < H.nx) (hn : b ≠ c) (g1 : H.get b = some (.cells true 3 st0)) (g2 : H.get c = some (.cells true 3 la0)) :
    Ev Try.prog T (.func 22 [.agg [I 4, I 5, I 1, .slice b 0 4 4 true, .slice c 0 4 4 true], I 11]) H (.ret (.tup [.slice (H.at 0) 0 3 3 false, I 0])) [] [.cells true 1 [I 0, I 1, I 3]] :=
  Ev_runS tok (lies2 rfl h1 h2 hn g1 g2 rfl rfl) rfl (by simp [bels0, AV.bel0, town]) orderS rfl rfl
theorem fewestC (H : HV) {b c : Nat} (h1 : b < H.nx) (h2 : c < H.nx) (hn : b ≠ c) (g1 : H.get b = some (.cells true 3 st0)) (g2 : H.get c = some (.cells true 3 la0)) :
    Ev Try.prog T (.func 24 [.agg [I 4, I 5, I 1, .slice b 0 4 4 true, .slice c 0 4 4 true]]) H (.ret (.tup [.slice (H.at 0) 0 4 4 false, I 2, I 0])) [] [.cells true 1 [I 0, I 0, I 1, I 0]] :=
  Ev_runS tok (lies2 rfl h1 h2 hn g1 g2 rfl rfl) rfl (by simp [bels0, AV.bel0, town]) fewestS rfl rfl
theorem followC (H : HV) {b c d : Nat} (h1 : b < H.nx) (h2 : c < H.nx) (h3 : d < H.nx) (n1 : b ≠ c) (n2 : b ≠ d) (n3 : c ≠ d) (g1 : H.get b = some (.cells true 3 st0)) (g2 : H.get c = some (.cells true 3 la0)) (g3 : H.get d = some (.cells true 1 [I 0, I 1, I 3])) :
    Ev Try.prog T (.func 18 [.agg [I 4, I 5, I 1, .slice b 0 4 4 true, .slice c 0 4 4 true], .slice d 0 3 3 true]) H (.ret (.tup [.slice (H.at 0) 0 3 3 false, I 3, I 0])) [] [.cells true 1 [I 10, I 16, I 27]] :=
  Ev_runS tok (lies3 rfl h1 h2 h3 n1 n2 n3 g1 g2 g3 rfl rfl rfl) rfl (by simp [bels0, AV.bel0, town]) followS rfl rfl
/-- Two lists of the same three numbers. -/
def li3 (a b c : Int) : List AO := [.cells true 1 [I a, I b, I c], .cells true 1 [I a, I b, I c]]
theorem intsA : see (acall T F 100 (.func 21 [.slice 0 0 3 3 false, .slice 1 0 3 3 true]) (hl (li3 10 16 27))) (List.range (li3 10 16 27).length) = some (.ret (.bool true), (li3 10 16 27).map some) := by kernel_rfl
theorem intsB : see (acall T F 100 (.func 21 [.slice 0 0 3 3 false, .slice 1 0 3 3 true]) (hl (li3 0 1 3))) (List.range (li3 0 1 3).length) = some (.ret (.bool true), (li3 0 1 3).map some) := by kernel_rfl
def li4 : List AO := [.cells true 1 [I 0, I 0, I 1, I 0], .cells true 1 [I 0, I 0, I 1, I 0]]
theorem intsD : see (acall T F 100 (.func 21 [.slice 0 0 4 4 false, .slice 1 0 4 4 true]) (hl li4)) (List.range li4.length) = some (.ret (.bool true), li4.map some) := by kernel_rfl
def lsp : List AO := [.cells true 2 [I 1000, I 1100, I 1400, I 1800], .cells true 2 [I 1000, I 1100, I 1400, I 1800]]
theorem spansA : see (acall T F 100 (.func 20 [.slice 0 0 2 2 false, .slice 1 0 2 2 true]) (hl lsp)) (List.range lsp.length) = some (.ret (.bool true), lsp.map some) := by kernel_rfl
theorem intsAC (H : HV) {b c : Nat} (h1 : b < H.nx) (h2 : c < H.nx) (hn : b ≠ c) (g1 : H.get b = some (.cells true 1 [I 10, I 16, I 27])) (g2 : H.get c = some (.cells true 1 [I 10, I 16, I 27])) :
    Ev Try.prog T (.func 21 [.slice b 0 3 3 false, .slice c 0 3 3 true]) H (.ret (.bool true)) [] [] :=
  Ev_run tok (lies2 rfl h1 h2 hn g1 g2 rfl rfl) rfl (by simp [bels0, AV.bel0]) intsA (fun _ => rfl)
theorem intsBC (H : HV) {b c : Nat} (h1 : b < H.nx) (h2 : c < H.nx) (hn : b ≠ c) (g1 : H.get b = some (.cells true 1 [I 0, I 1, I 3])) (g2 : H.get c = some (.cells true 1 [I 0, I 1, I 3])) :
    Ev Try.prog T (.func 21 [.slice b 0 3 3 false, .slice c 0 3 3 true]) H (.ret (.bool true)) [] [] :=
  Ev_run tok (lies2 rfl h1 h2 hn g1 g2 rfl rfl) rfl (by simp [bels0, AV.bel0]) intsB (fun _ => rfl)
theorem intsDC (H : HV) {b c : Nat} (h1 : b < H.nx) (h2 : c < H.nx) (hn : b ≠ c) (g1 : H.get b = some (.cells true 1 [I 0, I 0, I 1, I 0])) (g2 : H.get c = some (.cells true 1 [I 0, I 0, I 1, I 0])) :
    Ev Try.prog T (.func 21 [.slice b 0 4 4 false, .slice c 0 4 4 true]) H (.ret (.bool true)) [] [] :=
  Ev_run tok (lies2 rfl h1 h2 hn g1 g2 rfl rfl) rfl (by simp [bels0, AV.bel0]) intsD (fun _ => rfl)
theorem spansC (H : HV) {b c : Nat} (h1 : b < H.nx) (h2 : c < H.nx) (hn : b ≠ c) (g1 : H.get b = some (.cells true 2 [I 1000, I 1100, I 1400, I 1800])) (g2 : H.get c = some (.cells true 2 [I 1000, I 1100, I 1400, I 1800])) :
    Ev Try.prog T (.func 20 [.slice b 0 2 2 false, .slice c 0 2 2 true]) H (.ret (.bool true)) [] [] :=
  Ev_run tok (lies2 rfl h1 h2 hn g1 g2 rfl rfl) rfl (by simp [bels0, AV.bel0]) spansA (fun _ => rfl)
theorem burnsC (hb : HV) : Ev Try.prog T (.func 14 [.agg [I 1000, I 1800, I 1100, I 1400, I 60]]) hb (.ret (.tup [.slice (hb.at 0) 0 2 2 false, I 0])) [] [.cells true 2 [I 1000, I 1100, I 1400, I 1800]] :=
  burns_ok hb 1000 1800 1100 1400 60 (by omega) (by omega) (by omega) (by omega) (by omega) (by omega) (by omega) (by omega)
theorem sampleC (hb : HV) : Ev Try.prog T (.func 26 []) hb (.ret (.agg [I 4, I 5, I 1, .slice (hb.at 0) 0 4 4 true, .slice (hb.at 1) 0 4 4 true])) [] [.cells true 3 st0, .cells true 3 la0] := by
  refine Ev_func (k := 12) tok F26 rfl rfl rfl no_ups ?_
  repeat' first
    | refine W_seq' ?_
    | refine W_reg tok [0] (fun Q' hQ => ?_); simp (maxSteps := 10000000) (disch := omega) only [go_sem]; (try subst hQ)
    | refine W_cond' (fun Q' hQ => ?_); simp (maxSteps := 10000000) (disch := omega) only [go_sem]; (try subst hQ)
    | refine W_block' ?_
    | refine W_scope ?_
    | refine W_label ?_
    | refine W_ret ?_
    | refine W_skip ?_
    | refine W_exit ?_
    | simp only [thn_normal, thn_ret, thn_exit, thn_panic, blk_normal, blk_ret, blk_panic, blk_exit, wrq_normal, wrq_exit, wrq_ret, rgq_none, rgq_some, Nat.reduceEqDiff, ite_true, ite_false]
    | (refine wgd1_of (fun hg => ?_) (fun hg => ?_)) <;> simp (maxSteps := 10000000) (disch := omega) only [go_sem, hg] <;> (try subst hQ)
    | (refine wcnd_of (fun hg => ?_) (fun hg => ?_)) <;> (try subst hQ)
    | refine wout_append ?_; simp (maxSteps := 10000000) (disch := omega) only [go_sem]; (try subst hQ)
  first
    | (refine Lv_end (.inl rfl) [1, 2] ?_ rfl rfl ?_ no_ups <;> simp only [go_sem, Try.results26, List.flatten_cons, List.flatten_nil, st0, la0, I] <;> done)
theorem alive_ev (hb : HV) : Ev Try.prog T (.func 13 []) hb (.ret (.bool true)) [] [] := by
  refine Ev_func (k := 91) tok F13 rfl rfl rfl no_ups ?_
  repeat' first
    | refine W_seq' ?_
    | refine W_reg tok [0, 1, 2, 3, 4, 5, 6, 8, 9, 10, 11, 12, 13] (fun Q' hQ => ?_); simp (maxSteps := 10000000) (disch := omega) only [go_sem]; (try subst hQ)
    | refine W_cond' (fun Q' hQ => ?_); simp (maxSteps := 10000000) (disch := omega) only [go_sem]; (try subst hQ)
    | refine W_block' ?_
    | refine W_scope ?_
    | refine W_label ?_
    | refine W_ret ?_
    | refine W_skip ?_
    | refine W_exit ?_
    | simp only [thn_normal, thn_ret, thn_exit, thn_panic, blk_normal, blk_ret, blk_panic, blk_exit, wrq_normal, wrq_exit, wrq_ret, rgq_none, rgq_some, Nat.reduceEqDiff, ite_true, ite_false]
    | refine wcl_of (sampleC _) ?_; simp (maxSteps := 10000000) (disch := omega) only [go_sem]; (try subst hQ)
    | refine wcl_of (burnsC _) ?_; simp (maxSteps := 10000000) (disch := omega) only [go_sem]; (try subst hQ)
    | refine wcl_of (walkC _ (by exact at_lt _ _ (Nat.le_of_ble_eq_true rfl)) (by exact at_lt _ _ (Nat.le_of_ble_eq_true rfl)) (by exact at_ne _ (by omega)) (by exact at_get _ _ rfl) (by exact at_get _ _ rfl)) ?_; simp (maxSteps := 10000000) (disch := omega) only [go_sem]; (try subst hQ)
    | refine wcl_of (followC _ (by exact at_lt _ _ (Nat.le_of_ble_eq_true rfl)) (by exact at_lt _ _ (Nat.le_of_ble_eq_true rfl)) (by exact at_lt _ _ (Nat.le_of_ble_eq_true rfl)) (by exact at_ne _ (by omega)) (by exact at_ne _ (by omega)) (by exact at_ne _ (by omega)) (by exact at_get _ _ rfl) (by exact at_get _ _ rfl) (by exact at_get _ _ rfl)) ?_; simp (maxSteps := 10000000) (disch := omega) only [go_sem]; (try subst hQ)
    | refine wcl_of (orderC _ (by exact at_lt _ _ (Nat.le_of_ble_eq_true rfl)) (by exact at_lt _ _ (Nat.le_of_ble_eq_true rfl)) (by exact at_ne _ (by omega)) (by exact at_get _ _ rfl) (by exact at_get _ _ rfl)) ?_; simp (maxSteps := 10000000) (disch := omega) only [go_sem]; (try subst hQ)
    | refine wcl_of (fewestC _ (by exact at_lt _ _ (Nat.le_of_ble_eq_true rfl)) (by exact at_lt _ _ (Nat.le_of_ble_eq_true rfl)) (by exact at_ne _ (by omega)) (by exact at_get _ _ rfl) (by exact at_get _ _ rfl)) ?_; simp (maxSteps := 10000000) (disch := omega) only [go_sem]; (try subst hQ)
    | refine wcl_of (span_ev _ _ _) ?_; simp (maxSteps := 10000000) (disch := omega) only [go_sem]; (try subst hQ)
    | refine wcl_of (spansC _ (by exact at_lt _ _ (Nat.le_of_ble_eq_true rfl)) (by exact at_lt _ _ (Nat.le_of_ble_eq_true rfl)) (by exact at_ne _ (by omega)) (by exact at_get _ _ rfl) (by exact at_get _ _ rfl)) ?_; simp (maxSteps := 10000000) (disch := omega) only [go_sem]; (try subst hQ)
    | refine wcl_of (intsAC _ (by exact at_lt _ _ (Nat.le_of_ble_eq_true rfl)) (by exact at_lt _ _ (Nat.le_of_ble_eq_true rfl)) (by exact at_ne _ (by omega)) (by exact at_get _ _ rfl) (by exact at_get _ _ rfl)) ?_; simp (maxSteps := 10000000) (disch := omega) only [go_sem]; (try subst hQ)
    | refine wcl_of (intsBC _ (by exact at_lt _ _ (Nat.le_of_ble_eq_true rfl)) (by exact at_lt _ _ (Nat.le_of_ble_eq_true rfl)) (by exact at_ne _ (by omega)) (by exact at_get _ _ rfl) (by exact at_get _ _ rfl)) ?_; simp (maxSteps := 10000000) (disch := omega) only [go_sem]; (try subst hQ)
    | refine wcl_of (intsDC _ (by exact at_lt _ _ (Nat.le_of_ble_eq_true rfl)) (by exact at_lt _ _ (Nat.le_of_ble_eq_true rfl)) (by exact at_ne _ (by omega)) (by exact at_get _ _ rfl) (by exact at_get _ _ rfl)) ?_; simp (maxSteps := 10000000) (disch := omega) only [go_sem]; (try subst hQ)
    | (refine wgd1_of (fun hg => ?_) (fun hg => ?_)) <;> simp (maxSteps := 10000000) (disch := omega) only [go_sem, hg] <;> (try subst hQ)
    | (refine wcnd_of (fun hg => ?_) (fun hg => ?_)) <;> (try subst hQ)
    | refine wout_append ?_; simp (maxSteps := 10000000) (disch := omega) only [go_sem]; (try subst hQ)
    | (refine Lv_pure (by simp) ?_; simp only [go_sem, Try.results13])
  all_goals trace_state
end Go.Ai.Lp
