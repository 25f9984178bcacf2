/- LpG -/
import Derived.Test.YthgkkbaaedefhaaLpC
import Derived.Test.YthgkkbaaedefhaaAiWN
set_option linter.unusedVariables false
set_option linter.unusedSimpArgs false
namespace Go.Ai.Lp
open Go Go.Proofs
set_option maxRecDepth 1000000
set_option maxHeartbeats 4000000
set_option linter.unusedSimpArgs false
set_option linter.unusedVariables false

def os3b : List AO := [.cells true 3 st0, .cells true 3 la0, .cells true 1 [I 0, I 2]]
def os3c : List AO := [.cells true 3 st0, .cells true 3 la0, .cells true 1 [I 3, I 0, I 1]]
theorem walkN : see (acall T F 100 (.func 16 [town 0 1, I 0, I 2]) (hl os2)) (List.range os2.length) = some (.ret (.tup [I 10, I 0]), os2.map some) := by kernel_rfl
theorem followN : see (acall T F 100 (.func 18 [town 0 1, .slice 2 0 2 2 true]) (hl os3b)) (List.range os3b.length) = some (.ret (.tup [.nils, I 1, I 7]), os3b.map some) := by kernel_rfl
theorem followM : seeS (acall T F 100 (.func 18 [town 0 1, .slice 2 0 3 3 true]) (hl os3c)) os3c.length = some ((0, 3, 3, false), [I 3, I 0], true, some (.cells true 1 [I 5, I 11, I 17]), os3c.map some) := by kernel_rfl
theorem orderN : see (acall T F 100 (.func 22 [town 0 1, I 5]) (hl os2)) (List.range os2.length) = some (.ret (.tup [.nils, I 4]), os2.map some) := by kernel_rfl
theorem intsN : see (acall T F 100 (.func 21 [.slice 0 0 3 3 false, .slice 1 0 3 3 true]) (hl (li3 5 11 17))) (List.range (li3 5 11 17).length) = some (.ret (.bool true), (li3 5 11 17).map some) := by kernel_rfl
def lsp1 (a b : Int) : List AO := [.cells true 2 [I a, I b], .cells true 2 [I a, I b]]
theorem spansN1 : see (acall T F 100 (.func 20 [.slice 0 0 1 1 false, .slice 1 0 1 1 true]) (hl (lsp1 1000 1800))) (List.range (lsp1 1000 1800).length) = some (.ret (.bool true), (lsp1 1000 1800).map some) := by kernel_rfl
theorem spansN2 : see (acall T F 100 (.func 20 [.slice 0 0 1 1 false, .slice 1 0 1 1 true]) (hl (lsp1 1100 1800))) (List.range (lsp1 1100 1800).length) = some (.ret (.bool true), (lsp1 1100 1800).map some) := by kernel_rfl
theorem spansN3 : see (acall T F 100 (.func 20 [.nils, .nils]) (hl [])) (List.range ([] : List AO).length) = some (.ret (.bool true), ([] : List AO).map some) := by kernel_rfl

theorem walkNC (H : HV) {b c : Nat} (h1 : b < H.nx) (h2 : c < H.nx) (hn : b ≠ c) (g1 : H.get b = some (.cells true 3 st0)) (g2 : H.get c = some (.cells true 3 la0)) : Ev Try.prog T (.func 16 [.agg [I 4, I 5, I 1, .slice b 0 4 4 true, .slice c 0 4 4 true], I 0, I 2]) H (.ret (.tup [I 10, I 0])) [] [] := Ev_run tok (lies2 rfl h1 h2 hn g1 g2 rfl rfl) rfl (by simp [bels0, AV.bel0, town]) walkN (fun _ => rfl)
theorem followNC (H : HV) {b c d : Nat} (h1 : b < H.nx) (h2 : c < H.nx) (h3 : d < H.nx) (n1 : b ≠ c) (n2 : b ≠ d) (n3 : c ≠ d) (g1 : H.get b = some (.cells true 3 st0)) (g2 : H.get c = some (.cells true 3 la0)) (g3 : H.get d = some (.cells true 1 [I 0, I 2])) : Ev Try.prog T (.func 18 [.agg [I 4, I 5, I 1, .slice b 0 4 4 true, .slice c 0 4 4 true], .slice d 0 2 2 true]) H (.ret (.tup [.nils, I 1, I 7])) [] [] := Ev_run tok (lies3 rfl h1 h2 h3 n1 n2 n3 g1 g2 g3 rfl rfl rfl) rfl (by simp [bels0, AV.bel0, town]) followN (fun _ => rfl)
theorem followMC (H : HV) {b c d : Nat} (h1 : b < H.nx) (h2 : c < H.nx) (h3 : d < H.nx) (n1 : b ≠ c) (n2 : b ≠ d) (n3 : c ≠ d) (g1 : H.get b = some (.cells true 3 st0)) (g2 : H.get c = some (.cells true 3 la0)) (g3 : H.get d = some (.cells true 1 [I 3, I 0, I 1])) : Ev Try.prog T (.func 18 [.agg [I 4, I 5, I 1, .slice b 0 4 4 true, .slice c 0 4 4 true], .slice d 0 3 3 true]) H (.ret (.tup [.slice (H.at 0) 0 3 3 false, I 3, I 0])) [] [.cells true 1 [I 5, I 11, I 17]] := Ev_runS tok (lies3 rfl h1 h2 h3 n1 n2 n3 g1 g2 g3 rfl rfl rfl) rfl (by simp [bels0, AV.bel0, town]) followM rfl rfl
theorem orderNC (H : HV) {b c : Nat} (h1 : b < H.nx) (h2 : c < H.nx) (hn : b ≠ c) (g1 : H.get b = some (.cells true 3 st0)) (g2 : H.get c = some (.cells true 3 la0)) : Ev Try.prog T (.func 22 [.agg [I 4, I 5, I 1, .slice b 0 4 4 true, .slice c 0 4 4 true], I 5]) H (.ret (.tup [.nils, I 4])) [] [] := Ev_run tok (lies2 rfl h1 h2 hn g1 g2 rfl rfl) rfl (by simp [bels0, AV.bel0, town]) orderN (fun _ => rfl)
theorem intsNC (H : HV) {b c : Nat} (h1 : b < H.nx) (h2 : c < H.nx) (hn : b ≠ c) (g1 : H.get b = some (.cells true 1 [I 5, I 11, I 17])) (g2 : H.get c = some (.cells true 1 [I 5, I 11, I 17])) : Ev Try.prog T (.func 21 [.slice b 0 3 3 false, .slice c 0 3 3 true]) H (.ret (.bool true)) [] [] := Ev_run tok (lies2 rfl h1 h2 hn g1 g2 rfl rfl) rfl (by simp [bels0, AV.bel0, town]) intsN (fun _ => rfl)
theorem spansN1C (H : HV) {b c : Nat} (h1 : b < H.nx) (h2 : c < H.nx) (hn : b ≠ c) (g1 : H.get b = some (.cells true 2 [I 1000, I 1800])) (g2 : H.get c = some (.cells true 2 [I 1000, I 1800])) : Ev Try.prog T (.func 20 [.slice b 0 1 1 false, .slice c 0 1 1 true]) H (.ret (.bool true)) [] [] := Ev_run tok (lies2 rfl h1 h2 hn g1 g2 rfl rfl) rfl (by simp [bels0, AV.bel0, town]) spansN1 (fun _ => rfl)
theorem spansN2C (H : HV) {b c : Nat} (h1 : b < H.nx) (h2 : c < H.nx) (hn : b ≠ c) (g1 : H.get b = some (.cells true 2 [I 1100, I 1800])) (g2 : H.get c = some (.cells true 2 [I 1100, I 1800])) : Ev Try.prog T (.func 20 [.slice b 0 1 1 false, .slice c 0 1 1 true]) H (.ret (.bool true)) [] [] := Ev_run tok (lies2 rfl h1 h2 hn g1 g2 rfl rfl) rfl (by simp [bels0, AV.bel0, town]) spansN2 (fun _ => rfl)
theorem spansN3C (H : HV) : Ev Try.prog T (.func 20 [.nils, .nils]) H (.ret (.bool true)) [] [] := Ev_run tok (lies0 rfl) rfl (by simp [bels0, AV.bel0]) spansN3 (fun _ => rfl)
theorem burnsN1 (hb : HV) : Ev Try.prog T (.func 14 [.agg [I 1000, I 1800, I 1100, I 1150, I 60]]) hb (.ret (.tup [.slice (hb.at 0) 0 1 1 false, I 0])) [] [.cells true 2 [I 1000, I 1800]] :=
  burns_ok hb 1000 1800 1100 1150 60 (by omega) (by omega) (by omega) (by omega) (by omega) (by omega) (by omega) (by omega)
theorem burnsN2 (hb : HV) : Ev Try.prog T (.func 14 [.agg [I 1000, I 1800, I 900, I 1100, I 60]]) hb (.ret (.tup [.slice (hb.at 0) 0 1 1 false, I 0])) [] [.cells true 2 [I 1100, I 1800]] :=
  burns_ok hb 1000 1800 900 1100 60 (by omega) (by omega) (by omega) (by omega) (by omega) (by omega) (by omega) (by omega)
theorem burnsN3 (hb : HV) : Ev Try.prog T (.func 14 [.agg [I 1000, I 1800, I 0, I 2000, I 60]]) hb (.ret (.tup [.nils, I 0])) [] [] :=
  burns_ok hb 1000 1800 0 2000 60 (by omega) (by omega) (by omega) (by omega) (by omega) (by omega) (by omega) (by omega)

theorem names_ev (hb : HV) : Ev Try.prog T (.func 6 []) hb (.ret (.bool true)) [] [] := by
  refine Ev_func (k := 115) tok F6 rfl rfl rfl no_ups ?_
  repeat' first
    | refine W_seq' ?_
    | refine W_reg tok [0, 1, 2, 4, 5, 6, 7, 8, 10, 11, 12, 13, 14, 16, 25, 26, 27, 28] (fun Q' hQ => ?_); simp (maxSteps := 10000000) (disch := omega) only [go_sem]; (try subst hQ)
    | refine W_cond' (fun Q' hQ => ?_); simp (maxSteps := 10000000) (disch := omega) only [go_sem]; (try subst hQ)
    | refine W_block' ?_
    | refine W_scope ?_
    | refine W_label ?_
    | refine W_ret ?_
    | refine W_skip ?_
    | refine W_exit ?_
    | simp only [thn_normal, thn_ret, thn_exit, thn_panic, blk_normal, blk_ret, blk_panic, blk_exit, wrq_normal, wrq_exit, wrq_ret, rgq_none, rgq_some, Nat.reduceEqDiff, ite_true, ite_false]
    | refine wcl_of (sampleC _) ?_; simp (maxSteps := 10000000) (disch := omega) only [go_sem]; (try subst hQ)
    | refine wcl_of (span_ev _ _ _) ?_; simp (maxSteps := 10000000) (disch := omega) only [go_sem]; (try subst hQ)
    | refine wcl_of (burnsN1 _) ?_; simp (maxSteps := 10000000) (disch := omega) only [go_sem]; (try subst hQ)
    | refine wcl_of (burnsN2 _) ?_; simp (maxSteps := 10000000) (disch := omega) only [go_sem]; (try subst hQ)
    | refine wcl_of (burnsN3 _) ?_; simp (maxSteps := 10000000) (disch := omega) only [go_sem]; (try subst hQ)
    | refine wcl_of (spansN1C _ (by exact at_lt _ _ (Nat.le_of_ble_eq_true rfl)) (by exact at_lt _ _ (Nat.le_of_ble_eq_true rfl)) (by exact at_ne _ (by omega)) (by exact at_get _ _ rfl) (by exact at_get _ _ rfl)) ?_; simp (maxSteps := 10000000) (disch := omega) only [go_sem]; (try subst hQ)
    | refine wcl_of (spansN2C _ (by exact at_lt _ _ (Nat.le_of_ble_eq_true rfl)) (by exact at_lt _ _ (Nat.le_of_ble_eq_true rfl)) (by exact at_ne _ (by omega)) (by exact at_get _ _ rfl) (by exact at_get _ _ rfl)) ?_; simp (maxSteps := 10000000) (disch := omega) only [go_sem]; (try subst hQ)
    | refine wcl_of (spansN3C _) ?_; simp (maxSteps := 10000000) (disch := omega) only [go_sem]; (try subst hQ)
    | refine wcl_of (walkNC _ (by exact at_lt _ _ (Nat.le_of_ble_eq_true rfl)) (by exact at_lt _ _ (Nat.le_of_ble_eq_true rfl)) (by exact at_ne _ (by omega)) (by exact at_get _ _ rfl) (by exact at_get _ _ rfl)) ?_; simp (maxSteps := 10000000) (disch := omega) only [go_sem]; (try subst hQ)
    | refine wcl_of (followNC _ (by exact at_lt _ _ (Nat.le_of_ble_eq_true rfl)) (by exact at_lt _ _ (Nat.le_of_ble_eq_true rfl)) (by exact at_lt _ _ (Nat.le_of_ble_eq_true rfl)) (by exact at_ne _ (by omega)) (by exact at_ne _ (by omega)) (by exact at_ne _ (by omega)) (by exact at_get _ _ rfl) (by exact at_get _ _ rfl) (by exact at_get _ _ rfl)) ?_; simp (maxSteps := 10000000) (disch := omega) only [go_sem]; (try subst hQ)
    | refine wcl_of (followMC _ (by exact at_lt _ _ (Nat.le_of_ble_eq_true rfl)) (by exact at_lt _ _ (Nat.le_of_ble_eq_true rfl)) (by exact at_lt _ _ (Nat.le_of_ble_eq_true rfl)) (by exact at_ne _ (by omega)) (by exact at_ne _ (by omega)) (by exact at_ne _ (by omega)) (by exact at_get _ _ rfl) (by exact at_get _ _ rfl) (by exact at_get _ _ rfl)) ?_; simp (maxSteps := 10000000) (disch := omega) only [go_sem]; (try subst hQ)
    | refine wcl_of (orderNC _ (by exact at_lt _ _ (Nat.le_of_ble_eq_true rfl)) (by exact at_lt _ _ (Nat.le_of_ble_eq_true rfl)) (by exact at_ne _ (by omega)) (by exact at_get _ _ rfl) (by exact at_get _ _ rfl)) ?_; simp (maxSteps := 10000000) (disch := omega) only [go_sem]; (try subst hQ)
    | refine wcl_of (intsNC _ (by exact at_lt _ _ (Nat.le_of_ble_eq_true rfl)) (by exact at_lt _ _ (Nat.le_of_ble_eq_true rfl)) (by exact at_ne _ (by omega)) (by exact at_get _ _ rfl) (by exact at_get _ _ rfl)) ?_; simp (maxSteps := 10000000) (disch := omega) only [go_sem]; (try subst hQ)
    | refine wcl_of (alive_ev _) ?_; simp (maxSteps := 10000000) (disch := omega) only [go_sem]; (try subst hQ)
    | (refine wgd1_of (fun hg => ?_) (fun hg => ?_)) <;> simp (maxSteps := 10000000) (disch := omega) only [go_sem, hg] <;> (try subst hQ)
    | (refine wcnd_of (fun hg => ?_) (fun hg => ?_)) <;> (try subst hQ)
    | refine wout_append ?_; simp (maxSteps := 10000000) (disch := omega) only [go_sem]; (try subst hQ)
    | refine W_unroll 4 ?_
    | refine Wrl_go ?_
    | (refine Lv_pure (by simp) ?_; simp only [go_sem, Try.results6])
theorem names_row (os : List AO) (sss : List (Bool × List CS)) (xs : List AV) (hs : shapes Try.prog Try.f6.params.toList = some sss) (hf : FitAs os sss xs) : Ev Try.prog T (.func 6 xs) (avw os) (.ret (.bool true)) [] [] := by
  have h0 : shapes Try.prog Try.f6.params.toList = some [] := by kernel_rfl
  rw [h0] at hs
  injection hs with hs
  subst hs
  obtain rfl := hf.nil_inv
  exact names_ev _
end Go.Ai.Lp
