/- LpA -/
import Derived.Test.YthgkkbaaedefhaaAiWK
import Derived.Test.YthgkkbaaedefhaaLpT
set_option linter.unusedVariables false
set_option linter.unusedSimpArgs false
namespace Go.Ai.Lp
open Go Go.Proofs
set_option maxRecDepth 1000000
set_option linter.unusedVariables false
def i64s (l : List Int) : List AV := l.map (AV.int .i64)
def st0 : List AV := [.int .i64 0, .int .i64 1, .int .i64 5, .int .i64 1, .int .i64 2, .int .i64 5, .int .i64 0, .int .i64 3, .int .i64 8, .int .i64 2, .int .i64 3, .int .i64 4]
def la0 : List AV := [.int .i64 1, .int .i64 10, .int .i64 20, .int .i64 2, .int .i64 10, .int .i64 22, .int .i64 3, .int .i64 10, .int .i64 18, .int .i64 0, .int .i64 0, .int .i64 30]
def os2 : List AO := [.cells true 3 st0, .cells true 3 la0]
def os3 : List AO := [.cells true 3 st0, .cells true 3 la0, .cells true 1 [.int .i64 0, .int .i64 1, .int .i64 3]]
def town (a b : Nat) : AV := .agg [.int .i64 4, .int .i64 5, .int .i64 1, .slice a 0 4 4 true, .slice b 0 4 4 true]
theorem walkS : see (acall T F 100 (.func 16 [town 0 1, .int .i64 1, .int .i64 3]) (hl os2)) (List.range os2.length) = some (.ret (.tup [.int .i64 9, .int .i64 0]), os2.map some) := by kernel_rfl
theorem followS : seeS (acall T F 100 (.func 18 [town 0 1, .slice 2 0 3 3 true]) (hl os3)) os3.length = some ((0, 3, 3, false), [.int .i64 3, .int .i64 0], true, some (.cells true 1 [.int .i64 10, .int .i64 16, .int .i64 27]), os3.map some) := by kernel_rfl
theorem orderS : seeS (acall T F 100 (.func 22 [town 0 1, .int .i64 11]) (hl os2)) os2.length = some ((0, 3, 3, false), [.int .i64 0], true, some (.cells true 1 [.int .i64 0, .int .i64 1, .int .i64 3]), os2.map some) := by kernel_rfl
theorem fewestS : seeS (acall T F 200 (.func 24 [town 0 1]) (hl os2)) os2.length = some ((0, 4, 4, false), [.int .i64 2, .int .i64 0], true, some (.cells true 1 [.int .i64 0, .int .i64 0, .int .i64 1, .int .i64 0]), os2.map some) := by kernel_rfl
end Go.Ai.Lp
