/- LpF -/
import Derived.Test.YthgkkbaaedefhaaLpEn0
import Derived.Test.YthgkkbaaedefhaaLpEn1
import Derived.Test.YthgkkbaaedefhaaLpEbs00
import Derived.Test.YthgkkbaaedefhaaLpEbs01
import Derived.Test.YthgkkbaaedefhaaLpEbs10
import Derived.Test.YthgkkbaaedefhaaLpEbs11
import Derived.Test.YthgkkbaaedefhaaLpEbn00
import Derived.Test.YthgkkbaaedefhaaLpEbn01
import Derived.Test.YthgkkbaaedefhaaLpEbn10
import Derived.Test.YthgkkbaaedefhaaLpEbn11
set_option linter.unusedVariables false
set_option linter.unusedSimpArgs false
namespace Go.Ai.Lp
open Go Go.Proofs
set_option maxRecDepth 100000
set_option maxHeartbeats 4000000
set_option linter.unusedSimpArgs false
set_option linter.unusedVariables false

theorem main_ev (hb : HV) (a b c d e m k : Int) (m0 : 0 ≤ m) (m1 : m ≤ 65535) (k0 : 0 ≤ k) (k1 : k ≤ 255) : Ev Try.prog T (.func 7 [nightV a b c d e, .int .u16 m, .int .u8 k]) hb (.ret (.bool true)) [] [] := by
  by_cases h : okNight a b c d e
  case neg => exact main_no hb h
  by_cases hy : max e 1 ≤ min b d - max a c
  case neg =>
    by_cases ab : a < b
    · exact main_n1 hb h m0 m1 k0 k1 hy ab
    · exact main_n0 hb h m0 m1 k0 k1 hy ab
  by_cases hk : max (min 2880 (e + k)) 1 ≤ min b d - max a c <;> by_cases p : a < max a c <;> by_cases q : min b d < b
  · exact main_bs11 hb h m0 m1 k0 k1 hy hk p q
  · exact main_bs10 hb h m0 m1 k0 k1 hy hk p q
  · exact main_bs01 hb h m0 m1 k0 k1 hy hk p q
  · exact main_bs00 hb h m0 m1 k0 k1 hy hk p q
  · exact main_bn11 hb h m0 m1 k0 k1 hy hk p q
  · exact main_bn10 hb h m0 m1 k0 k1 hy hk p q
  · exact main_bn01 hb h m0 m1 k0 k1 hy hk p q
  · exact main_bn00 hb h m0 m1 k0 k1 hy hk p q
end Go.Ai.Lp
