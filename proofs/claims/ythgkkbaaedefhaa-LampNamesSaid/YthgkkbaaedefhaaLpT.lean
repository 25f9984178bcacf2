/- LpT -/
import Derived.Test.YthgkkbaaedefhaaAiTok
import Derived.Test.YthgkkbaaedefhaaAiWL
import Derived.Test.YthgkkbaaedefhaaProg
import Derived.KernelRfl
set_option linter.unusedVariables false
set_option linter.unusedSimpArgs false
namespace Go.Ai.Lp
open Go Go.Proofs
set_option maxRecDepth 100000

def names : List String := ["Len", "Less", "Swap", "Push", "Pop"]
noncomputable def ti1 : TI := ⟨.func, 1, 8, .nilf, [], none⟩
noncomputable def ti2 : TI := ⟨(.int .i64), 1, 8, (.int .i64 (0)), [], none⟩
noncomputable def ti3 : TI := ⟨(.int .i64), 1, 8, (.int .i64 (0)), [], none⟩
noncomputable def ti4 : TI := ⟨.bool, 1, 1, (.bool false), [], none⟩
noncomputable def ti5 : TI := ⟨(.int .u8), 1, 1, (.int .u8 (0)), [], none⟩
noncomputable def ti6 : TI := ⟨(.int .u8), 1, 1, (.int .u8 (0)), [], none⟩
noncomputable def ti7 : TI := ⟨(.struct [(2, 0), (3, 1), (4, 2), (6, 3)]), 4, 24, (.agg [(.int .i64 (0)), (.int .i64 (0)), (.bool false), (.int .u8 (0))]), [], (some [some .i64, some .i64, none, some .u8])⟩
noncomputable def ti8 : TI := ⟨(.struct [(2, 0), (3, 1), (4, 2), (6, 3)]), 4, 24, (.agg [(.int .i64 (0)), (.int .i64 (0)), (.bool false), (.int .u8 (0))]), [], (some [some .i64, some .i64, none, some .u8])⟩
noncomputable def ti12 : TI := ⟨(.int .u64), 1, 8, (.int .u64 (0)), [], none⟩
noncomputable def ti15 : TI := ⟨(.ptr 136), 1, 8, .nilp, [], none⟩
noncomputable def ti16 : TI := ⟨(.ptr 139), 1, 8, .nilp, [], none⟩
noncomputable def ti17 : TI := ⟨(.ptr 148), 1, 8, .nilp, [("Len", 82, none)], none⟩
noncomputable def ti18 : TI := ⟨(.struct [(17, 0)]), 1, 8, (.agg [.nilp]), [], none⟩
noncomputable def ti19 : TI := ⟨(.struct [(17, 0)]), 1, 8, (.agg [.nilp]), [], none⟩
noncomputable def ti20 : TI := ⟨(.iface false), 1, 16, .nili, [], none⟩
noncomputable def ti21 : TI := ⟨(.int .i32), 1, 4, (.int .i32 (0)), [], none⟩
noncomputable def ti22 : TI := ⟨(.struct [(3, 0), (3, 1), (3, 2), (3, 3), (3, 4)]), 5, 40, (.agg [(.int .i64 (0)), (.int .i64 (0)), (.int .i64 (0)), (.int .i64 (0)), (.int .i64 (0))]), [], (some [some .i64, some .i64, some .i64, some .i64, some .i64])⟩
noncomputable def ti23 : TI := ⟨(.struct [(3, 0), (3, 1), (3, 2), (3, 3), (3, 4)]), 5, 40, (.agg [(.int .i64 (0)), (.int .i64 (0)), (.int .i64 (0)), (.int .i64 (0)), (.int .i64 (0))]), [], (some [some .i64, some .i64, some .i64, some .i64, some .i64])⟩
noncomputable def ti24 : TI := ⟨(.slice 67), 1, 24, .nils, [], none⟩
noncomputable def ti25 : TI := ⟨(.slice 62), 1, 24, .nils, [], none⟩
noncomputable def ti26 : TI := ⟨(.struct [(3, 0), (3, 1), (3, 2), (24, 3), (25, 4)]), 5, 72, (.agg [(.int .i64 (0)), (.int .i64 (0)), (.int .i64 (0)), .nils, .nils]), [], none⟩
noncomputable def ti27 : TI := ⟨(.struct [(3, 0), (3, 1), (3, 2), (24, 3), (25, 4)]), 5, 72, (.agg [(.int .i64 (0)), (.int .i64 (0)), (.int .i64 (0)), .nils, .nils]), [], none⟩
noncomputable def ti28 : TI := ⟨(.slice 3), 1, 24, .nils, [], none⟩
noncomputable def ti29 : TI := ⟨.func, 1, 8, .nilf, [], none⟩
noncomputable def ti30 : TI := ⟨.func, 1, 8, .nilf, [], none⟩
noncomputable def ti31 : TI := ⟨(.slice 48), 1, 24, .nils, [], none⟩
noncomputable def ti32 : TI := ⟨(.int .i64), 1, 8, (.int .i64 (0)), [], none⟩
noncomputable def ti34 : TI := ⟨.func, 1, 8, .nilf, [], none⟩
noncomputable def ti36 : TI := ⟨.func, 1, 8, .nilf, [], none⟩
noncomputable def ti38 : TI := ⟨.func, 1, 8, .nilf, [], none⟩
noncomputable def ti39 : TI := ⟨.func, 1, 8, .nilf, [], none⟩
noncomputable def ti40 : TI := ⟨.func, 1, 8, .nilf, [], none⟩
noncomputable def ti41 : TI := ⟨.func, 1, 8, .nilf, [], none⟩
noncomputable def ti43 : TI := ⟨.func, 1, 8, .nilf, [], none⟩
noncomputable def ti44 : TI := ⟨.func, 1, 8, .nilf, [], none⟩
noncomputable def ti45 : TI := ⟨.func, 1, 8, .nilf, [], none⟩
noncomputable def ti46 : TI := ⟨.func, 1, 8, .nilf, [], none⟩
noncomputable def ti47 : TI := ⟨(.struct [(3, 0), (3, 1)]), 2, 16, (.agg [(.int .i64 (0)), (.int .i64 (0))]), [], (some [some .i64, some .i64])⟩
noncomputable def ti48 : TI := ⟨(.struct [(3, 0), (3, 1)]), 2, 16, (.agg [(.int .i64 (0)), (.int .i64 (0))]), [], (some [some .i64, some .i64])⟩
noncomputable def ti49 : TI := ⟨.func, 1, 8, .nilf, [], none⟩
noncomputable def ti50 : TI := ⟨(.struct [(3, 0), (3, 1), (31, 2)]), 3, 40, (.agg [(.int .i64 (0)), (.int .i64 (0)), .nils]), [], none⟩
noncomputable def ti51 : TI := ⟨(.slice 50), 1, 24, .nils, [], none⟩
noncomputable def ti52 : TI := ⟨(.int .u16), 1, 2, (.int .u16 (0)), [], none⟩
noncomputable def ti53 : TI := ⟨.func, 1, 8, .nilf, [], none⟩
noncomputable def ti54 : TI := ⟨.func, 1, 8, .nilf, [], none⟩
noncomputable def ti56 : TI := ⟨.func, 1, 8, .nilf, [], none⟩
noncomputable def ti57 : TI := ⟨(.slice 5), 1, 24, .nils, [], none⟩
noncomputable def ti58 : TI := ⟨.func, 1, 8, .nilf, [], none⟩
noncomputable def ti59 : TI := ⟨.func, 1, 8, .nilf, [], none⟩
noncomputable def ti60 : TI := ⟨.func, 1, 8, .nilf, [], none⟩
noncomputable def ti61 : TI := ⟨(.struct [(3, 0), (3, 1), (3, 2)]), 3, 24, (.agg [(.int .i64 (0)), (.int .i64 (0)), (.int .i64 (0))]), [], (some [some .i64, some .i64, some .i64])⟩
noncomputable def ti62 : TI := ⟨(.struct [(3, 0), (3, 1), (3, 2)]), 3, 24, (.agg [(.int .i64 (0)), (.int .i64 (0)), (.int .i64 (0))]), [], (some [some .i64, some .i64, some .i64])⟩
noncomputable def ti63 : TI := ⟨.func, 1, 8, .nilf, [], none⟩
noncomputable def ti64 : TI := ⟨.func, 1, 8, .nilf, [], none⟩
noncomputable def ti65 : TI := ⟨.func, 1, 8, .nilf, [], none⟩
noncomputable def ti66 : TI := ⟨(.struct [(3, 0), (3, 1), (3, 2)]), 3, 24, (.agg [(.int .i64 (0)), (.int .i64 (0)), (.int .i64 (0))]), [], (some [some .i64, some .i64, some .i64])⟩
noncomputable def ti67 : TI := ⟨(.struct [(3, 0), (3, 1), (3, 2)]), 3, 24, (.agg [(.int .i64 (0)), (.int .i64 (0)), (.int .i64 (0))]), [], (some [some .i64, some .i64, some .i64])⟩
noncomputable def ti68 : TI := ⟨(.ptr 62), 1, 8, .nilp, [], none⟩
noncomputable def ti69 : TI := ⟨(.ptr 67), 1, 8, .nilp, [], none⟩
noncomputable def ti70 : TI := ⟨(.slice 27), 1, 24, .nils, [], none⟩
noncomputable def ti71 : TI := ⟨.func, 1, 8, .nilf, [], none⟩
noncomputable def ti72 : TI := ⟨.func, 1, 8, .nilf, [], none⟩
noncomputable def ti73 : TI := ⟨.func, 1, 8, .nilf, [], none⟩
noncomputable def ti74 : TI := ⟨.func, 1, 8, .nilf, [], none⟩
noncomputable def ti75 : TI := ⟨(.ptr 80), 1, 8, .nilp, [], none⟩
noncomputable def ti76 : TI := ⟨.func, 1, 8, .nilf, [], none⟩
noncomputable def ti78 : TI := ⟨(.map 82 3), 1, 8, .nilm, [], none⟩
noncomputable def ti79 : TI := ⟨(.struct [(27, 0), (78, 5)]), 6, 80, (.agg [(.int .i64 (0)), (.int .i64 (0)), (.int .i64 (0)), .nils, .nils, .nilm]), [], none⟩
noncomputable def ti80 : TI := ⟨(.struct [(27, 0), (78, 5)]), 6, 80, (.agg [(.int .i64 (0)), (.int .i64 (0)), (.int .i64 (0)), .nils, .nils, .nilm]), [], none⟩
noncomputable def ti81 : TI := ⟨(.struct [(3, 0), (3, 1)]), 2, 16, (.agg [(.int .i64 (0)), (.int .i64 (0))]), [], (some [some .i64, some .i64])⟩
noncomputable def ti82 : TI := ⟨(.struct [(3, 0), (3, 1)]), 2, 16, (.agg [(.int .i64 (0)), (.int .i64 (0))]), [], (some [some .i64, some .i64])⟩
noncomputable def ti83 : TI := ⟨.func, 1, 8, .nilf, [], none⟩
noncomputable def ti84 : TI := ⟨(.struct [(3, 0), (3, 1)]), 2, 16, (.agg [(.int .i64 (0)), (.int .i64 (0))]), [], (some [some .i64, some .i64])⟩
noncomputable def ti85 : TI := ⟨(.struct [(3, 0), (3, 1)]), 2, 16, (.agg [(.int .i64 (0)), (.int .i64 (0))]), [], (some [some .i64, some .i64])⟩
noncomputable def ti86 : TI := ⟨(.int .i64), 1, 8, (.int .i64 (0)), [], none⟩
noncomputable def ti88 : TI := ⟨.func, 1, 8, .nilf, [], none⟩
noncomputable def ti89 : TI := ⟨.func, 1, 8, .nilf, [], none⟩
noncomputable def ti91 : TI := ⟨.func, 1, 8, .nilf, [], none⟩
noncomputable def ti92 : TI := ⟨.func, 1, 8, .nilf, [], none⟩
noncomputable def ti93 : TI := ⟨.func, 1, 8, .nilf, [], none⟩
noncomputable def ti94 : TI := ⟨(.ptr 96), 1, 8, .nilp, [], none⟩
noncomputable def ti95 : TI := ⟨(.array 256 5), 256, 256, (.agg [(.int .u8 (0)), (.int .u8 (0)), (.int .u8 (0)), (.int .u8 (0)), (.int .u8 (0)), (.int .u8 (0)), (.int .u8 (0)), (.int .u8 (0)), (.int .u8 (0)), (.int .u8 (0)), (.int .u8 (0)), (.int .u8 (0)), (.int .u8 (0)), (.int .u8 (0)), (.int .u8 (0)), (.int .u8 (0)), (.int .u8 (0)), (.int .u8 (0)), (.int .u8 (0)), (.int .u8 (0)), (.int .u8 (0)), (.int .u8 (0)), (.int .u8 (0)), (.int .u8 (0)), (.int .u8 (0)), (.int .u8 (0)), (.int .u8 (0)), (.int .u8 (0)), (.int .u8 (0)), (.int .u8 (0)), (.int .u8 (0)), (.int .u8 (0)), (.int .u8 (0)), (.int .u8 (0)), (.int .u8 (0)), (.int .u8 (0)), (.int .u8 (0)), (.int .u8 (0)), (.int .u8 (0)), (.int .u8 (0)), (.int .u8 (0)), (.int .u8 (0)), (.int .u8 (0)), (.int .u8 (0)), (.int .u8 (0)), (.int .u8 (0)), (.int .u8 (0)), (.int .u8 (0)), (.int .u8 (0)), (.int .u8 (0)), (.int .u8 (0)), (.int .u8 (0)), (.int .u8 (0)), (.int .u8 (0)), (.int .u8 (0)), (.int .u8 (0)), (.int .u8 (0)), (.int .u8 (0)), (.int .u8 (0)), (.int .u8 (0)), (.int .u8 (0)), (.int .u8 (0)), (.int .u8 (0)), (.int .u8 (0)), (.int .u8 (0)), (.int .u8 (0)), (.int .u8 (0)), (.int .u8 (0)), (.int .u8 (0)), (.int .u8 (0)), (.int .u8 (0)), (.int .u8 (0)), (.int .u8 (0)), (.int .u8 (0)), (.int .u8 (0)), (.int .u8 (0)), (.int .u8 (0)), (.int .u8 (0)), (.int .u8 (0)), (.int .u8 (0)), (.int .u8 (0)), (.int .u8 (0)), (.int .u8 (0)), (.int .u8 (0)), (.int .u8 (0)), (.int .u8 (0)), (.int .u8 (0)), (.int .u8 (0)), (.int .u8 (0)), (.int .u8 (0)), (.int .u8 (0)), (.int .u8 (0)), (.int .u8 (0)), (.int .u8 (0)), (.int .u8 (0)), (.int .u8 (0)), (.int .u8 (0)), (.int .u8 (0)), (.int .u8 (0)), (.int .u8 (0)), (.int .u8 (0)), (.int .u8 (0)), (.int .u8 (0)), (.int .u8 (0)), (.int .u8 (0)), (.int .u8 (0)), (.int .u8 (0)), (.int .u8 (0)), (.int .u8 (0)), (.int .u8 (0)), (.int .u8 (0)), (.int .u8 (0)), (.int .u8 (0)), (.int .u8 (0)), (.int .u8 (0)), (.int .u8 (0)), (.int .u8 (0)), (.int .u8 (0)), (.int .u8 (0)), (.int .u8 (0)), (.int .u8 (0)), (.int .u8 (0)), (.int .u8 (0)), (.int .u8 (0)), (.int .u8 (0)), (.int .u8 (0)), (.int .u8 (0)), (.int .u8 (0)), (.int .u8 (0)), (.int .u8 (0)), (.int .u8 (0)), (.int .u8 (0)), (.int .u8 (0)), (.int .u8 (0)), (.int .u8 (0)), (.int .u8 (0)), (.int .u8 (0)), (.int .u8 (0)), (.int .u8 (0)), (.int .u8 (0)), (.int .u8 (0)), (.int .u8 (0)), (.int .u8 (0)), (.int .u8 (0)), (.int .u8 (0)), (.int .u8 (0)), (.int .u8 (0)), (.int .u8 (0)), (.int .u8 (0)), (.int .u8 (0)), (.int .u8 (0)), (.int .u8 (0)), (.int .u8 (0)), (.int .u8 (0)), (.int .u8 (0)), (.int .u8 (0)), (.int .u8 (0)), (.int .u8 (0)), (.int .u8 (0)), (.int .u8 (0)), (.int .u8 (0)), (.int .u8 (0)), (.int .u8 (0)), (.int .u8 (0)), (.int .u8 (0)), (.int .u8 (0)), (.int .u8 (0)), (.int .u8 (0)), (.int .u8 (0)), (.int .u8 (0)), (.int .u8 (0)), (.int .u8 (0)), (.int .u8 (0)), (.int .u8 (0)), (.int .u8 (0)), (.int .u8 (0)), (.int .u8 (0)), (.int .u8 (0)), (.int .u8 (0)), (.int .u8 (0)), (.int .u8 (0)), (.int .u8 (0)), (.int .u8 (0)), (.int .u8 (0)), (.int .u8 (0)), (.int .u8 (0)), (.int .u8 (0)), (.int .u8 (0)), (.int .u8 (0)), (.int .u8 (0)), (.int .u8 (0)), (.int .u8 (0)), (.int .u8 (0)), (.int .u8 (0)), (.int .u8 (0)), (.int .u8 (0)), (.int .u8 (0)), (.int .u8 (0)), (.int .u8 (0)), (.int .u8 (0)), (.int .u8 (0)), (.int .u8 (0)), (.int .u8 (0)), (.int .u8 (0)), (.int .u8 (0)), (.int .u8 (0)), (.int .u8 (0)), (.int .u8 (0)), (.int .u8 (0)), (.int .u8 (0)), (.int .u8 (0)), (.int .u8 (0)), (.int .u8 (0)), (.int .u8 (0)), (.int .u8 (0)), (.int .u8 (0)), (.int .u8 (0)), (.int .u8 (0)), (.int .u8 (0)), (.int .u8 (0)), (.int .u8 (0)), (.int .u8 (0)), (.int .u8 (0)), (.int .u8 (0)), (.int .u8 (0)), (.int .u8 (0)), (.int .u8 (0)), (.int .u8 (0)), (.int .u8 (0)), (.int .u8 (0)), (.int .u8 (0)), (.int .u8 (0)), (.int .u8 (0)), (.int .u8 (0)), (.int .u8 (0)), (.int .u8 (0)), (.int .u8 (0)), (.int .u8 (0)), (.int .u8 (0)), (.int .u8 (0)), (.int .u8 (0)), (.int .u8 (0)), (.int .u8 (0)), (.int .u8 (0)), (.int .u8 (0)), (.int .u8 (0)), (.int .u8 (0)), (.int .u8 (0)), (.int .u8 (0)), (.int .u8 (0)), (.int .u8 (0)), (.int .u8 (0)), (.int .u8 (0)), (.int .u8 (0)), (.int .u8 (0)), (.int .u8 (0))]), [], (some [some .u8, some .u8, some .u8, some .u8, some .u8, some .u8, some .u8, some .u8, some .u8, some .u8, some .u8, some .u8, some .u8, some .u8, some .u8, some .u8, some .u8, some .u8, some .u8, some .u8, some .u8, some .u8, some .u8, some .u8, some .u8, some .u8, some .u8, some .u8, some .u8, some .u8, some .u8, some .u8, some .u8, some .u8, some .u8, some .u8, some .u8, some .u8, some .u8, some .u8, some .u8, some .u8, some .u8, some .u8, some .u8, some .u8, some .u8, some .u8, some .u8, some .u8, some .u8, some .u8, some .u8, some .u8, some .u8, some .u8, some .u8, some .u8, some .u8, some .u8, some .u8, some .u8, some .u8, some .u8, some .u8, some .u8, some .u8, some .u8, some .u8, some .u8, some .u8, some .u8, some .u8, some .u8, some .u8, some .u8, some .u8, some .u8, some .u8, some .u8, some .u8, some .u8, some .u8, some .u8, some .u8, some .u8, some .u8, some .u8, some .u8, some .u8, some .u8, some .u8, some .u8, some .u8, some .u8, some .u8, some .u8, some .u8, some .u8, some .u8, some .u8, some .u8, some .u8, some .u8, some .u8, some .u8, some .u8, some .u8, some .u8, some .u8, some .u8, some .u8, some .u8, some .u8, some .u8, some .u8, some .u8, some .u8, some .u8, some .u8, some .u8, some .u8, some .u8, some .u8, some .u8, some .u8, some .u8, some .u8, some .u8, some .u8, some .u8, some .u8, some .u8, some .u8, some .u8, some .u8, some .u8, some .u8, some .u8, some .u8, some .u8, some .u8, some .u8, some .u8, some .u8, some .u8, some .u8, some .u8, some .u8, some .u8, some .u8, some .u8, some .u8, some .u8, some .u8, some .u8, some .u8, some .u8, some .u8, some .u8, some .u8, some .u8, some .u8, some .u8, some .u8, some .u8, some .u8, some .u8, some .u8, some .u8, some .u8, some .u8, some .u8, some .u8, some .u8, some .u8, some .u8, some .u8, some .u8, some .u8, some .u8, some .u8, some .u8, some .u8, some .u8, some .u8, some .u8, some .u8, some .u8, some .u8, some .u8, some .u8, some .u8, some .u8, some .u8, some .u8, some .u8, some .u8, some .u8, some .u8, some .u8, some .u8, some .u8, some .u8, some .u8, some .u8, some .u8, some .u8, some .u8, some .u8, some .u8, some .u8, some .u8, some .u8, some .u8, some .u8, some .u8, some .u8, some .u8, some .u8, some .u8, some .u8, some .u8, some .u8, some .u8, some .u8, some .u8, some .u8, some .u8, some .u8, some .u8, some .u8, some .u8, some .u8, some .u8, some .u8, some .u8, some .u8, some .u8, some .u8, some .u8, some .u8, some .u8, some .u8, some .u8, some .u8, some .u8, some .u8, some .u8, some .u8, some .u8, some .u8, some .u8, some .u8, some .u8, some .u8])⟩
noncomputable def ti96 : TI := ⟨(.array 256 5), 256, 256, (.agg [(.int .u8 (0)), (.int .u8 (0)), (.int .u8 (0)), (.int .u8 (0)), (.int .u8 (0)), (.int .u8 (0)), (.int .u8 (0)), (.int .u8 (0)), (.int .u8 (0)), (.int .u8 (0)), (.int .u8 (0)), (.int .u8 (0)), (.int .u8 (0)), (.int .u8 (0)), (.int .u8 (0)), (.int .u8 (0)), (.int .u8 (0)), (.int .u8 (0)), (.int .u8 (0)), (.int .u8 (0)), (.int .u8 (0)), (.int .u8 (0)), (.int .u8 (0)), (.int .u8 (0)), (.int .u8 (0)), (.int .u8 (0)), (.int .u8 (0)), (.int .u8 (0)), (.int .u8 (0)), (.int .u8 (0)), (.int .u8 (0)), (.int .u8 (0)), (.int .u8 (0)), (.int .u8 (0)), (.int .u8 (0)), (.int .u8 (0)), (.int .u8 (0)), (.int .u8 (0)), (.int .u8 (0)), (.int .u8 (0)), (.int .u8 (0)), (.int .u8 (0)), (.int .u8 (0)), (.int .u8 (0)), (.int .u8 (0)), (.int .u8 (0)), (.int .u8 (0)), (.int .u8 (0)), (.int .u8 (0)), (.int .u8 (0)), (.int .u8 (0)), (.int .u8 (0)), (.int .u8 (0)), (.int .u8 (0)), (.int .u8 (0)), (.int .u8 (0)), (.int .u8 (0)), (.int .u8 (0)), (.int .u8 (0)), (.int .u8 (0)), (.int .u8 (0)), (.int .u8 (0)), (.int .u8 (0)), (.int .u8 (0)), (.int .u8 (0)), (.int .u8 (0)), (.int .u8 (0)), (.int .u8 (0)), (.int .u8 (0)), (.int .u8 (0)), (.int .u8 (0)), (.int .u8 (0)), (.int .u8 (0)), (.int .u8 (0)), (.int .u8 (0)), (.int .u8 (0)), (.int .u8 (0)), (.int .u8 (0)), (.int .u8 (0)), (.int .u8 (0)), (.int .u8 (0)), (.int .u8 (0)), (.int .u8 (0)), (.int .u8 (0)), (.int .u8 (0)), (.int .u8 (0)), (.int .u8 (0)), (.int .u8 (0)), (.int .u8 (0)), (.int .u8 (0)), (.int .u8 (0)), (.int .u8 (0)), (.int .u8 (0)), (.int .u8 (0)), (.int .u8 (0)), (.int .u8 (0)), (.int .u8 (0)), (.int .u8 (0)), (.int .u8 (0)), (.int .u8 (0)), (.int .u8 (0)), (.int .u8 (0)), (.int .u8 (0)), (.int .u8 (0)), (.int .u8 (0)), (.int .u8 (0)), (.int .u8 (0)), (.int .u8 (0)), (.int .u8 (0)), (.int .u8 (0)), (.int .u8 (0)), (.int .u8 (0)), (.int .u8 (0)), (.int .u8 (0)), (.int .u8 (0)), (.int .u8 (0)), (.int .u8 (0)), (.int .u8 (0)), (.int .u8 (0)), (.int .u8 (0)), (.int .u8 (0)), (.int .u8 (0)), (.int .u8 (0)), (.int .u8 (0)), (.int .u8 (0)), (.int .u8 (0)), (.int .u8 (0)), (.int .u8 (0)), (.int .u8 (0)), (.int .u8 (0)), (.int .u8 (0)), (.int .u8 (0)), (.int .u8 (0)), (.int .u8 (0)), (.int .u8 (0)), (.int .u8 (0)), (.int .u8 (0)), (.int .u8 (0)), (.int .u8 (0)), (.int .u8 (0)), (.int .u8 (0)), (.int .u8 (0)), (.int .u8 (0)), (.int .u8 (0)), (.int .u8 (0)), (.int .u8 (0)), (.int .u8 (0)), (.int .u8 (0)), (.int .u8 (0)), (.int .u8 (0)), (.int .u8 (0)), (.int .u8 (0)), (.int .u8 (0)), (.int .u8 (0)), (.int .u8 (0)), (.int .u8 (0)), (.int .u8 (0)), (.int .u8 (0)), (.int .u8 (0)), (.int .u8 (0)), (.int .u8 (0)), (.int .u8 (0)), (.int .u8 (0)), (.int .u8 (0)), (.int .u8 (0)), (.int .u8 (0)), (.int .u8 (0)), (.int .u8 (0)), (.int .u8 (0)), (.int .u8 (0)), (.int .u8 (0)), (.int .u8 (0)), (.int .u8 (0)), (.int .u8 (0)), (.int .u8 (0)), (.int .u8 (0)), (.int .u8 (0)), (.int .u8 (0)), (.int .u8 (0)), (.int .u8 (0)), (.int .u8 (0)), (.int .u8 (0)), (.int .u8 (0)), (.int .u8 (0)), (.int .u8 (0)), (.int .u8 (0)), (.int .u8 (0)), (.int .u8 (0)), (.int .u8 (0)), (.int .u8 (0)), (.int .u8 (0)), (.int .u8 (0)), (.int .u8 (0)), (.int .u8 (0)), (.int .u8 (0)), (.int .u8 (0)), (.int .u8 (0)), (.int .u8 (0)), (.int .u8 (0)), (.int .u8 (0)), (.int .u8 (0)), (.int .u8 (0)), (.int .u8 (0)), (.int .u8 (0)), (.int .u8 (0)), (.int .u8 (0)), (.int .u8 (0)), (.int .u8 (0)), (.int .u8 (0)), (.int .u8 (0)), (.int .u8 (0)), (.int .u8 (0)), (.int .u8 (0)), (.int .u8 (0)), (.int .u8 (0)), (.int .u8 (0)), (.int .u8 (0)), (.int .u8 (0)), (.int .u8 (0)), (.int .u8 (0)), (.int .u8 (0)), (.int .u8 (0)), (.int .u8 (0)), (.int .u8 (0)), (.int .u8 (0)), (.int .u8 (0)), (.int .u8 (0)), (.int .u8 (0)), (.int .u8 (0)), (.int .u8 (0)), (.int .u8 (0)), (.int .u8 (0)), (.int .u8 (0)), (.int .u8 (0)), (.int .u8 (0)), (.int .u8 (0)), (.int .u8 (0)), (.int .u8 (0)), (.int .u8 (0)), (.int .u8 (0)), (.int .u8 (0)), (.int .u8 (0)), (.int .u8 (0)), (.int .u8 (0)), (.int .u8 (0)), (.int .u8 (0)), (.int .u8 (0)), (.int .u8 (0)), (.int .u8 (0)), (.int .u8 (0)), (.int .u8 (0)), (.int .u8 (0)), (.int .u8 (0)), (.int .u8 (0)), (.int .u8 (0)), (.int .u8 (0))]), [], (some [some .u8, some .u8, some .u8, some .u8, some .u8, some .u8, some .u8, some .u8, some .u8, some .u8, some .u8, some .u8, some .u8, some .u8, some .u8, some .u8, some .u8, some .u8, some .u8, some .u8, some .u8, some .u8, some .u8, some .u8, some .u8, some .u8, some .u8, some .u8, some .u8, some .u8, some .u8, some .u8, some .u8, some .u8, some .u8, some .u8, some .u8, some .u8, some .u8, some .u8, some .u8, some .u8, some .u8, some .u8, some .u8, some .u8, some .u8, some .u8, some .u8, some .u8, some .u8, some .u8, some .u8, some .u8, some .u8, some .u8, some .u8, some .u8, some .u8, some .u8, some .u8, some .u8, some .u8, some .u8, some .u8, some .u8, some .u8, some .u8, some .u8, some .u8, some .u8, some .u8, some .u8, some .u8, some .u8, some .u8, some .u8, some .u8, some .u8, some .u8, some .u8, some .u8, some .u8, some .u8, some .u8, some .u8, some .u8, some .u8, some .u8, some .u8, some .u8, some .u8, some .u8, some .u8, some .u8, some .u8, some .u8, some .u8, some .u8, some .u8, some .u8, some .u8, some .u8, some .u8, some .u8, some .u8, some .u8, some .u8, some .u8, some .u8, some .u8, some .u8, some .u8, some .u8, some .u8, some .u8, some .u8, some .u8, some .u8, some .u8, some .u8, some .u8, some .u8, some .u8, some .u8, some .u8, some .u8, some .u8, some .u8, some .u8, some .u8, some .u8, some .u8, some .u8, some .u8, some .u8, some .u8, some .u8, some .u8, some .u8, some .u8, some .u8, some .u8, some .u8, some .u8, some .u8, some .u8, some .u8, some .u8, some .u8, some .u8, some .u8, some .u8, some .u8, some .u8, some .u8, some .u8, some .u8, some .u8, some .u8, some .u8, some .u8, some .u8, some .u8, some .u8, some .u8, some .u8, some .u8, some .u8, some .u8, some .u8, some .u8, some .u8, some .u8, some .u8, some .u8, some .u8, some .u8, some .u8, some .u8, some .u8, some .u8, some .u8, some .u8, some .u8, some .u8, some .u8, some .u8, some .u8, some .u8, some .u8, some .u8, some .u8, some .u8, some .u8, some .u8, some .u8, some .u8, some .u8, some .u8, some .u8, some .u8, some .u8, some .u8, some .u8, some .u8, some .u8, some .u8, some .u8, some .u8, some .u8, some .u8, some .u8, some .u8, some .u8, some .u8, some .u8, some .u8, some .u8, some .u8, some .u8, some .u8, some .u8, some .u8, some .u8, some .u8, some .u8, some .u8, some .u8, some .u8, some .u8, some .u8, some .u8, some .u8, some .u8, some .u8, some .u8, some .u8, some .u8, some .u8, some .u8, some .u8, some .u8, some .u8, some .u8, some .u8, some .u8, some .u8, some .u8, some .u8, some .u8, some .u8, some .u8, some .u8, some .u8, some .u8])⟩
noncomputable def ti97 : TI := ⟨.func, 1, 8, .nilf, [], none⟩
noncomputable def ti98 : TI := ⟨.func, 1, 8, .nilf, [], none⟩
noncomputable def ti99 : TI := ⟨(.slice 86), 1, 24, .nils, [], none⟩
noncomputable def ti100 : TI := ⟨.func, 1, 8, .nilf, [], none⟩
noncomputable def ti101 : TI := ⟨.func, 1, 8, .nilf, [], none⟩
noncomputable def ti102 : TI := ⟨.func, 1, 8, .nilf, [], none⟩
noncomputable def ti103 : TI := ⟨(.slice 28), 1, 24, .nils, [], none⟩
noncomputable def ti104 : TI := ⟨.func, 1, 8, .nilf, [], none⟩
noncomputable def ti105 : TI := ⟨.func, 1, 8, .nilf, [], none⟩
noncomputable def ti106 : TI := ⟨.func, 1, 8, .nilf, [], none⟩
noncomputable def ti107 : TI := ⟨.func, 1, 8, .nilf, [], none⟩
noncomputable def ti108 : TI := ⟨.func, 1, 8, .nilf, [], none⟩
noncomputable def ti109 : TI := ⟨.func, 1, 8, .nilf, [], none⟩
noncomputable def ti110 : TI := ⟨.func, 1, 8, .nilf, [], none⟩
noncomputable def ti111 : TI := ⟨.func, 1, 8, .nilf, [], none⟩
noncomputable def ti112 : TI := ⟨.func, 1, 8, .nilf, [], none⟩
noncomputable def ti113 : TI := ⟨.func, 1, 8, .nilf, [], none⟩
noncomputable def ti114 : TI := ⟨.func, 1, 8, .nilf, [], none⟩
noncomputable def ti115 : TI := ⟨.func, 1, 8, .nilf, [], none⟩
noncomputable def ti116 : TI := ⟨.func, 1, 8, .nilf, [], none⟩
noncomputable def ti117 : TI := ⟨(.ptr 121), 1, 8, .nilp, [("Len", 85, some 121), ("Less", 86, some 121), ("Swap", 89, some 121), ("Push", 88, none), ("Pop", 87, none)], none⟩
noncomputable def ti118 : TI := ⟨(.struct [(3, 0), (3, 1)]), 2, 16, (.agg [(.int .i64 (0)), (.int .i64 (0))]), [], (some [some .i64, some .i64])⟩
noncomputable def ti119 : TI := ⟨(.struct [(3, 0), (3, 1)]), 2, 16, (.agg [(.int .i64 (0)), (.int .i64 (0))]), [], (some [some .i64, some .i64])⟩
noncomputable def ti120 : TI := ⟨(.slice 119), 1, 24, .nils, [], none⟩
noncomputable def ti121 : TI := ⟨(.slice 119), 1, 24, .nils, [("Len", 85, none), ("Less", 86, none), ("Swap", 89, none)], none⟩
noncomputable def ti122 : TI := ⟨(.iface true), 1, 16, .nili, [], none⟩
noncomputable def ti123 : TI := ⟨(.iface true), 1, 16, .nili, [], none⟩
noncomputable def ti124 : TI := ⟨.func, 1, 8, .nilf, [], none⟩
noncomputable def ti125 : TI := ⟨.func, 1, 8, .nilf, [], none⟩
noncomputable def ti126 : TI := ⟨.func, 1, 8, .nilf, [], none⟩
noncomputable def ti127 : TI := ⟨.func, 1, 8, .nilf, [], none⟩
noncomputable def ti128 : TI := ⟨(.iface true), 1, 16, .nili, [], none⟩
noncomputable def ti129 : TI := ⟨.func, 1, 8, .nilf, [], none⟩
noncomputable def ti130 : TI := ⟨.func, 1, 8, .nilf, [], none⟩
noncomputable def ti131 : TI := ⟨.func, 1, 8, .nilf, [], none⟩
noncomputable def ti132 : TI := ⟨.func, 1, 8, .nilf, [], none⟩
noncomputable def ti133 : TI := ⟨.func, 1, 8, .nilf, [], none⟩
noncomputable def ti134 : TI := ⟨.func, 1, 8, .nilf, [], none⟩
noncomputable def ti137 : TI := ⟨(.array 0 16), 0, 0, (.agg []), [], none⟩
noncomputable def ti138 : TI := ⟨(.struct [(137, 0)]), 0, 0, (.agg []), [], none⟩
noncomputable def ti139 : TI := ⟨(.struct [(137, 0)]), 0, 0, (.agg []), [], none⟩
noncomputable def ti140 : TI := ⟨(.int .u32), 1, 4, (.int .u32 (0)), [], none⟩
noncomputable def ti141 : TI := ⟨(.int .u8), 1, 1, (.int .u8 (0)), [], none⟩
noncomputable def ti142 : TI := ⟨(.int .u8), 1, 1, (.int .u8 (0)), [], none⟩
noncomputable def ti143 : TI := ⟨.func, 1, 8, .nilf, [], none⟩
noncomputable def ti144 : TI := ⟨(.ptr 5), 1, 8, .nilp, [], none⟩
noncomputable def ti145 : TI := ⟨(.int .i32), 1, 4, (.int .i32 (0)), [], none⟩
noncomputable def ti146 : TI := ⟨(.int .i32), 1, 4, (.int .i32 (0)), [], none⟩
noncomputable def ti147 : TI := ⟨(.struct [(12, 0), (12, 1), (140, 2), (141, 3), (5, 4), (5, 5), (142, 6), (143, 7), (144, 8), (145, 9), (146, 10)]), 11, 48, (.agg [(.int .u64 (0)), (.int .u64 (0)), (.int .u32 (0)), (.int .u8 (0)), (.int .u8 (0)), (.int .u8 (0)), (.int .u8 (0)), .nilf, .nilp, (.int .i32 (0)), (.int .i32 (0))]), [], none⟩
noncomputable def ti148 : TI := ⟨(.struct [(12, 0), (12, 1), (140, 2), (141, 3), (5, 4), (5, 5), (142, 6), (143, 7), (144, 8), (145, 9), (146, 10)]), 11, 48, (.agg [(.int .u64 (0)), (.int .u64 (0)), (.int .u32 (0)), (.int .u8 (0)), (.int .u8 (0)), (.int .u8 (0)), (.int .u8 (0)), .nilf, .nilp, (.int .i32 (0)), (.int .i32 (0))]), [], none⟩
noncomputable def rows : List (Nat × TI) := [(1, ti1), (2, ti2), (3, ti3), (4, ti4), (5, ti5), (6, ti6), (7, ti7), (8, ti8), (12, ti12), (15, ti15), (16, ti16), (17, ti17), (18, ti18), (19, ti19), (20, ti20), (21, ti21), (22, ti22), (23, ti23), (24, ti24), (25, ti25), (26, ti26), (27, ti27), (28, ti28), (29, ti29), (30, ti30), (31, ti31), (32, ti32), (34, ti34), (36, ti36), (38, ti38), (39, ti39), (40, ti40), (41, ti41), (43, ti43), (44, ti44), (45, ti45), (46, ti46), (47, ti47), (48, ti48), (49, ti49), (50, ti50), (51, ti51), (52, ti52), (53, ti53), (54, ti54), (56, ti56), (57, ti57), (58, ti58), (59, ti59), (60, ti60), (61, ti61), (62, ti62), (63, ti63), (64, ti64), (65, ti65), (66, ti66), (67, ti67), (68, ti68), (69, ti69), (70, ti70), (71, ti71), (72, ti72), (73, ti73), (74, ti74), (75, ti75), (76, ti76), (78, ti78), (79, ti79), (80, ti80), (81, ti81), (82, ti82), (83, ti83), (84, ti84), (85, ti85), (86, ti86), (88, ti88), (89, ti89), (91, ti91), (92, ti92), (93, ti93), (94, ti94), (95, ti95), (96, ti96), (97, ti97), (98, ti98), (99, ti99), (100, ti100), (101, ti101), (102, ti102), (103, ti103), (104, ti104), (105, ti105), (106, ti106), (107, ti107), (108, ti108), (109, ti109), (110, ti110), (111, ti111), (112, ti112), (113, ti113), (114, ti114), (115, ti115), (116, ti116), (117, ti117), (118, ti118), (119, ti119), (120, ti120), (121, ti121), (122, ti122), (123, ti123), (124, ti124), (125, ti125), (126, ti126), (127, ti127), (128, ti128), (129, ti129), (130, ti130), (131, ti131), (132, ti132), (133, ti133), (134, ti134), (137, ti137), (138, ti138), (139, ti139), (140, ti140), (141, ti141), (142, ti142), (143, ti143), (144, ti144), (145, ti145), (146, ti146), (147, ti147), (148, ti148)]
noncomputable def fns : List (Nat × Func) := [(2, Try.f2), (3, Try.f3), (4, Try.f4), (5, Try.f5), (6, Try.f6), (7, Try.f7), (8, Try.f8), (9, Try.f9), (10, Try.f10), (11, Try.f11), (12, Try.f12), (13, Try.f13), (14, Try.f14), (15, Try.f15), (16, Try.f16), (17, Try.f17), (18, Try.f18), (19, Try.f19), (20, Try.f20), (21, Try.f21), (22, Try.f22), (23, Try.f23), (24, Try.f24), (25, Try.f25), (26, Try.f26), (27, Try.f27), (28, Try.f28), (29, Try.f29), (30, Try.f30), (31, Try.f31), (32, Try.f32), (33, Try.f33), (34, Try.f34), (35, Try.f35), (36, Try.f36), (37, Try.f37), (38, Try.f38), (39, Try.f39), (40, Try.f40), (41, Try.f41), (42, Try.f42), (43, Try.f43), (44, Try.f44), (45, Try.f45), (46, Try.f46), (47, Try.f47), (48, Try.f48), (49, Try.f49), (50, Try.f50), (51, Try.f51), (52, Try.f52), (53, Try.f53), (54, Try.f54), (55, Try.f55), (56, Try.f56), (57, Try.f57), (58, Try.f58), (59, Try.f59), (60, Try.f60), (61, Try.f61), (62, Try.f62), (63, Try.f63), (64, Try.f64), (65, Try.f65), (66, Try.f66), (67, Try.f67), (68, Try.f68), (85, Try.f85), (86, Try.f86), (87, Try.f87), (88, Try.f88), (89, Try.f89)]
noncomputable def T : Types := ⟨(.nd (.nd (.nd (.nd (.nd (.nd (.nd (.nd .lf (some ti127) .lf) (some ti63) .lf) (some ti31) (.nd .lf (some ti95) .lf)) (some ti15) (.nd (.nd (.nd .lf (some ti143) .lf) (some ti79) .lf) (some ti47) (.nd .lf (some ti111) .lf))) (some ti7) (.nd (.nd (.nd .lf (some ti71) .lf) (some ti39) (.nd .lf (some ti103) .lf)) (some ti23) (.nd .lf none (.nd .lf (some ti119) .lf)))) (some ti3) (.nd (.nd (.nd (.nd (.nd .lf (some ti131) .lf) (some ti67) .lf) none (.nd .lf (some ti99) .lf)) (some ti19) (.nd (.nd (.nd .lf (some ti147) .lf) (some ti83) .lf) (some ti51) (.nd .lf (some ti115) .lf))) none (.nd (.nd (.nd (.nd .lf (some ti139) .lf) (some ti75) .lf) (some ti43) (.nd .lf (some ti107) .lf)) (some ti27) (.nd (.nd .lf (some ti91) .lf) (some ti59) (.nd .lf (some ti123) .lf))))) (some ti1) (.nd (.nd (.nd (.nd (.nd (.nd .lf (some ti129) .lf) (some ti65) .lf) none (.nd .lf (some ti97) .lf)) (some ti17) (.nd (.nd (.nd .lf (some ti145) .lf) (some ti81) .lf) (some ti49) (.nd .lf (some ti113) .lf))) none (.nd (.nd (.nd (.nd .lf (some ti137) .lf) (some ti73) .lf) (some ti41) (.nd .lf (some ti105) .lf)) (some ti25) (.nd (.nd .lf (some ti89) .lf) (some ti57) (.nd .lf (some ti121) .lf)))) (some ti5) (.nd (.nd (.nd (.nd (.nd .lf (some ti133) .lf) (some ti69) .lf) none (.nd .lf (some ti101) .lf)) (some ti21) (.nd (.nd .lf (some ti85) .lf) (some ti53) (.nd .lf (some ti117) .lf))) none (.nd (.nd (.nd (.nd .lf (some ti141) .lf) none .lf) (some ti45) (.nd .lf (some ti109) .lf)) (some ti29) (.nd (.nd .lf (some ti93) .lf) (some ti61) (.nd .lf (some ti125) .lf)))))) none (.nd (.nd (.nd (.nd (.nd (.nd (.nd .lf (some ti128) .lf) (some ti64) .lf) (some ti32) (.nd .lf (some ti96) .lf)) (some ti16) (.nd (.nd (.nd .lf (some ti144) .lf) (some ti80) .lf) (some ti48) (.nd .lf (some ti112) .lf))) (some ti8) (.nd (.nd (.nd .lf (some ti72) .lf) (some ti40) (.nd .lf (some ti104) .lf)) (some ti24) (.nd (.nd .lf (some ti88) .lf) (some ti56) (.nd .lf (some ti120) .lf)))) (some ti4) (.nd (.nd (.nd (.nd (.nd .lf (some ti132) .lf) (some ti68) .lf) (some ti36) (.nd .lf (some ti100) .lf)) (some ti20) (.nd (.nd (.nd .lf (some ti148) .lf) (some ti84) .lf) (some ti52) (.nd .lf (some ti116) .lf))) (some ti12) (.nd (.nd (.nd (.nd .lf (some ti140) .lf) (some ti76) .lf) (some ti44) (.nd .lf (some ti108) .lf)) (some ti28) (.nd (.nd .lf (some ti92) .lf) (some ti60) (.nd .lf (some ti124) .lf))))) (some ti2) (.nd (.nd (.nd (.nd (.nd (.nd .lf (some ti130) .lf) (some ti66) .lf) (some ti34) (.nd .lf (some ti98) .lf)) (some ti18) (.nd (.nd (.nd .lf (some ti146) .lf) (some ti82) .lf) (some ti50) (.nd .lf (some ti114) .lf))) none (.nd (.nd (.nd (.nd .lf (some ti138) .lf) (some ti74) .lf) none (.nd .lf (some ti106) .lf)) (some ti26) (.nd .lf (some ti58) (.nd .lf (some ti122) .lf)))) (some ti6) (.nd (.nd (.nd (.nd (.nd .lf (some ti134) .lf) (some ti70) .lf) (some ti38) (.nd .lf (some ti102) .lf)) (some ti22) (.nd (.nd .lf (some ti86) .lf) (some ti54) (.nd .lf (some ti118) .lf))) none (.nd (.nd (.nd (.nd .lf (some ti142) .lf) (some ti78) .lf) (some ti46) (.nd .lf (some ti110) .lf)) (some ti30) (.nd (.nd .lf (some ti94) .lf) (some ti62) (.nd .lf (some ti126) .lf))))))), 0⟩
noncomputable def F : Funcs := (.nd (.nd (.nd (.nd (.nd (.nd (.nd .lf (some Try.f63) .lf) (some Try.f31) .lf) (some Try.f15) (.nd .lf (some Try.f47) .lf)) (some Try.f7) (.nd (.nd .lf (some Try.f39) .lf) (some Try.f23) (.nd (.nd .lf (some Try.f87) .lf) (some Try.f55) .lf))) (some Try.f3) (.nd (.nd (.nd (.nd .lf (some Try.f67) .lf) (some Try.f35) .lf) (some Try.f19) (.nd .lf (some Try.f51) .lf)) (some Try.f11) (.nd (.nd .lf (some Try.f43) .lf) (some Try.f27) (.nd .lf (some Try.f59) .lf)))) none (.nd (.nd (.nd (.nd (.nd .lf (some Try.f65) .lf) (some Try.f33) .lf) (some Try.f17) (.nd .lf (some Try.f49) .lf)) (some Try.f9) (.nd (.nd .lf (some Try.f41) .lf) (some Try.f25) (.nd (.nd .lf (some Try.f89) .lf) (some Try.f57) .lf))) (some Try.f5) (.nd (.nd (.nd .lf (some Try.f37) .lf) (some Try.f21) (.nd (.nd .lf (some Try.f85) .lf) (some Try.f53) .lf)) (some Try.f13) (.nd (.nd .lf (some Try.f45) .lf) (some Try.f29) (.nd .lf (some Try.f61) .lf))))) none (.nd (.nd (.nd (.nd (.nd (.nd .lf (some Try.f64) .lf) (some Try.f32) .lf) (some Try.f16) (.nd .lf (some Try.f48) .lf)) (some Try.f8) (.nd (.nd .lf (some Try.f40) .lf) (some Try.f24) (.nd (.nd .lf (some Try.f88) .lf) (some Try.f56) .lf))) (some Try.f4) (.nd (.nd (.nd (.nd .lf (some Try.f68) .lf) (some Try.f36) .lf) (some Try.f20) (.nd .lf (some Try.f52) .lf)) (some Try.f12) (.nd (.nd .lf (some Try.f44) .lf) (some Try.f28) (.nd .lf (some Try.f60) .lf)))) (some Try.f2) (.nd (.nd (.nd (.nd (.nd .lf (some Try.f66) .lf) (some Try.f34) .lf) (some Try.f18) (.nd .lf (some Try.f50) .lf)) (some Try.f10) (.nd (.nd .lf (some Try.f42) .lf) (some Try.f26) (.nd .lf (some Try.f58) .lf))) (some Try.f6) (.nd (.nd (.nd .lf (some Try.f38) .lf) (some Try.f22) (.nd (.nd .lf (some Try.f86) .lf) (some Try.f54) .lf)) (some Try.f14) (.nd (.nd .lf (some Try.f46) .lf) (some Try.f30) (.nd .lf (some Try.f62) .lf))))))
theorem T_eq : T = ⟨tabOf rows, 0⟩ := by kernel_rfl
theorem F_eq : F = tabOf fns := by kernel_rfl
theorem row1 : rowOf Try.prog names 1 = some ti1 := by kernel_rfl
theorem row2 : rowOf Try.prog names 2 = some ti2 := by kernel_rfl
theorem row3 : rowOf Try.prog names 3 = some ti3 := by kernel_rfl
theorem row4 : rowOf Try.prog names 4 = some ti4 := by kernel_rfl
theorem row5 : rowOf Try.prog names 5 = some ti5 := by kernel_rfl
theorem row6 : rowOf Try.prog names 6 = some ti6 := by kernel_rfl
theorem row7 : rowOf Try.prog names 7 = some ti7 := by kernel_rfl
theorem row8 : rowOf Try.prog names 8 = some ti8 := by kernel_rfl
theorem row12 : rowOf Try.prog names 12 = some ti12 := by kernel_rfl
theorem row15 : rowOf Try.prog names 15 = some ti15 := by kernel_rfl
theorem row16 : rowOf Try.prog names 16 = some ti16 := by kernel_rfl
theorem row17 : rowOf Try.prog names 17 = some ti17 := by kernel_rfl
theorem row18 : rowOf Try.prog names 18 = some ti18 := by kernel_rfl
theorem row19 : rowOf Try.prog names 19 = some ti19 := by kernel_rfl
theorem row20 : rowOf Try.prog names 20 = some ti20 := by kernel_rfl
theorem row21 : rowOf Try.prog names 21 = some ti21 := by kernel_rfl
theorem row22 : rowOf Try.prog names 22 = some ti22 := by kernel_rfl
theorem row23 : rowOf Try.prog names 23 = some ti23 := by kernel_rfl
theorem row24 : rowOf Try.prog names 24 = some ti24 := by kernel_rfl
theorem row25 : rowOf Try.prog names 25 = some ti25 := by kernel_rfl
theorem row26 : rowOf Try.prog names 26 = some ti26 := by kernel_rfl
theorem row27 : rowOf Try.prog names 27 = some ti27 := by kernel_rfl
theorem row28 : rowOf Try.prog names 28 = some ti28 := by kernel_rfl
theorem row29 : rowOf Try.prog names 29 = some ti29 := by kernel_rfl
theorem row30 : rowOf Try.prog names 30 = some ti30 := by kernel_rfl
theorem row31 : rowOf Try.prog names 31 = some ti31 := by kernel_rfl
theorem row32 : rowOf Try.prog names 32 = some ti32 := by kernel_rfl
theorem row34 : rowOf Try.prog names 34 = some ti34 := by kernel_rfl
theorem row36 : rowOf Try.prog names 36 = some ti36 := by kernel_rfl
theorem row38 : rowOf Try.prog names 38 = some ti38 := by kernel_rfl
theorem row39 : rowOf Try.prog names 39 = some ti39 := by kernel_rfl
theorem row40 : rowOf Try.prog names 40 = some ti40 := by kernel_rfl
theorem row41 : rowOf Try.prog names 41 = some ti41 := by kernel_rfl
theorem row43 : rowOf Try.prog names 43 = some ti43 := by kernel_rfl
theorem row44 : rowOf Try.prog names 44 = some ti44 := by kernel_rfl
theorem row45 : rowOf Try.prog names 45 = some ti45 := by kernel_rfl
theorem row46 : rowOf Try.prog names 46 = some ti46 := by kernel_rfl
theorem row47 : rowOf Try.prog names 47 = some ti47 := by kernel_rfl
theorem row48 : rowOf Try.prog names 48 = some ti48 := by kernel_rfl
theorem row49 : rowOf Try.prog names 49 = some ti49 := by kernel_rfl
theorem row50 : rowOf Try.prog names 50 = some ti50 := by kernel_rfl
theorem row51 : rowOf Try.prog names 51 = some ti51 := by kernel_rfl
theorem row52 : rowOf Try.prog names 52 = some ti52 := by kernel_rfl
theorem row53 : rowOf Try.prog names 53 = some ti53 := by kernel_rfl
theorem row54 : rowOf Try.prog names 54 = some ti54 := by kernel_rfl
theorem row56 : rowOf Try.prog names 56 = some ti56 := by kernel_rfl
theorem row57 : rowOf Try.prog names 57 = some ti57 := by kernel_rfl
theorem row58 : rowOf Try.prog names 58 = some ti58 := by kernel_rfl
theorem row59 : rowOf Try.prog names 59 = some ti59 := by kernel_rfl
theorem row60 : rowOf Try.prog names 60 = some ti60 := by kernel_rfl
theorem row61 : rowOf Try.prog names 61 = some ti61 := by kernel_rfl
theorem row62 : rowOf Try.prog names 62 = some ti62 := by kernel_rfl
theorem row63 : rowOf Try.prog names 63 = some ti63 := by kernel_rfl
theorem row64 : rowOf Try.prog names 64 = some ti64 := by kernel_rfl
theorem row65 : rowOf Try.prog names 65 = some ti65 := by kernel_rfl
theorem row66 : rowOf Try.prog names 66 = some ti66 := by kernel_rfl
theorem row67 : rowOf Try.prog names 67 = some ti67 := by kernel_rfl
theorem row68 : rowOf Try.prog names 68 = some ti68 := by kernel_rfl
theorem row69 : rowOf Try.prog names 69 = some ti69 := by kernel_rfl
theorem row70 : rowOf Try.prog names 70 = some ti70 := by kernel_rfl
theorem row71 : rowOf Try.prog names 71 = some ti71 := by kernel_rfl
theorem row72 : rowOf Try.prog names 72 = some ti72 := by kernel_rfl
theorem row73 : rowOf Try.prog names 73 = some ti73 := by kernel_rfl
theorem row74 : rowOf Try.prog names 74 = some ti74 := by kernel_rfl
theorem row75 : rowOf Try.prog names 75 = some ti75 := by kernel_rfl
theorem row76 : rowOf Try.prog names 76 = some ti76 := by kernel_rfl
theorem row78 : rowOf Try.prog names 78 = some ti78 := by kernel_rfl
theorem row79 : rowOf Try.prog names 79 = some ti79 := by kernel_rfl
theorem row80 : rowOf Try.prog names 80 = some ti80 := by kernel_rfl
theorem row81 : rowOf Try.prog names 81 = some ti81 := by kernel_rfl
theorem row82 : rowOf Try.prog names 82 = some ti82 := by kernel_rfl
theorem row83 : rowOf Try.prog names 83 = some ti83 := by kernel_rfl
theorem row84 : rowOf Try.prog names 84 = some ti84 := by kernel_rfl
theorem row85 : rowOf Try.prog names 85 = some ti85 := by kernel_rfl
theorem row86 : rowOf Try.prog names 86 = some ti86 := by kernel_rfl
theorem row88 : rowOf Try.prog names 88 = some ti88 := by kernel_rfl
theorem row89 : rowOf Try.prog names 89 = some ti89 := by kernel_rfl
theorem row91 : rowOf Try.prog names 91 = some ti91 := by kernel_rfl
theorem row92 : rowOf Try.prog names 92 = some ti92 := by kernel_rfl
theorem row93 : rowOf Try.prog names 93 = some ti93 := by kernel_rfl
theorem row94 : rowOf Try.prog names 94 = some ti94 := by kernel_rfl
theorem row95 : rowOf Try.prog names 95 = some ti95 := by kernel_rfl
theorem row96 : rowOf Try.prog names 96 = some ti96 := by kernel_rfl
theorem row97 : rowOf Try.prog names 97 = some ti97 := by kernel_rfl
theorem row98 : rowOf Try.prog names 98 = some ti98 := by kernel_rfl
theorem row99 : rowOf Try.prog names 99 = some ti99 := by kernel_rfl
theorem row100 : rowOf Try.prog names 100 = some ti100 := by kernel_rfl
theorem row101 : rowOf Try.prog names 101 = some ti101 := by kernel_rfl
theorem row102 : rowOf Try.prog names 102 = some ti102 := by kernel_rfl
theorem row103 : rowOf Try.prog names 103 = some ti103 := by kernel_rfl
theorem row104 : rowOf Try.prog names 104 = some ti104 := by kernel_rfl
theorem row105 : rowOf Try.prog names 105 = some ti105 := by kernel_rfl
theorem row106 : rowOf Try.prog names 106 = some ti106 := by kernel_rfl
theorem row107 : rowOf Try.prog names 107 = some ti107 := by kernel_rfl
theorem row108 : rowOf Try.prog names 108 = some ti108 := by kernel_rfl
theorem row109 : rowOf Try.prog names 109 = some ti109 := by kernel_rfl
theorem row110 : rowOf Try.prog names 110 = some ti110 := by kernel_rfl
theorem row111 : rowOf Try.prog names 111 = some ti111 := by kernel_rfl
theorem row112 : rowOf Try.prog names 112 = some ti112 := by kernel_rfl
theorem row113 : rowOf Try.prog names 113 = some ti113 := by kernel_rfl
theorem row114 : rowOf Try.prog names 114 = some ti114 := by kernel_rfl
theorem row115 : rowOf Try.prog names 115 = some ti115 := by kernel_rfl
theorem row116 : rowOf Try.prog names 116 = some ti116 := by kernel_rfl
theorem row117 : rowOf Try.prog names 117 = some ti117 := by kernel_rfl
theorem row118 : rowOf Try.prog names 118 = some ti118 := by kernel_rfl
theorem row119 : rowOf Try.prog names 119 = some ti119 := by kernel_rfl
theorem row120 : rowOf Try.prog names 120 = some ti120 := by kernel_rfl
theorem row121 : rowOf Try.prog names 121 = some ti121 := by kernel_rfl
theorem row122 : rowOf Try.prog names 122 = some ti122 := by kernel_rfl
theorem row123 : rowOf Try.prog names 123 = some ti123 := by kernel_rfl
theorem row124 : rowOf Try.prog names 124 = some ti124 := by kernel_rfl
theorem row125 : rowOf Try.prog names 125 = some ti125 := by kernel_rfl
theorem row126 : rowOf Try.prog names 126 = some ti126 := by kernel_rfl
theorem row127 : rowOf Try.prog names 127 = some ti127 := by kernel_rfl
theorem row128 : rowOf Try.prog names 128 = some ti128 := by kernel_rfl
theorem row129 : rowOf Try.prog names 129 = some ti129 := by kernel_rfl
theorem row130 : rowOf Try.prog names 130 = some ti130 := by kernel_rfl
theorem row131 : rowOf Try.prog names 131 = some ti131 := by kernel_rfl
theorem row132 : rowOf Try.prog names 132 = some ti132 := by kernel_rfl
theorem row133 : rowOf Try.prog names 133 = some ti133 := by kernel_rfl
theorem row134 : rowOf Try.prog names 134 = some ti134 := by kernel_rfl
theorem row137 : rowOf Try.prog names 137 = some ti137 := by kernel_rfl
theorem row138 : rowOf Try.prog names 138 = some ti138 := by kernel_rfl
theorem row139 : rowOf Try.prog names 139 = some ti139 := by kernel_rfl
theorem row140 : rowOf Try.prog names 140 = some ti140 := by kernel_rfl
theorem row141 : rowOf Try.prog names 141 = some ti141 := by kernel_rfl
theorem row142 : rowOf Try.prog names 142 = some ti142 := by kernel_rfl
theorem row143 : rowOf Try.prog names 143 = some ti143 := by kernel_rfl
theorem row144 : rowOf Try.prog names 144 = some ti144 := by kernel_rfl
theorem row145 : rowOf Try.prog names 145 = some ti145 := by kernel_rfl
theorem row146 : rowOf Try.prog names 146 = some ti146 := by kernel_rfl
theorem row147 : rowOf Try.prog names 147 = some ti147 := by kernel_rfl
theorem row148 : rowOf Try.prog names 148 = some ti148 := by kernel_rfl
theorem T1 : T.get 1 = some ⟨.func, 1, 8, .nilf, [], none⟩ := by kernel_rfl
theorem T2 : T.get 2 = some ⟨(.int .i64), 1, 8, (.int .i64 (0)), [], none⟩ := by kernel_rfl
theorem T3 : T.get 3 = some ⟨(.int .i64), 1, 8, (.int .i64 (0)), [], none⟩ := by kernel_rfl
theorem T4 : T.get 4 = some ⟨.bool, 1, 1, (.bool false), [], none⟩ := by kernel_rfl
theorem T5 : T.get 5 = some ⟨(.int .u8), 1, 1, (.int .u8 (0)), [], none⟩ := by kernel_rfl
theorem T6 : T.get 6 = some ⟨(.int .u8), 1, 1, (.int .u8 (0)), [], none⟩ := by kernel_rfl
theorem T7 : T.get 7 = some ⟨(.struct [(2, 0), (3, 1), (4, 2), (6, 3)]), 4, 24, (.agg [(.int .i64 (0)), (.int .i64 (0)), (.bool false), (.int .u8 (0))]), [], (some [some .i64, some .i64, none, some .u8])⟩ := by kernel_rfl
theorem T8 : T.get 8 = some ⟨(.struct [(2, 0), (3, 1), (4, 2), (6, 3)]), 4, 24, (.agg [(.int .i64 (0)), (.int .i64 (0)), (.bool false), (.int .u8 (0))]), [], (some [some .i64, some .i64, none, some .u8])⟩ := by kernel_rfl
theorem T12 : T.get 12 = some ⟨(.int .u64), 1, 8, (.int .u64 (0)), [], none⟩ := by kernel_rfl
theorem T15 : T.get 15 = some ⟨(.ptr 136), 1, 8, .nilp, [], none⟩ := by kernel_rfl
theorem T16 : T.get 16 = some ⟨(.ptr 139), 1, 8, .nilp, [], none⟩ := by kernel_rfl
theorem T17 : T.get 17 = some ⟨(.ptr 148), 1, 8, .nilp, [("Len", 82, none)], none⟩ := by kernel_rfl
theorem T18 : T.get 18 = some ⟨(.struct [(17, 0)]), 1, 8, (.agg [.nilp]), [], none⟩ := by kernel_rfl
theorem T19 : T.get 19 = some ⟨(.struct [(17, 0)]), 1, 8, (.agg [.nilp]), [], none⟩ := by kernel_rfl
theorem T20 : T.get 20 = some ⟨(.iface false), 1, 16, .nili, [], none⟩ := by kernel_rfl
theorem T21 : T.get 21 = some ⟨(.int .i32), 1, 4, (.int .i32 (0)), [], none⟩ := by kernel_rfl
theorem T22 : T.get 22 = some ⟨(.struct [(3, 0), (3, 1), (3, 2), (3, 3), (3, 4)]), 5, 40, (.agg [(.int .i64 (0)), (.int .i64 (0)), (.int .i64 (0)), (.int .i64 (0)), (.int .i64 (0))]), [], (some [some .i64, some .i64, some .i64, some .i64, some .i64])⟩ := by kernel_rfl
theorem T23 : T.get 23 = some ⟨(.struct [(3, 0), (3, 1), (3, 2), (3, 3), (3, 4)]), 5, 40, (.agg [(.int .i64 (0)), (.int .i64 (0)), (.int .i64 (0)), (.int .i64 (0)), (.int .i64 (0))]), [], (some [some .i64, some .i64, some .i64, some .i64, some .i64])⟩ := by kernel_rfl
theorem T24 : T.get 24 = some ⟨(.slice 67), 1, 24, .nils, [], none⟩ := by kernel_rfl
theorem T25 : T.get 25 = some ⟨(.slice 62), 1, 24, .nils, [], none⟩ := by kernel_rfl
theorem T26 : T.get 26 = some ⟨(.struct [(3, 0), (3, 1), (3, 2), (24, 3), (25, 4)]), 5, 72, (.agg [(.int .i64 (0)), (.int .i64 (0)), (.int .i64 (0)), .nils, .nils]), [], none⟩ := by kernel_rfl
theorem T27 : T.get 27 = some ⟨(.struct [(3, 0), (3, 1), (3, 2), (24, 3), (25, 4)]), 5, 72, (.agg [(.int .i64 (0)), (.int .i64 (0)), (.int .i64 (0)), .nils, .nils]), [], none⟩ := by kernel_rfl
theorem T28 : T.get 28 = some ⟨(.slice 3), 1, 24, .nils, [], none⟩ := by kernel_rfl
theorem T29 : T.get 29 = some ⟨.func, 1, 8, .nilf, [], none⟩ := by kernel_rfl
theorem T30 : T.get 30 = some ⟨.func, 1, 8, .nilf, [], none⟩ := by kernel_rfl
theorem T31 : T.get 31 = some ⟨(.slice 48), 1, 24, .nils, [], none⟩ := by kernel_rfl
theorem T32 : T.get 32 = some ⟨(.int .i64), 1, 8, (.int .i64 (0)), [], none⟩ := by kernel_rfl
theorem T34 : T.get 34 = some ⟨.func, 1, 8, .nilf, [], none⟩ := by kernel_rfl
theorem T36 : T.get 36 = some ⟨.func, 1, 8, .nilf, [], none⟩ := by kernel_rfl
theorem T38 : T.get 38 = some ⟨.func, 1, 8, .nilf, [], none⟩ := by kernel_rfl
theorem T39 : T.get 39 = some ⟨.func, 1, 8, .nilf, [], none⟩ := by kernel_rfl
theorem T40 : T.get 40 = some ⟨.func, 1, 8, .nilf, [], none⟩ := by kernel_rfl
theorem T41 : T.get 41 = some ⟨.func, 1, 8, .nilf, [], none⟩ := by kernel_rfl
theorem T43 : T.get 43 = some ⟨.func, 1, 8, .nilf, [], none⟩ := by kernel_rfl
theorem T44 : T.get 44 = some ⟨.func, 1, 8, .nilf, [], none⟩ := by kernel_rfl
theorem T45 : T.get 45 = some ⟨.func, 1, 8, .nilf, [], none⟩ := by kernel_rfl
theorem T46 : T.get 46 = some ⟨.func, 1, 8, .nilf, [], none⟩ := by kernel_rfl
theorem T47 : T.get 47 = some ⟨(.struct [(3, 0), (3, 1)]), 2, 16, (.agg [(.int .i64 (0)), (.int .i64 (0))]), [], (some [some .i64, some .i64])⟩ := by kernel_rfl
theorem T48 : T.get 48 = some ⟨(.struct [(3, 0), (3, 1)]), 2, 16, (.agg [(.int .i64 (0)), (.int .i64 (0))]), [], (some [some .i64, some .i64])⟩ := by kernel_rfl
theorem T49 : T.get 49 = some ⟨.func, 1, 8, .nilf, [], none⟩ := by kernel_rfl
theorem T50 : T.get 50 = some ⟨(.struct [(3, 0), (3, 1), (31, 2)]), 3, 40, (.agg [(.int .i64 (0)), (.int .i64 (0)), .nils]), [], none⟩ := by kernel_rfl
theorem T51 : T.get 51 = some ⟨(.slice 50), 1, 24, .nils, [], none⟩ := by kernel_rfl
theorem T52 : T.get 52 = some ⟨(.int .u16), 1, 2, (.int .u16 (0)), [], none⟩ := by kernel_rfl
theorem T53 : T.get 53 = some ⟨.func, 1, 8, .nilf, [], none⟩ := by kernel_rfl
theorem T54 : T.get 54 = some ⟨.func, 1, 8, .nilf, [], none⟩ := by kernel_rfl
theorem T56 : T.get 56 = some ⟨.func, 1, 8, .nilf, [], none⟩ := by kernel_rfl
theorem T57 : T.get 57 = some ⟨(.slice 5), 1, 24, .nils, [], none⟩ := by kernel_rfl
theorem T58 : T.get 58 = some ⟨.func, 1, 8, .nilf, [], none⟩ := by kernel_rfl
theorem T59 : T.get 59 = some ⟨.func, 1, 8, .nilf, [], none⟩ := by kernel_rfl
theorem T60 : T.get 60 = some ⟨.func, 1, 8, .nilf, [], none⟩ := by kernel_rfl
theorem T61 : T.get 61 = some ⟨(.struct [(3, 0), (3, 1), (3, 2)]), 3, 24, (.agg [(.int .i64 (0)), (.int .i64 (0)), (.int .i64 (0))]), [], (some [some .i64, some .i64, some .i64])⟩ := by kernel_rfl
theorem T62 : T.get 62 = some ⟨(.struct [(3, 0), (3, 1), (3, 2)]), 3, 24, (.agg [(.int .i64 (0)), (.int .i64 (0)), (.int .i64 (0))]), [], (some [some .i64, some .i64, some .i64])⟩ := by kernel_rfl
theorem T63 : T.get 63 = some ⟨.func, 1, 8, .nilf, [], none⟩ := by kernel_rfl
theorem T64 : T.get 64 = some ⟨.func, 1, 8, .nilf, [], none⟩ := by kernel_rfl
theorem T65 : T.get 65 = some ⟨.func, 1, 8, .nilf, [], none⟩ := by kernel_rfl
theorem T66 : T.get 66 = some ⟨(.struct [(3, 0), (3, 1), (3, 2)]), 3, 24, (.agg [(.int .i64 (0)), (.int .i64 (0)), (.int .i64 (0))]), [], (some [some .i64, some .i64, some .i64])⟩ := by kernel_rfl
theorem T67 : T.get 67 = some ⟨(.struct [(3, 0), (3, 1), (3, 2)]), 3, 24, (.agg [(.int .i64 (0)), (.int .i64 (0)), (.int .i64 (0))]), [], (some [some .i64, some .i64, some .i64])⟩ := by kernel_rfl
theorem T68 : T.get 68 = some ⟨(.ptr 62), 1, 8, .nilp, [], none⟩ := by kernel_rfl
theorem T69 : T.get 69 = some ⟨(.ptr 67), 1, 8, .nilp, [], none⟩ := by kernel_rfl
theorem T70 : T.get 70 = some ⟨(.slice 27), 1, 24, .nils, [], none⟩ := by kernel_rfl
theorem T71 : T.get 71 = some ⟨.func, 1, 8, .nilf, [], none⟩ := by kernel_rfl
theorem T72 : T.get 72 = some ⟨.func, 1, 8, .nilf, [], none⟩ := by kernel_rfl
theorem T73 : T.get 73 = some ⟨.func, 1, 8, .nilf, [], none⟩ := by kernel_rfl
theorem T74 : T.get 74 = some ⟨.func, 1, 8, .nilf, [], none⟩ := by kernel_rfl
theorem T75 : T.get 75 = some ⟨(.ptr 80), 1, 8, .nilp, [], none⟩ := by kernel_rfl
theorem T76 : T.get 76 = some ⟨.func, 1, 8, .nilf, [], none⟩ := by kernel_rfl
theorem T78 : T.get 78 = some ⟨(.map 82 3), 1, 8, .nilm, [], none⟩ := by kernel_rfl
theorem T79 : T.get 79 = some ⟨(.struct [(27, 0), (78, 5)]), 6, 80, (.agg [(.int .i64 (0)), (.int .i64 (0)), (.int .i64 (0)), .nils, .nils, .nilm]), [], none⟩ := by kernel_rfl
theorem T80 : T.get 80 = some ⟨(.struct [(27, 0), (78, 5)]), 6, 80, (.agg [(.int .i64 (0)), (.int .i64 (0)), (.int .i64 (0)), .nils, .nils, .nilm]), [], none⟩ := by kernel_rfl
theorem T81 : T.get 81 = some ⟨(.struct [(3, 0), (3, 1)]), 2, 16, (.agg [(.int .i64 (0)), (.int .i64 (0))]), [], (some [some .i64, some .i64])⟩ := by kernel_rfl
theorem T82 : T.get 82 = some ⟨(.struct [(3, 0), (3, 1)]), 2, 16, (.agg [(.int .i64 (0)), (.int .i64 (0))]), [], (some [some .i64, some .i64])⟩ := by kernel_rfl
theorem T83 : T.get 83 = some ⟨.func, 1, 8, .nilf, [], none⟩ := by kernel_rfl
theorem T84 : T.get 84 = some ⟨(.struct [(3, 0), (3, 1)]), 2, 16, (.agg [(.int .i64 (0)), (.int .i64 (0))]), [], (some [some .i64, some .i64])⟩ := by kernel_rfl
theorem T85 : T.get 85 = some ⟨(.struct [(3, 0), (3, 1)]), 2, 16, (.agg [(.int .i64 (0)), (.int .i64 (0))]), [], (some [some .i64, some .i64])⟩ := by kernel_rfl
theorem T86 : T.get 86 = some ⟨(.int .i64), 1, 8, (.int .i64 (0)), [], none⟩ := by kernel_rfl
theorem T88 : T.get 88 = some ⟨.func, 1, 8, .nilf, [], none⟩ := by kernel_rfl
theorem T89 : T.get 89 = some ⟨.func, 1, 8, .nilf, [], none⟩ := by kernel_rfl
theorem T91 : T.get 91 = some ⟨.func, 1, 8, .nilf, [], none⟩ := by kernel_rfl
theorem T92 : T.get 92 = some ⟨.func, 1, 8, .nilf, [], none⟩ := by kernel_rfl
theorem T93 : T.get 93 = some ⟨.func, 1, 8, .nilf, [], none⟩ := by kernel_rfl
theorem T94 : T.get 94 = some ⟨(.ptr 96), 1, 8, .nilp, [], none⟩ := by kernel_rfl
theorem T95 : T.get 95 = some ti95 := by kernel_rfl
theorem T96 : T.get 96 = some ti96 := by kernel_rfl
theorem T97 : T.get 97 = some ⟨.func, 1, 8, .nilf, [], none⟩ := by kernel_rfl
theorem T98 : T.get 98 = some ⟨.func, 1, 8, .nilf, [], none⟩ := by kernel_rfl
theorem T99 : T.get 99 = some ⟨(.slice 86), 1, 24, .nils, [], none⟩ := by kernel_rfl
theorem T100 : T.get 100 = some ⟨.func, 1, 8, .nilf, [], none⟩ := by kernel_rfl
theorem T101 : T.get 101 = some ⟨.func, 1, 8, .nilf, [], none⟩ := by kernel_rfl
theorem T102 : T.get 102 = some ⟨.func, 1, 8, .nilf, [], none⟩ := by kernel_rfl
theorem T103 : T.get 103 = some ⟨(.slice 28), 1, 24, .nils, [], none⟩ := by kernel_rfl
theorem T104 : T.get 104 = some ⟨.func, 1, 8, .nilf, [], none⟩ := by kernel_rfl
theorem T105 : T.get 105 = some ⟨.func, 1, 8, .nilf, [], none⟩ := by kernel_rfl
theorem T106 : T.get 106 = some ⟨.func, 1, 8, .nilf, [], none⟩ := by kernel_rfl
theorem T107 : T.get 107 = some ⟨.func, 1, 8, .nilf, [], none⟩ := by kernel_rfl
theorem T108 : T.get 108 = some ⟨.func, 1, 8, .nilf, [], none⟩ := by kernel_rfl
theorem T109 : T.get 109 = some ⟨.func, 1, 8, .nilf, [], none⟩ := by kernel_rfl
theorem T110 : T.get 110 = some ⟨.func, 1, 8, .nilf, [], none⟩ := by kernel_rfl
theorem T111 : T.get 111 = some ⟨.func, 1, 8, .nilf, [], none⟩ := by kernel_rfl
theorem T112 : T.get 112 = some ⟨.func, 1, 8, .nilf, [], none⟩ := by kernel_rfl
theorem T113 : T.get 113 = some ⟨.func, 1, 8, .nilf, [], none⟩ := by kernel_rfl
theorem T114 : T.get 114 = some ⟨.func, 1, 8, .nilf, [], none⟩ := by kernel_rfl
theorem T115 : T.get 115 = some ⟨.func, 1, 8, .nilf, [], none⟩ := by kernel_rfl
theorem T116 : T.get 116 = some ⟨.func, 1, 8, .nilf, [], none⟩ := by kernel_rfl
theorem T117 : T.get 117 = some ⟨(.ptr 121), 1, 8, .nilp, [("Len", 85, some 121), ("Less", 86, some 121), ("Swap", 89, some 121), ("Push", 88, none), ("Pop", 87, none)], none⟩ := by kernel_rfl
theorem T118 : T.get 118 = some ⟨(.struct [(3, 0), (3, 1)]), 2, 16, (.agg [(.int .i64 (0)), (.int .i64 (0))]), [], (some [some .i64, some .i64])⟩ := by kernel_rfl
theorem T119 : T.get 119 = some ⟨(.struct [(3, 0), (3, 1)]), 2, 16, (.agg [(.int .i64 (0)), (.int .i64 (0))]), [], (some [some .i64, some .i64])⟩ := by kernel_rfl
theorem T120 : T.get 120 = some ⟨(.slice 119), 1, 24, .nils, [], none⟩ := by kernel_rfl
theorem T121 : T.get 121 = some ⟨(.slice 119), 1, 24, .nils, [("Len", 85, none), ("Less", 86, none), ("Swap", 89, none)], none⟩ := by kernel_rfl
theorem T122 : T.get 122 = some ⟨(.iface true), 1, 16, .nili, [], none⟩ := by kernel_rfl
theorem T123 : T.get 123 = some ⟨(.iface true), 1, 16, .nili, [], none⟩ := by kernel_rfl
theorem T124 : T.get 124 = some ⟨.func, 1, 8, .nilf, [], none⟩ := by kernel_rfl
theorem T125 : T.get 125 = some ⟨.func, 1, 8, .nilf, [], none⟩ := by kernel_rfl
theorem T126 : T.get 126 = some ⟨.func, 1, 8, .nilf, [], none⟩ := by kernel_rfl
theorem T127 : T.get 127 = some ⟨.func, 1, 8, .nilf, [], none⟩ := by kernel_rfl
theorem T128 : T.get 128 = some ⟨(.iface true), 1, 16, .nili, [], none⟩ := by kernel_rfl
theorem T129 : T.get 129 = some ⟨.func, 1, 8, .nilf, [], none⟩ := by kernel_rfl
theorem T130 : T.get 130 = some ⟨.func, 1, 8, .nilf, [], none⟩ := by kernel_rfl
theorem T131 : T.get 131 = some ⟨.func, 1, 8, .nilf, [], none⟩ := by kernel_rfl
theorem T132 : T.get 132 = some ⟨.func, 1, 8, .nilf, [], none⟩ := by kernel_rfl
theorem T133 : T.get 133 = some ⟨.func, 1, 8, .nilf, [], none⟩ := by kernel_rfl
theorem T134 : T.get 134 = some ⟨.func, 1, 8, .nilf, [], none⟩ := by kernel_rfl
theorem T137 : T.get 137 = some ⟨(.array 0 16), 0, 0, (.agg []), [], none⟩ := by kernel_rfl
theorem T138 : T.get 138 = some ⟨(.struct [(137, 0)]), 0, 0, (.agg []), [], none⟩ := by kernel_rfl
theorem T139 : T.get 139 = some ⟨(.struct [(137, 0)]), 0, 0, (.agg []), [], none⟩ := by kernel_rfl
theorem T140 : T.get 140 = some ⟨(.int .u32), 1, 4, (.int .u32 (0)), [], none⟩ := by kernel_rfl
theorem T141 : T.get 141 = some ⟨(.int .u8), 1, 1, (.int .u8 (0)), [], none⟩ := by kernel_rfl
theorem T142 : T.get 142 = some ⟨(.int .u8), 1, 1, (.int .u8 (0)), [], none⟩ := by kernel_rfl
theorem T143 : T.get 143 = some ⟨.func, 1, 8, .nilf, [], none⟩ := by kernel_rfl
theorem T144 : T.get 144 = some ⟨(.ptr 5), 1, 8, .nilp, [], none⟩ := by kernel_rfl
theorem T145 : T.get 145 = some ⟨(.int .i32), 1, 4, (.int .i32 (0)), [], none⟩ := by kernel_rfl
theorem T146 : T.get 146 = some ⟨(.int .i32), 1, 4, (.int .i32 (0)), [], none⟩ := by kernel_rfl
theorem T147 : T.get 147 = some ⟨(.struct [(12, 0), (12, 1), (140, 2), (141, 3), (5, 4), (5, 5), (142, 6), (143, 7), (144, 8), (145, 9), (146, 10)]), 11, 48, (.agg [(.int .u64 (0)), (.int .u64 (0)), (.int .u32 (0)), (.int .u8 (0)), (.int .u8 (0)), (.int .u8 (0)), (.int .u8 (0)), .nilf, .nilp, (.int .i32 (0)), (.int .i32 (0))]), [], none⟩ := by kernel_rfl
theorem T148 : T.get 148 = some ⟨(.struct [(12, 0), (12, 1), (140, 2), (141, 3), (5, 4), (5, 5), (142, 6), (143, 7), (144, 8), (145, 9), (146, 10)]), 11, 48, (.agg [(.int .u64 (0)), (.int .u64 (0)), (.int .u32 (0)), (.int .u8 (0)), (.int .u8 (0)), (.int .u8 (0)), (.int .u8 (0)), .nilf, .nilp, (.int .i32 (0)), (.int .i32 (0))]), [], none⟩ := by kernel_rfl
theorem bd7 (ps : List (Nat × AV)) : abuild T 7 ps = oag (fill (plf T 7) [(.int .i64 (0)), (.int .i64 (0)), (.bool false), (.int .u8 (0))] ps) := abuild_struct _ _ T7
theorem fd7_0 : T.field 7 0 = some (⟨(.int .i64), 1, 8, (.int .i64 (0)), [], none⟩, 0) := by kernel_rfl
theorem fd7_1 : T.field 7 1 = some (⟨(.int .i64), 1, 8, (.int .i64 (0)), [], none⟩, 1) := by kernel_rfl
theorem fd7_2 : T.field 7 2 = some (⟨.bool, 1, 1, (.bool false), [], none⟩, 2) := by kernel_rfl
theorem fd7_3 : T.field 7 3 = some (⟨(.int .u8), 1, 1, (.int .u8 (0)), [], none⟩, 3) := by kernel_rfl
theorem bd8 (ps : List (Nat × AV)) : abuild T 8 ps = oag (fill (plf T 8) [(.int .i64 (0)), (.int .i64 (0)), (.bool false), (.int .u8 (0))] ps) := abuild_struct _ _ T8
theorem fd8_0 : T.field 8 0 = some (⟨(.int .i64), 1, 8, (.int .i64 (0)), [], none⟩, 0) := by kernel_rfl
theorem fd8_1 : T.field 8 1 = some (⟨(.int .i64), 1, 8, (.int .i64 (0)), [], none⟩, 1) := by kernel_rfl
theorem fd8_2 : T.field 8 2 = some (⟨.bool, 1, 1, (.bool false), [], none⟩, 2) := by kernel_rfl
theorem fd8_3 : T.field 8 3 = some (⟨(.int .u8), 1, 1, (.int .u8 (0)), [], none⟩, 3) := by kernel_rfl
theorem bd18 (ps : List (Nat × AV)) : abuild T 18 ps = oag (fill (plf T 18) [.nilp] ps) := abuild_struct _ _ T18
theorem fd18_0 : T.field 18 0 = some (⟨(.ptr 148), 1, 8, .nilp, [("Len", 82, none)], none⟩, 0) := by kernel_rfl
theorem bd19 (ps : List (Nat × AV)) : abuild T 19 ps = oag (fill (plf T 19) [.nilp] ps) := abuild_struct _ _ T19
theorem fd19_0 : T.field 19 0 = some (⟨(.ptr 148), 1, 8, .nilp, [("Len", 82, none)], none⟩, 0) := by kernel_rfl
theorem bd22 (ps : List (Nat × AV)) : abuild T 22 ps = oag (fill (plf T 22) [(.int .i64 (0)), (.int .i64 (0)), (.int .i64 (0)), (.int .i64 (0)), (.int .i64 (0))] ps) := abuild_struct _ _ T22
theorem fd22_0 : T.field 22 0 = some (⟨(.int .i64), 1, 8, (.int .i64 (0)), [], none⟩, 0) := by kernel_rfl
theorem fd22_1 : T.field 22 1 = some (⟨(.int .i64), 1, 8, (.int .i64 (0)), [], none⟩, 1) := by kernel_rfl
theorem fd22_2 : T.field 22 2 = some (⟨(.int .i64), 1, 8, (.int .i64 (0)), [], none⟩, 2) := by kernel_rfl
theorem fd22_3 : T.field 22 3 = some (⟨(.int .i64), 1, 8, (.int .i64 (0)), [], none⟩, 3) := by kernel_rfl
theorem fd22_4 : T.field 22 4 = some (⟨(.int .i64), 1, 8, (.int .i64 (0)), [], none⟩, 4) := by kernel_rfl
theorem bd23 (ps : List (Nat × AV)) : abuild T 23 ps = oag (fill (plf T 23) [(.int .i64 (0)), (.int .i64 (0)), (.int .i64 (0)), (.int .i64 (0)), (.int .i64 (0))] ps) := abuild_struct _ _ T23
theorem fd23_0 : T.field 23 0 = some (⟨(.int .i64), 1, 8, (.int .i64 (0)), [], none⟩, 0) := by kernel_rfl
theorem fd23_1 : T.field 23 1 = some (⟨(.int .i64), 1, 8, (.int .i64 (0)), [], none⟩, 1) := by kernel_rfl
theorem fd23_2 : T.field 23 2 = some (⟨(.int .i64), 1, 8, (.int .i64 (0)), [], none⟩, 2) := by kernel_rfl
theorem fd23_3 : T.field 23 3 = some (⟨(.int .i64), 1, 8, (.int .i64 (0)), [], none⟩, 3) := by kernel_rfl
theorem fd23_4 : T.field 23 4 = some (⟨(.int .i64), 1, 8, (.int .i64 (0)), [], none⟩, 4) := by kernel_rfl
theorem el24 : T.elem 24 = some ⟨(.struct [(3, 0), (3, 1), (3, 2)]), 3, 24, (.agg [(.int .i64 (0)), (.int .i64 (0)), (.int .i64 (0))]), [], (some [some .i64, some .i64, some .i64])⟩ := by kernel_rfl
theorem ln24 (g : Getter) (b q l c : Nat) (x : Bool) : alen T g 24 (.slice b q l c x) = some (.pure (.int .i64 l)) := alen_slice _ _ _ _ _ _ _ (by rw [el24]; rfl)
theorem lm24 (g : Getter) : alen T g 24 .nils = some (.pure (.int .i64 0)) := alen_nils _ _ (by rw [el24]; rfl)
theorem el25 : T.elem 25 = some ⟨(.struct [(3, 0), (3, 1), (3, 2)]), 3, 24, (.agg [(.int .i64 (0)), (.int .i64 (0)), (.int .i64 (0))]), [], (some [some .i64, some .i64, some .i64])⟩ := by kernel_rfl
theorem ln25 (g : Getter) (b q l c : Nat) (x : Bool) : alen T g 25 (.slice b q l c x) = some (.pure (.int .i64 l)) := alen_slice _ _ _ _ _ _ _ (by rw [el25]; rfl)
theorem lm25 (g : Getter) : alen T g 25 .nils = some (.pure (.int .i64 0)) := alen_nils _ _ (by rw [el25]; rfl)
theorem bd26 (ps : List (Nat × AV)) : abuild T 26 ps = oag (fill (plf T 26) [(.int .i64 (0)), (.int .i64 (0)), (.int .i64 (0)), .nils, .nils] ps) := abuild_struct _ _ T26
theorem fd26_0 : T.field 26 0 = some (⟨(.int .i64), 1, 8, (.int .i64 (0)), [], none⟩, 0) := by kernel_rfl
theorem fd26_1 : T.field 26 1 = some (⟨(.int .i64), 1, 8, (.int .i64 (0)), [], none⟩, 1) := by kernel_rfl
theorem fd26_2 : T.field 26 2 = some (⟨(.int .i64), 1, 8, (.int .i64 (0)), [], none⟩, 2) := by kernel_rfl
theorem fd26_3 : T.field 26 3 = some (⟨(.slice 67), 1, 24, .nils, [], none⟩, 3) := by kernel_rfl
theorem fd26_4 : T.field 26 4 = some (⟨(.slice 62), 1, 24, .nils, [], none⟩, 4) := by kernel_rfl
theorem bd27 (ps : List (Nat × AV)) : abuild T 27 ps = oag (fill (plf T 27) [(.int .i64 (0)), (.int .i64 (0)), (.int .i64 (0)), .nils, .nils] ps) := abuild_struct _ _ T27
theorem fd27_0 : T.field 27 0 = some (⟨(.int .i64), 1, 8, (.int .i64 (0)), [], none⟩, 0) := by kernel_rfl
theorem fd27_1 : T.field 27 1 = some (⟨(.int .i64), 1, 8, (.int .i64 (0)), [], none⟩, 1) := by kernel_rfl
theorem fd27_2 : T.field 27 2 = some (⟨(.int .i64), 1, 8, (.int .i64 (0)), [], none⟩, 2) := by kernel_rfl
theorem fd27_3 : T.field 27 3 = some (⟨(.slice 67), 1, 24, .nils, [], none⟩, 3) := by kernel_rfl
theorem fd27_4 : T.field 27 4 = some (⟨(.slice 62), 1, 24, .nils, [], none⟩, 4) := by kernel_rfl
theorem el28 : T.elem 28 = some ⟨(.int .i64), 1, 8, (.int .i64 (0)), [], none⟩ := by kernel_rfl
theorem ln28 (g : Getter) (b q l c : Nat) (x : Bool) : alen T g 28 (.slice b q l c x) = some (.pure (.int .i64 l)) := alen_slice _ _ _ _ _ _ _ (by rw [el28]; rfl)
theorem lm28 (g : Getter) : alen T g 28 .nils = some (.pure (.int .i64 0)) := alen_nils _ _ (by rw [el28]; rfl)
theorem el31 : T.elem 31 = some ⟨(.struct [(3, 0), (3, 1)]), 2, 16, (.agg [(.int .i64 (0)), (.int .i64 (0))]), [], (some [some .i64, some .i64])⟩ := by kernel_rfl
theorem ln31 (g : Getter) (b q l c : Nat) (x : Bool) : alen T g 31 (.slice b q l c x) = some (.pure (.int .i64 l)) := alen_slice _ _ _ _ _ _ _ (by rw [el31]; rfl)
theorem lm31 (g : Getter) : alen T g 31 .nils = some (.pure (.int .i64 0)) := alen_nils _ _ (by rw [el31]; rfl)
theorem bd47 (ps : List (Nat × AV)) : abuild T 47 ps = oag (fill (plf T 47) [(.int .i64 (0)), (.int .i64 (0))] ps) := abuild_struct _ _ T47
theorem fd47_0 : T.field 47 0 = some (⟨(.int .i64), 1, 8, (.int .i64 (0)), [], none⟩, 0) := by kernel_rfl
theorem fd47_1 : T.field 47 1 = some (⟨(.int .i64), 1, 8, (.int .i64 (0)), [], none⟩, 1) := by kernel_rfl
theorem bd48 (ps : List (Nat × AV)) : abuild T 48 ps = oag (fill (plf T 48) [(.int .i64 (0)), (.int .i64 (0))] ps) := abuild_struct _ _ T48
theorem fd48_0 : T.field 48 0 = some (⟨(.int .i64), 1, 8, (.int .i64 (0)), [], none⟩, 0) := by kernel_rfl
theorem fd48_1 : T.field 48 1 = some (⟨(.int .i64), 1, 8, (.int .i64 (0)), [], none⟩, 1) := by kernel_rfl
theorem bd50 (ps : List (Nat × AV)) : abuild T 50 ps = oag (fill (plf T 50) [(.int .i64 (0)), (.int .i64 (0)), .nils] ps) := abuild_struct _ _ T50
theorem fd50_0 : T.field 50 0 = some (⟨(.int .i64), 1, 8, (.int .i64 (0)), [], none⟩, 0) := by kernel_rfl
theorem fd50_1 : T.field 50 1 = some (⟨(.int .i64), 1, 8, (.int .i64 (0)), [], none⟩, 1) := by kernel_rfl
theorem fd50_2 : T.field 50 2 = some (⟨(.slice 48), 1, 24, .nils, [], none⟩, 2) := by kernel_rfl
theorem el51 : T.elem 51 = some ⟨(.struct [(3, 0), (3, 1), (31, 2)]), 3, 40, (.agg [(.int .i64 (0)), (.int .i64 (0)), .nils]), [], none⟩ := by kernel_rfl
theorem ln51 (g : Getter) (b q l c : Nat) (x : Bool) : alen T g 51 (.slice b q l c x) = some (.pure (.int .i64 l)) := alen_slice _ _ _ _ _ _ _ (by rw [el51]; rfl)
theorem lm51 (g : Getter) : alen T g 51 .nils = some (.pure (.int .i64 0)) := alen_nils _ _ (by rw [el51]; rfl)
theorem el57 : T.elem 57 = some ⟨(.int .u8), 1, 1, (.int .u8 (0)), [], none⟩ := by kernel_rfl
theorem ln57 (g : Getter) (b q l c : Nat) (x : Bool) : alen T g 57 (.slice b q l c x) = some (.pure (.int .i64 l)) := alen_slice _ _ _ _ _ _ _ (by rw [el57]; rfl)
theorem lm57 (g : Getter) : alen T g 57 .nils = some (.pure (.int .i64 0)) := alen_nils _ _ (by rw [el57]; rfl)
theorem bd61 (ps : List (Nat × AV)) : abuild T 61 ps = oag (fill (plf T 61) [(.int .i64 (0)), (.int .i64 (0)), (.int .i64 (0))] ps) := abuild_struct _ _ T61
theorem fd61_0 : T.field 61 0 = some (⟨(.int .i64), 1, 8, (.int .i64 (0)), [], none⟩, 0) := by kernel_rfl
theorem fd61_1 : T.field 61 1 = some (⟨(.int .i64), 1, 8, (.int .i64 (0)), [], none⟩, 1) := by kernel_rfl
theorem fd61_2 : T.field 61 2 = some (⟨(.int .i64), 1, 8, (.int .i64 (0)), [], none⟩, 2) := by kernel_rfl
theorem bd62 (ps : List (Nat × AV)) : abuild T 62 ps = oag (fill (plf T 62) [(.int .i64 (0)), (.int .i64 (0)), (.int .i64 (0))] ps) := abuild_struct _ _ T62
theorem fd62_0 : T.field 62 0 = some (⟨(.int .i64), 1, 8, (.int .i64 (0)), [], none⟩, 0) := by kernel_rfl
theorem fd62_1 : T.field 62 1 = some (⟨(.int .i64), 1, 8, (.int .i64 (0)), [], none⟩, 1) := by kernel_rfl
theorem fd62_2 : T.field 62 2 = some (⟨(.int .i64), 1, 8, (.int .i64 (0)), [], none⟩, 2) := by kernel_rfl
theorem bd66 (ps : List (Nat × AV)) : abuild T 66 ps = oag (fill (plf T 66) [(.int .i64 (0)), (.int .i64 (0)), (.int .i64 (0))] ps) := abuild_struct _ _ T66
theorem fd66_0 : T.field 66 0 = some (⟨(.int .i64), 1, 8, (.int .i64 (0)), [], none⟩, 0) := by kernel_rfl
theorem fd66_1 : T.field 66 1 = some (⟨(.int .i64), 1, 8, (.int .i64 (0)), [], none⟩, 1) := by kernel_rfl
theorem fd66_2 : T.field 66 2 = some (⟨(.int .i64), 1, 8, (.int .i64 (0)), [], none⟩, 2) := by kernel_rfl
theorem bd67 (ps : List (Nat × AV)) : abuild T 67 ps = oag (fill (plf T 67) [(.int .i64 (0)), (.int .i64 (0)), (.int .i64 (0))] ps) := abuild_struct _ _ T67
theorem fd67_0 : T.field 67 0 = some (⟨(.int .i64), 1, 8, (.int .i64 (0)), [], none⟩, 0) := by kernel_rfl
theorem fd67_1 : T.field 67 1 = some (⟨(.int .i64), 1, 8, (.int .i64 (0)), [], none⟩, 1) := by kernel_rfl
theorem fd67_2 : T.field 67 2 = some (⟨(.int .i64), 1, 8, (.int .i64 (0)), [], none⟩, 2) := by kernel_rfl
theorem el70 : T.elem 70 = some ⟨(.struct [(3, 0), (3, 1), (3, 2), (24, 3), (25, 4)]), 5, 72, (.agg [(.int .i64 (0)), (.int .i64 (0)), (.int .i64 (0)), .nils, .nils]), [], none⟩ := by kernel_rfl
theorem ln70 (g : Getter) (b q l c : Nat) (x : Bool) : alen T g 70 (.slice b q l c x) = some (.pure (.int .i64 l)) := alen_slice _ _ _ _ _ _ _ (by rw [el70]; rfl)
theorem lm70 (g : Getter) : alen T g 70 .nils = some (.pure (.int .i64 0)) := alen_nils _ _ (by rw [el70]; rfl)
theorem mp78 : T.mapOf 78 = some (82, ⟨(.int .i64), 1, 8, (.int .i64 (0)), [], none⟩) := by kernel_rfl
theorem bd79 (ps : List (Nat × AV)) : abuild T 79 ps = oag (fill (plf T 79) [(.int .i64 (0)), (.int .i64 (0)), (.int .i64 (0)), .nils, .nils, .nilm] ps) := abuild_struct _ _ T79
theorem fd79_0 : T.field 79 0 = some (⟨(.struct [(3, 0), (3, 1), (3, 2), (24, 3), (25, 4)]), 5, 72, (.agg [(.int .i64 (0)), (.int .i64 (0)), (.int .i64 (0)), .nils, .nils]), [], none⟩, 0) := by kernel_rfl
theorem fd79_1 : T.field 79 1 = some (⟨(.map 82 3), 1, 8, .nilm, [], none⟩, 5) := by kernel_rfl
theorem bd80 (ps : List (Nat × AV)) : abuild T 80 ps = oag (fill (plf T 80) [(.int .i64 (0)), (.int .i64 (0)), (.int .i64 (0)), .nils, .nils, .nilm] ps) := abuild_struct _ _ T80
theorem fd80_0 : T.field 80 0 = some (⟨(.struct [(3, 0), (3, 1), (3, 2), (24, 3), (25, 4)]), 5, 72, (.agg [(.int .i64 (0)), (.int .i64 (0)), (.int .i64 (0)), .nils, .nils]), [], none⟩, 0) := by kernel_rfl
theorem fd80_1 : T.field 80 1 = some (⟨(.map 82 3), 1, 8, .nilm, [], none⟩, 5) := by kernel_rfl
theorem bd81 (ps : List (Nat × AV)) : abuild T 81 ps = oag (fill (plf T 81) [(.int .i64 (0)), (.int .i64 (0))] ps) := abuild_struct _ _ T81
theorem fd81_0 : T.field 81 0 = some (⟨(.int .i64), 1, 8, (.int .i64 (0)), [], none⟩, 0) := by kernel_rfl
theorem fd81_1 : T.field 81 1 = some (⟨(.int .i64), 1, 8, (.int .i64 (0)), [], none⟩, 1) := by kernel_rfl
theorem bd82 (ps : List (Nat × AV)) : abuild T 82 ps = oag (fill (plf T 82) [(.int .i64 (0)), (.int .i64 (0))] ps) := abuild_struct _ _ T82
theorem fd82_0 : T.field 82 0 = some (⟨(.int .i64), 1, 8, (.int .i64 (0)), [], none⟩, 0) := by kernel_rfl
theorem fd82_1 : T.field 82 1 = some (⟨(.int .i64), 1, 8, (.int .i64 (0)), [], none⟩, 1) := by kernel_rfl
theorem bd84 (ps : List (Nat × AV)) : abuild T 84 ps = oag (fill (plf T 84) [(.int .i64 (0)), (.int .i64 (0))] ps) := abuild_struct _ _ T84
theorem fd84_0 : T.field 84 0 = some (⟨(.int .i64), 1, 8, (.int .i64 (0)), [], none⟩, 0) := by kernel_rfl
theorem fd84_1 : T.field 84 1 = some (⟨(.int .i64), 1, 8, (.int .i64 (0)), [], none⟩, 1) := by kernel_rfl
theorem bd85 (ps : List (Nat × AV)) : abuild T 85 ps = oag (fill (plf T 85) [(.int .i64 (0)), (.int .i64 (0))] ps) := abuild_struct _ _ T85
theorem fd85_0 : T.field 85 0 = some (⟨(.int .i64), 1, 8, (.int .i64 (0)), [], none⟩, 0) := by kernel_rfl
theorem fd85_1 : T.field 85 1 = some (⟨(.int .i64), 1, 8, (.int .i64 (0)), [], none⟩, 1) := by kernel_rfl
theorem ar95 : T.arr 95 = some (256, ⟨(.int .u8), 1, 1, (.int .u8 (0)), [], none⟩) := by kernel_rfl
theorem ix95 (b q : Nat) (k : IntKind) (i : Int) (h : 0 ≤ i ∧ i < 256) : aindexAddr T 95 (.ptr b q) (.int k i) = some (.pure (.ptr b (q + i.toNat * 1))) := aindexAddr_ptr _ _ _ _ _ _ _ ar95 h
theorem ar96 : T.arr 96 = some (256, ⟨(.int .u8), 1, 1, (.int .u8 (0)), [], none⟩) := by kernel_rfl
theorem ix96 (b q : Nat) (k : IntKind) (i : Int) (h : 0 ≤ i ∧ i < 256) : aindexAddr T 96 (.ptr b q) (.int k i) = some (.pure (.ptr b (q + i.toNat * 1))) := aindexAddr_ptr _ _ _ _ _ _ _ ar96 h
theorem el99 : T.elem 99 = some ⟨(.int .i64), 1, 8, (.int .i64 (0)), [], none⟩ := by kernel_rfl
theorem ln99 (g : Getter) (b q l c : Nat) (x : Bool) : alen T g 99 (.slice b q l c x) = some (.pure (.int .i64 l)) := alen_slice _ _ _ _ _ _ _ (by rw [el99]; rfl)
theorem lm99 (g : Getter) : alen T g 99 .nils = some (.pure (.int .i64 0)) := alen_nils _ _ (by rw [el99]; rfl)
theorem el103 : T.elem 103 = some ⟨(.slice 3), 1, 24, .nils, [], none⟩ := by kernel_rfl
theorem ln103 (g : Getter) (b q l c : Nat) (x : Bool) : alen T g 103 (.slice b q l c x) = some (.pure (.int .i64 l)) := alen_slice _ _ _ _ _ _ _ (by rw [el103]; rfl)
theorem lm103 (g : Getter) : alen T g 103 .nils = some (.pure (.int .i64 0)) := alen_nils _ _ (by rw [el103]; rfl)
theorem bd118 (ps : List (Nat × AV)) : abuild T 118 ps = oag (fill (plf T 118) [(.int .i64 (0)), (.int .i64 (0))] ps) := abuild_struct _ _ T118
theorem fd118_0 : T.field 118 0 = some (⟨(.int .i64), 1, 8, (.int .i64 (0)), [], none⟩, 0) := by kernel_rfl
theorem fd118_1 : T.field 118 1 = some (⟨(.int .i64), 1, 8, (.int .i64 (0)), [], none⟩, 1) := by kernel_rfl
theorem bd119 (ps : List (Nat × AV)) : abuild T 119 ps = oag (fill (plf T 119) [(.int .i64 (0)), (.int .i64 (0))] ps) := abuild_struct _ _ T119
theorem fd119_0 : T.field 119 0 = some (⟨(.int .i64), 1, 8, (.int .i64 (0)), [], none⟩, 0) := by kernel_rfl
theorem fd119_1 : T.field 119 1 = some (⟨(.int .i64), 1, 8, (.int .i64 (0)), [], none⟩, 1) := by kernel_rfl
theorem el120 : T.elem 120 = some ⟨(.struct [(3, 0), (3, 1)]), 2, 16, (.agg [(.int .i64 (0)), (.int .i64 (0))]), [], (some [some .i64, some .i64])⟩ := by kernel_rfl
theorem ln120 (g : Getter) (b q l c : Nat) (x : Bool) : alen T g 120 (.slice b q l c x) = some (.pure (.int .i64 l)) := alen_slice _ _ _ _ _ _ _ (by rw [el120]; rfl)
theorem lm120 (g : Getter) : alen T g 120 .nils = some (.pure (.int .i64 0)) := alen_nils _ _ (by rw [el120]; rfl)
theorem el121 : T.elem 121 = some ⟨(.struct [(3, 0), (3, 1)]), 2, 16, (.agg [(.int .i64 (0)), (.int .i64 (0))]), [], (some [some .i64, some .i64])⟩ := by kernel_rfl
theorem ln121 (g : Getter) (b q l c : Nat) (x : Bool) : alen T g 121 (.slice b q l c x) = some (.pure (.int .i64 l)) := alen_slice _ _ _ _ _ _ _ (by rw [el121]; rfl)
theorem lm121 (g : Getter) : alen T g 121 .nils = some (.pure (.int .i64 0)) := alen_nils _ _ (by rw [el121]; rfl)
theorem ar137 : T.arr 137 = some (0, ⟨(.ptr 139), 1, 8, .nilp, [], none⟩) := by kernel_rfl
theorem ix137 (b q : Nat) (k : IntKind) (i : Int) (h : 0 ≤ i ∧ i < 0) : aindexAddr T 137 (.ptr b q) (.int k i) = some (.pure (.ptr b (q + i.toNat * 1))) := aindexAddr_ptr _ _ _ _ _ _ _ ar137 h
theorem bd138 (ps : List (Nat × AV)) : abuild T 138 ps = oag (fill (plf T 138) [] ps) := abuild_struct _ _ T138
theorem fd138_0 : T.field 138 0 = some (⟨(.array 0 16), 0, 0, (.agg []), [], none⟩, 0) := by kernel_rfl
theorem bd139 (ps : List (Nat × AV)) : abuild T 139 ps = oag (fill (plf T 139) [] ps) := abuild_struct _ _ T139
theorem fd139_0 : T.field 139 0 = some (⟨(.array 0 16), 0, 0, (.agg []), [], none⟩, 0) := by kernel_rfl
theorem bd147 (ps : List (Nat × AV)) : abuild T 147 ps = oag (fill (plf T 147) [(.int .u64 (0)), (.int .u64 (0)), (.int .u32 (0)), (.int .u8 (0)), (.int .u8 (0)), (.int .u8 (0)), (.int .u8 (0)), .nilf, .nilp, (.int .i32 (0)), (.int .i32 (0))] ps) := abuild_struct _ _ T147
theorem fd147_0 : T.field 147 0 = some (⟨(.int .u64), 1, 8, (.int .u64 (0)), [], none⟩, 0) := by kernel_rfl
theorem fd147_1 : T.field 147 1 = some (⟨(.int .u64), 1, 8, (.int .u64 (0)), [], none⟩, 1) := by kernel_rfl
theorem fd147_2 : T.field 147 2 = some (⟨(.int .u32), 1, 4, (.int .u32 (0)), [], none⟩, 2) := by kernel_rfl
theorem fd147_3 : T.field 147 3 = some (⟨(.int .u8), 1, 1, (.int .u8 (0)), [], none⟩, 3) := by kernel_rfl
theorem fd147_4 : T.field 147 4 = some (⟨(.int .u8), 1, 1, (.int .u8 (0)), [], none⟩, 4) := by kernel_rfl
theorem fd147_5 : T.field 147 5 = some (⟨(.int .u8), 1, 1, (.int .u8 (0)), [], none⟩, 5) := by kernel_rfl
theorem fd147_6 : T.field 147 6 = some (⟨(.int .u8), 1, 1, (.int .u8 (0)), [], none⟩, 6) := by kernel_rfl
theorem fd147_7 : T.field 147 7 = some (⟨.func, 1, 8, .nilf, [], none⟩, 7) := by kernel_rfl
theorem fd147_8 : T.field 147 8 = some (⟨(.ptr 5), 1, 8, .nilp, [], none⟩, 8) := by kernel_rfl
theorem fd147_9 : T.field 147 9 = some (⟨(.int .i32), 1, 4, (.int .i32 (0)), [], none⟩, 9) := by kernel_rfl
theorem fd147_10 : T.field 147 10 = some (⟨(.int .i32), 1, 4, (.int .i32 (0)), [], none⟩, 10) := by kernel_rfl
theorem bd148 (ps : List (Nat × AV)) : abuild T 148 ps = oag (fill (plf T 148) [(.int .u64 (0)), (.int .u64 (0)), (.int .u32 (0)), (.int .u8 (0)), (.int .u8 (0)), (.int .u8 (0)), (.int .u8 (0)), .nilf, .nilp, (.int .i32 (0)), (.int .i32 (0))] ps) := abuild_struct _ _ T148
theorem fd148_0 : T.field 148 0 = some (⟨(.int .u64), 1, 8, (.int .u64 (0)), [], none⟩, 0) := by kernel_rfl
theorem fd148_1 : T.field 148 1 = some (⟨(.int .u64), 1, 8, (.int .u64 (0)), [], none⟩, 1) := by kernel_rfl
theorem fd148_2 : T.field 148 2 = some (⟨(.int .u32), 1, 4, (.int .u32 (0)), [], none⟩, 2) := by kernel_rfl
theorem fd148_3 : T.field 148 3 = some (⟨(.int .u8), 1, 1, (.int .u8 (0)), [], none⟩, 3) := by kernel_rfl
theorem fd148_4 : T.field 148 4 = some (⟨(.int .u8), 1, 1, (.int .u8 (0)), [], none⟩, 4) := by kernel_rfl
theorem fd148_5 : T.field 148 5 = some (⟨(.int .u8), 1, 1, (.int .u8 (0)), [], none⟩, 5) := by kernel_rfl
theorem fd148_6 : T.field 148 6 = some (⟨(.int .u8), 1, 1, (.int .u8 (0)), [], none⟩, 6) := by kernel_rfl
theorem fd148_7 : T.field 148 7 = some (⟨.func, 1, 8, .nilf, [], none⟩, 7) := by kernel_rfl
theorem fd148_8 : T.field 148 8 = some (⟨(.ptr 5), 1, 8, .nilp, [], none⟩, 8) := by kernel_rfl
theorem fd148_9 : T.field 148 9 = some (⟨(.int .i32), 1, 4, (.int .i32 (0)), [], none⟩, 9) := by kernel_rfl
theorem fd148_10 : T.field 148 10 = some (⟨(.int .i32), 1, 4, (.int .i32 (0)), [], none⟩, 10) := by kernel_rfl
theorem F2 : F.get 2 = some Try.f2 := by kernel_rfl
theorem F3 : F.get 3 = some Try.f3 := by kernel_rfl
theorem F4 : F.get 4 = some Try.f4 := by kernel_rfl
theorem F5 : F.get 5 = some Try.f5 := by kernel_rfl
theorem F6 : F.get 6 = some Try.f6 := by kernel_rfl
theorem F7 : F.get 7 = some Try.f7 := by kernel_rfl
theorem F8 : F.get 8 = some Try.f8 := by kernel_rfl
theorem F9 : F.get 9 = some Try.f9 := by kernel_rfl
theorem F10 : F.get 10 = some Try.f10 := by kernel_rfl
theorem F11 : F.get 11 = some Try.f11 := by kernel_rfl
theorem F12 : F.get 12 = some Try.f12 := by kernel_rfl
theorem F13 : F.get 13 = some Try.f13 := by kernel_rfl
theorem F14 : F.get 14 = some Try.f14 := by kernel_rfl
theorem F15 : F.get 15 = some Try.f15 := by kernel_rfl
theorem F16 : F.get 16 = some Try.f16 := by kernel_rfl
theorem F17 : F.get 17 = some Try.f17 := by kernel_rfl
theorem F18 : F.get 18 = some Try.f18 := by kernel_rfl
theorem F19 : F.get 19 = some Try.f19 := by kernel_rfl
theorem F20 : F.get 20 = some Try.f20 := by kernel_rfl
theorem F21 : F.get 21 = some Try.f21 := by kernel_rfl
theorem F22 : F.get 22 = some Try.f22 := by kernel_rfl
theorem F23 : F.get 23 = some Try.f23 := by kernel_rfl
theorem F24 : F.get 24 = some Try.f24 := by kernel_rfl
theorem F25 : F.get 25 = some Try.f25 := by kernel_rfl
theorem F26 : F.get 26 = some Try.f26 := by kernel_rfl
theorem F27 : F.get 27 = some Try.f27 := by kernel_rfl
theorem F28 : F.get 28 = some Try.f28 := by kernel_rfl
theorem F29 : F.get 29 = some Try.f29 := by kernel_rfl
theorem F30 : F.get 30 = some Try.f30 := by kernel_rfl
theorem F31 : F.get 31 = some Try.f31 := by kernel_rfl
theorem F32 : F.get 32 = some Try.f32 := by kernel_rfl
theorem F33 : F.get 33 = some Try.f33 := by kernel_rfl
theorem F34 : F.get 34 = some Try.f34 := by kernel_rfl
theorem F35 : F.get 35 = some Try.f35 := by kernel_rfl
theorem F36 : F.get 36 = some Try.f36 := by kernel_rfl
theorem F37 : F.get 37 = some Try.f37 := by kernel_rfl
theorem F38 : F.get 38 = some Try.f38 := by kernel_rfl
theorem F39 : F.get 39 = some Try.f39 := by kernel_rfl
theorem F40 : F.get 40 = some Try.f40 := by kernel_rfl
theorem F41 : F.get 41 = some Try.f41 := by kernel_rfl
theorem F42 : F.get 42 = some Try.f42 := by kernel_rfl
theorem F43 : F.get 43 = some Try.f43 := by kernel_rfl
theorem F44 : F.get 44 = some Try.f44 := by kernel_rfl
theorem F45 : F.get 45 = some Try.f45 := by kernel_rfl
theorem F46 : F.get 46 = some Try.f46 := by kernel_rfl
theorem F47 : F.get 47 = some Try.f47 := by kernel_rfl
theorem F48 : F.get 48 = some Try.f48 := by kernel_rfl
theorem F49 : F.get 49 = some Try.f49 := by kernel_rfl
theorem F50 : F.get 50 = some Try.f50 := by kernel_rfl
theorem F51 : F.get 51 = some Try.f51 := by kernel_rfl
theorem F52 : F.get 52 = some Try.f52 := by kernel_rfl
theorem F53 : F.get 53 = some Try.f53 := by kernel_rfl
theorem F54 : F.get 54 = some Try.f54 := by kernel_rfl
theorem F55 : F.get 55 = some Try.f55 := by kernel_rfl
theorem F56 : F.get 56 = some Try.f56 := by kernel_rfl
theorem F57 : F.get 57 = some Try.f57 := by kernel_rfl
theorem F58 : F.get 58 = some Try.f58 := by kernel_rfl
theorem F59 : F.get 59 = some Try.f59 := by kernel_rfl
theorem F60 : F.get 60 = some Try.f60 := by kernel_rfl
theorem F61 : F.get 61 = some Try.f61 := by kernel_rfl
theorem F62 : F.get 62 = some Try.f62 := by kernel_rfl
theorem F63 : F.get 63 = some Try.f63 := by kernel_rfl
theorem F64 : F.get 64 = some Try.f64 := by kernel_rfl
theorem F65 : F.get 65 = some Try.f65 := by kernel_rfl
theorem F66 : F.get 66 = some Try.f66 := by kernel_rfl
theorem F67 : F.get 67 = some Try.f67 := by kernel_rfl
theorem F68 : F.get 68 = some Try.f68 := by kernel_rfl
theorem F85 : F.get 85 = some Try.f85 := by kernel_rfl
theorem F86 : F.get 86 = some Try.f86 := by kernel_rfl
theorem F87 : F.get 87 = some Try.f87 := by kernel_rfl
theorem F88 : F.get 88 = some Try.f88 := by kernel_rfl
theorem F89 : F.get 89 = some Try.f89 := by kernel_rfl
theorem tG : T.G = 0 := rfl
theorem allRows : ∀ p ∈ rows, rowOf Try.prog names p.1 = some p.2 := by
  unfold rows
  simp only [List.mem_cons, List.not_mem_nil, or_false, forall_eq_or_imp, forall_eq]
  exact ⟨row1, row2, row3, row4, row5, row6, row7, row8, row12, row15, row16, row17, row18, row19, row20, row21, row22, row23, row24, row25, row26, row27, row28, row29, row30, row31, row32, row34, row36, row38, row39, row40, row41, row43, row44, row45, row46, row47, row48, row49, row50, row51, row52, row53, row54, row56, row57, row58, row59, row60, row61, row62, row63, row64, row65, row66, row67, row68, row69, row70, row71, row72, row73, row74, row75, row76, row78, row79, row80, row81, row82, row83, row84, row85, row86, row88, row89, row91, row92, row93, row94, row95, row96, row97, row98, row99, row100, row101, row102, row103, row104, row105, row106, row107, row108, row109, row110, row111, row112, row113, row114, row115, row116, row117, row118, row119, row120, row121, row122, row123, row124, row125, row126, row127, row128, row129, row130, row131, row132, row133, row134, row137, row138, row139, row140, row141, row142, row143, row144, row145, row146, row147, row148⟩
theorem allFns : ∀ p ∈ fns, Try.prog.funcs[p.1]? = some p.2 ∧ p.2.name ≠ "runtime.NumGoroutine" := by
  unfold fns
  simp only [List.mem_cons, List.not_mem_nil, or_false, forall_eq_or_imp, forall_eq]
  exact ⟨⟨Try.func2, by decide⟩, ⟨Try.func3, by decide⟩, ⟨Try.func4, by decide⟩, ⟨Try.func5, by decide⟩, ⟨Try.func6, by decide⟩, ⟨Try.func7, by decide⟩, ⟨Try.func8, by decide⟩, ⟨Try.func9, by decide⟩, ⟨Try.func10, by decide⟩, ⟨Try.func11, by decide⟩, ⟨Try.func12, by decide⟩, ⟨Try.func13, by decide⟩, ⟨Try.func14, by decide⟩, ⟨Try.func15, by decide⟩, ⟨Try.func16, by decide⟩, ⟨Try.func17, by decide⟩, ⟨Try.func18, by decide⟩, ⟨Try.func19, by decide⟩, ⟨Try.func20, by decide⟩, ⟨Try.func21, by decide⟩, ⟨Try.func22, by decide⟩, ⟨Try.func23, by decide⟩, ⟨Try.func24, by decide⟩, ⟨Try.func25, by decide⟩, ⟨Try.func26, by decide⟩, ⟨Try.func27, by decide⟩, ⟨Try.func28, by decide⟩, ⟨Try.func29, by decide⟩, ⟨Try.func30, by decide⟩, ⟨Try.func31, by decide⟩, ⟨Try.func32, by decide⟩, ⟨Try.func33, by decide⟩, ⟨Try.func34, by decide⟩, ⟨Try.func35, by decide⟩, ⟨Try.func36, by decide⟩, ⟨Try.func37, by decide⟩, ⟨Try.func38, by decide⟩, ⟨Try.func39, by decide⟩, ⟨Try.func40, by decide⟩, ⟨Try.func41, by decide⟩, ⟨Try.func42, by decide⟩, ⟨Try.func43, by decide⟩, ⟨Try.func44, by decide⟩, ⟨Try.func45, by decide⟩, ⟨Try.func46, by decide⟩, ⟨Try.func47, by decide⟩, ⟨Try.func48, by decide⟩, ⟨Try.func49, by decide⟩, ⟨Try.func50, by decide⟩, ⟨Try.func51, by decide⟩, ⟨Try.func52, by decide⟩, ⟨Try.func53, by decide⟩, ⟨Try.func54, by decide⟩, ⟨Try.func55, by decide⟩, ⟨Try.func56, by decide⟩, ⟨Try.func57, by decide⟩, ⟨Try.func58, by decide⟩, ⟨Try.func59, by decide⟩, ⟨Try.func60, by decide⟩, ⟨Try.func61, by decide⟩, ⟨Try.func62, by decide⟩, ⟨Try.func63, by decide⟩, ⟨Try.func64, by decide⟩, ⟨Try.func65, by decide⟩, ⟨Try.func66, by decide⟩, ⟨Try.func67, by decide⟩, ⟨Try.func68, by decide⟩, ⟨Try.func85, by decide⟩, ⟨Try.func86, by decide⟩, ⟨Try.func87, by decide⟩, ⟨Try.func88, by decide⟩, ⟨Try.func89, by decide⟩⟩
theorem tok : TOk Try.prog T F := by rw [T_eq, F_eq]; exact tok_of allRows allFns (by kernel_rfl)
attribute [go_sem] T1 T2 T3 T4 T5 T6 T7 T8 T12 T15 T16 T17 T18 T19 T20 T21 T22 T23 T24 T25 T26 T27 T28 T29 T30 T31 T32 T34 T36 T38 T39 T40 T41 T43 T44 T45 T46 T47 T48 T49 T50 T51 T52 T53 T54 T56 T57 T58 T59 T60 T61 T62 T63 T64 T65 T66 T67 T68 T69 T70 T71 T72 T73 T74 T75 T76 T78 T79 T80 T81 T82 T83 T84 T85 T86 T88 T89 T91 T92 T93 T94 T95 T96 T97 T98 T99 T100 T101 T102 T103 T104 T105 T106 T107 T108 T109 T110 T111 T112 T113 T114 T115 T116 T117 T118 T119 T120 T121 T122 T123 T124 T125 T126 T127 T128 T129 T130 T131 T132 T133 T134 T137 T138 T139 T140 T141 T142 T143 T144 T145 T146 T147 T148 bd7 fd7_0 fd7_1 fd7_2 fd7_3 bd8 fd8_0 fd8_1 fd8_2 fd8_3 bd18 fd18_0 bd19 fd19_0 bd22 fd22_0 fd22_1 fd22_2 fd22_3 fd22_4 bd23 fd23_0 fd23_1 fd23_2 fd23_3 fd23_4 el24 ln24 lm24 el25 ln25 lm25 bd26 fd26_0 fd26_1 fd26_2 fd26_3 fd26_4 bd27 fd27_0 fd27_1 fd27_2 fd27_3 fd27_4 el28 ln28 lm28 el31 ln31 lm31 bd47 fd47_0 fd47_1 bd48 fd48_0 fd48_1 bd50 fd50_0 fd50_1 fd50_2 el51 ln51 lm51 el57 ln57 lm57 bd61 fd61_0 fd61_1 fd61_2 bd62 fd62_0 fd62_1 fd62_2 bd66 fd66_0 fd66_1 fd66_2 bd67 fd67_0 fd67_1 fd67_2 el70 ln70 lm70 mp78 bd79 fd79_0 fd79_1 bd80 fd80_0 fd80_1 bd81 fd81_0 fd81_1 bd82 fd82_0 fd82_1 bd84 fd84_0 fd84_1 bd85 fd85_0 fd85_1 ar95 ix95 ar96 ix96 el99 ln99 lm99 el103 ln103 lm103 bd118 fd118_0 fd118_1 bd119 fd119_0 fd119_1 el120 ln120 lm120 el121 ln121 lm121 ar137 ix137 bd138 fd138_0 bd139 fd139_0 bd147 fd147_0 fd147_1 fd147_2 fd147_3 fd147_4 fd147_5 fd147_6 fd147_7 fd147_8 fd147_9 fd147_10 bd148 fd148_0 fd148_1 fd148_2 fd148_3 fd148_4 fd148_5 fd148_6 fd148_7 fd148_8 fd148_9 fd148_10
end Go.Ai.Lp
