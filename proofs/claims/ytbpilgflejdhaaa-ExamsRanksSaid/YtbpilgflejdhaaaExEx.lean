/- Exams: the chapter's example, reckoned. -/
import Derived.Test.YtbpilgflejdhaaaExPl
namespace Go.Proofs.Ytbpilgflejdhaaa
open Go.RowKit
def exP : Paper := ⟨[⟨2, 10⟩, ⟨1, 20⟩], [⟨0, 1, 1, [7, 15]⟩, ⟨-1, 0, 0, [6, 13]⟩, ⟨0, 0, 1, [3, 14]⟩], 1, [20, 30]⟩
set_option maxRecDepth 100000 in
theorem ex_range : rangeM exP = ((25, 28), 0) := by decide +kernel
set_option maxRecDepth 100000 in
theorem ex_blame : blameM exP = ([2], 0) := by decide +kernel
set_option maxRecDepth 100000 in
theorem ex_known : knownE exP (wi 1 0 5) = 0 := by decide +kernel
set_option maxRecDepth 100000 in
theorem ex_next : bestTo (openM exP) 1 exP.items.length = (0, 3) := by decide +kernel
end Go.Proofs.Ytbpilgflejdhaaa
