/- The chapter's closed law, by the kernel. -/
import Derived.Test.YtcgafaecdjbmiaaAbsY
import Derived.Test.YtcgafaecdjbmiaaProg
namespace Go.Proofs.Ytcgafaecdjbmiaa
open Go Go.YtcgafaecdjbmiaaAbs Go.RowKit
theorem mixed : Try.prog.follows .mixedOrders = true := by kernel_rfl
set_option maxRecDepth 100000 in
theorem run : ((acall Try.prog 3000000 3 [] Heap.none).map fun r => sameAV r.1 (.bool true)) = some true := by kernel_rfl
theorem runs_ok : ∀ w, Calls Try.prog 3 #[] w fun e w' => e = .returned (.bool true) ∧ Below w.heap.size w w' := fun w => closed_call mixed run w
end Go.Proofs.Ytcgafaecdjbmiaa
