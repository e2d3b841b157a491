/- Contracts of the functions that the law reaches, over the abstract machine. -/
import Derived.Test.YtangdhaihhgjkaaMachC
import Derived.Test.YtangdhaihhgjkaaProg
import Derived.Test.YtangdhaihhgjkaaMachA
import Derived.Test.YtangdhaihhgjkaaMachB
import Derived.Test.YtangdhaihhgjkaaMachD
/- The chapter's closed law, by the kernel. -/
namespace Go.Proofs.Ytangdhaihhgjkaa
open Go Go.YtangdhaihhgjkaaAbs Go.RowKit
theorem mixed : Try.prog.follows .mixedOrders = true := by kernel_rfl
set_option maxRecDepth 100000 in
theorem run : ((acall Try.prog 3000000 3 [] Heap.none).map fun r => sameAV r.1 (.bool true)) = some true := by kernel_rfl
theorem runs_ok : ∀ w, Calls Try.prog 3 #[] w fun e w' => e = .returned (.bool true) ∧ Below w.heap.size w w' := fun w => closed_call mixed run w
end Go.Proofs.Ytangdhaihhgjkaa
/- Facts on the seat's types and functions, for stepping. -/
namespace Go.Proofs.Ytangdhaihhgjkaa
open Go Go.YtangdhaihhgjkaaAbs
def zz80 : List AV := List.replicate 510 (.int .u8 0)
@[simp] theorem zz80_one : zz80.all AV.one = true := by decide +kernel
@[simp] theorem zz80_len : zz80.length = 510 := by decide +kernel
def zz81 : List AV := List.replicate 256 (.int .u8 0)
@[simp] theorem zz81_one : zz81.all AV.one = true := by decide +kernel
@[simp] theorem zz81_len : zz81.length = 256 := by decide +kernel
def zz82 : List AV := List.replicate 766 (.int .u8 0)
@[simp] theorem zz82_one : zz82.all AV.one = true := by decide +kernel
@[simp] theorem zz82_len : zz82.length = 766 := by decide +kernel
def zz83 : List AV := List.replicate 766 (.int .u8 0)
@[simp] theorem zz83_one : zz83.all AV.one = true := by decide +kernel
@[simp] theorem zz83_len : zz83.length = 766 := by decide +kernel
def zz86 : List AV := [(.int .i64 0), (.int .i64 0), (.int .u8 0), (.int .u8 0), (.int .u8 0), (.int .u8 0), (.int .u8 0), (.int .u8 0), (.int .u8 0), (.int .u8 0), (.int .u8 0), (.int .u8 0), (.int .u8 0), (.int .u8 0), (.int .u8 0), (.int .u8 0), (.int .u8 0), (.int .u8 0), (.int .u8 0), (.int .u8 0), (.int .u8 0), (.int .u8 0), (.int .u8 0), (.int .u8 0), (.int .u8 0), (.int .u8 0), (.int .u8 0), (.int .u8 0), (.int .u8 0), (.int .u8 0), (.int .u8 0), (.int .u8 0), (.int .u8 0), (.int .u8 0), (.int .u8 0), (.int .u8 0), (.int .u8 0), (.int .u8 0), (.int .u8 0), (.int .u8 0), (.int .u8 0), (.int .u8 0), (.int .u8 0), (.int .u8 0), (.int .u8 0), (.int .u8 0), (.int .u8 0), (.int .u8 0), (.int .u8 0), (.int .u8 0), (.int .u8 0), (.int .u8 0), (.int .u8 0), (.int .u8 0), (.int .u8 0), (.int .u8 0), (.int .u8 0), (.int .u8 0), (.int .u8 0), (.int .u8 0), (.int .u8 0), (.int .u8 0), (.int .u8 0), (.int .u8 0), (.int .u8 0), (.int .u8 0), (.int .u8 0), (.int .u8 0), (.int .u8 0), (.int .u8 0), (.int .u8 0), (.int .u8 0), (.int .u8 0), (.int .u8 0), (.int .u8 0), (.int .u8 0), (.int .u8 0), (.int .u8 0), (.int .u8 0), (.int .u8 0), (.int .u8 0), (.int .u8 0), (.int .u8 0), (.int .u8 0), (.int .u8 0), (.int .u8 0), (.int .u8 0), (.int .u8 0), (.int .u8 0), (.int .u8 0), (.int .u8 0), (.int .u8 0), (.int .u8 0), (.int .u8 0), (.int .u8 0), (.int .u8 0), (.int .u8 0), (.int .u8 0), (.int .u8 0), (.int .u8 0), (.int .u8 0), (.int .u8 0), (.int .u8 0), (.int .u8 0), (.int .u8 0), (.int .u8 0), (.int .u8 0), (.int .u8 0), (.int .u8 0), (.int .u8 0), (.int .u8 0), (.int .u8 0), (.int .u8 0), (.int .u8 0), (.int .u8 0), (.int .u8 0), (.int .u8 0), (.int .u8 0), (.int .u8 0), (.int .u8 0), (.int .u8 0), (.int .u8 0), (.int .u8 0), (.int .u8 0), (.int .u8 0), (.int .u8 0), (.int .u8 0), (.int .u8 0), (.int .u8 0), (.int .u8 0), (.int .u8 0), (.int .u8 0), (.int .u8 0), (.int .u8 0), (.int .u8 0), (.int .u8 0), (.int .u8 0), (.int .u8 0), (.int .u8 0), (.int .u8 0), (.int .u8 0), (.int .u8 0), (.int .u8 0), (.int .u8 0), (.int .u8 0), (.int .u8 0), (.int .u8 0), (.int .u8 0), (.int .u8 0), (.int .u8 0), (.int .u8 0), (.int .u8 0), (.int .u8 0), (.int .u8 0), (.int .u8 0), (.int .u8 0), (.int .u8 0), (.int .u8 0), (.int .u8 0), (.int .u8 0), (.int .u8 0), (.int .u8 0), (.int .u8 0), (.int .u8 0), (.int .u8 0), (.int .u8 0), (.int .u8 0), (.int .u8 0), (.int .u8 0), (.int .u8 0), (.int .u8 0), (.int .u8 0), (.int .u8 0), (.int .u8 0), (.int .u8 0), (.int .u8 0), (.int .u8 0), (.int .u8 0), (.int .u8 0), (.int .u8 0), (.int .u8 0), (.int .u8 0), (.int .u8 0), (.int .u8 0), (.int .u8 0), (.int .u8 0), (.int .u8 0), (.int .u8 0), (.int .u8 0), (.int .u8 0), (.int .u8 0), (.int .u8 0), (.int .u8 0), (.int .u8 0), (.int .u8 0), (.int .u8 0), (.int .u8 0), (.int .u8 0), (.int .u8 0), (.int .u8 0), (.int .u8 0), (.int .u8 0), (.int .u8 0), (.int .u8 0), (.int .u8 0), (.int .u8 0), (.int .u8 0), (.int .u8 0), (.int .u8 0), (.int .u8 0), (.int .u8 0), (.int .u8 0), (.int .u8 0), (.int .u8 0), (.int .u8 0), (.int .u8 0), (.int .u8 0), (.int .u8 0), (.int .u8 0), (.int .u8 0), (.int .u8 0), (.int .u8 0), (.int .u8 0), (.int .u8 0), (.int .u8 0), (.int .u8 0), (.int .u8 0), (.int .u8 0), (.int .u8 0), (.int .u8 0), (.int .u8 0), (.int .u8 0), (.int .u8 0), (.int .u8 0), (.int .u8 0), (.int .u8 0), (.int .u8 0), (.int .u8 0), (.int .u8 0), (.int .u8 0), (.int .u8 0), (.int .u8 0), (.int .u8 0), (.int .u8 0), (.int .u8 0), (.int .u8 0), (.int .u8 0), (.int .u8 0), (.int .u8 0), (.int .u8 0), (.int .u8 0), (.int .u8 0), (.int .u8 0), (.int .u8 0), (.int .u8 0), (.int .u8 0), (.int .u8 0), (.int .u8 0), (.int .u8 0), (.int .u8 0), (.int .u8 0), (.int .u8 0), (.int .u8 0), (.int .u8 0), (.int .u8 0), (.int .u8 0), (.int .u8 0), (.int .u8 0), (.int .u8 0), (.int .u8 0), (.int .u8 0), (.int .u8 0), (.int .u8 0), (.int .u8 0), (.int .u8 0), (.int .u8 0), (.int .u8 0), (.int .u8 0), (.int .u8 0), (.int .u8 0), (.int .u8 0), (.int .u8 0), (.int .u8 0), (.int .u8 0), (.int .u8 0), (.int .u8 0), (.int .u8 0), (.int .u8 0), (.int .u8 0), (.int .u8 0), (.int .u8 0), (.int .u8 0), (.int .u8 0), (.int .u8 0), (.int .u8 0), (.int .u8 0), (.int .u8 0), (.int .u8 0), (.int .u8 0), (.int .u8 0), (.int .u8 0), (.int .u8 0), (.int .u8 0), (.int .u8 0), (.int .u8 0), (.int .u8 0), (.int .u8 0), (.int .u8 0), (.int .u8 0), (.int .u8 0), (.int .u8 0), (.int .u8 0), (.int .u8 0), (.int .u8 0), (.int .u8 0), (.int .u8 0), (.int .u8 0), (.int .u8 0), (.int .u8 0), (.int .u8 0), (.int .u8 0), (.int .u8 0), (.int .u8 0), (.int .u8 0), (.int .u8 0), (.int .u8 0), (.int .u8 0), (.int .u8 0), (.int .u8 0), (.int .u8 0), (.int .u8 0), (.int .u8 0), (.int .u8 0), (.int .u8 0), (.int .u8 0), (.int .u8 0), (.int .u8 0), (.int .u8 0), (.int .u8 0), (.int .u8 0), (.int .u8 0), (.int .u8 0), (.int .u8 0), (.int .u8 0), (.int .u8 0), (.int .u8 0), (.int .u8 0), (.int .u8 0), (.int .u8 0), (.int .u8 0), (.int .u8 0), (.int .u8 0), (.int .u8 0), (.int .u8 0), (.int .u8 0), (.int .u8 0), (.int .u8 0), (.int .u8 0), (.int .u8 0), (.int .u8 0), (.int .u8 0), (.int .u8 0), (.int .u8 0), (.int .u8 0), (.int .u8 0), (.int .u8 0), (.int .u8 0), (.int .u8 0), (.int .u8 0), (.int .u8 0), (.int .u8 0), (.int .u8 0), (.int .u8 0), (.int .u8 0), (.int .u8 0), (.int .u8 0), (.int .u8 0), (.int .u8 0), (.int .u8 0), (.int .u8 0), (.int .u8 0), (.int .u8 0), (.int .u8 0), (.int .u8 0), (.int .u8 0), (.int .u8 0), (.int .u8 0), (.int .u8 0), (.int .u8 0), (.int .u8 0), (.int .u8 0), (.int .u8 0), (.int .u8 0), (.int .u8 0), (.int .u8 0), (.int .u8 0), (.int .u8 0), (.int .u8 0), (.int .u8 0), (.int .u8 0), (.int .u8 0), (.int .u8 0), (.int .u8 0), (.int .u8 0), (.int .u8 0), (.int .u8 0), (.int .u8 0), (.int .u8 0), (.int .u8 0), (.int .u8 0), (.int .u8 0), (.int .u8 0), (.int .u8 0), (.int .u8 0), (.int .u8 0), (.int .u8 0), (.int .u8 0), (.int .u8 0), (.int .u8 0), (.int .u8 0), (.int .u8 0), (.int .u8 0), (.int .u8 0), (.int .u8 0), (.int .u8 0), (.int .u8 0), (.int .u8 0), (.int .u8 0), (.int .u8 0), (.int .u8 0), (.int .u8 0), (.int .u8 0), (.int .u8 0), (.int .u8 0), (.int .u8 0), (.int .u8 0), (.int .u8 0), (.int .u8 0), (.int .u8 0), (.int .u8 0), (.int .u8 0), (.int .u8 0), (.int .u8 0), (.int .u8 0), (.int .u8 0), (.int .u8 0), (.int .u8 0), (.int .u8 0), (.int .u8 0), (.int .u8 0), (.int .u8 0), (.int .u8 0), (.int .u8 0), (.int .u8 0), (.int .u8 0), (.int .u8 0), (.int .u8 0), (.int .u8 0), (.int .u8 0), (.int .u8 0), (.int .u8 0), (.int .u8 0), (.int .u8 0), (.int .u8 0), (.int .u8 0), (.int .u8 0), (.int .u8 0), (.int .u8 0), (.int .u8 0), (.int .u8 0), (.int .u8 0), (.int .u8 0), (.int .u8 0), (.int .u8 0), (.int .u8 0), (.int .u8 0), (.int .u8 0), (.int .u8 0), (.int .u8 0), (.int .u8 0), (.int .u8 0), (.int .u8 0), (.int .u8 0), (.int .u8 0), (.int .u8 0), (.int .u8 0), (.int .u8 0), (.int .u8 0), (.int .u8 0), (.int .u8 0), (.int .u8 0), (.int .u8 0), (.int .u8 0), (.int .u8 0), (.int .u8 0), (.int .u8 0), (.int .u8 0), (.int .u8 0), (.int .u8 0), (.int .u8 0), (.int .u8 0), (.int .u8 0), (.int .u8 0), (.int .u8 0), (.int .u8 0), (.int .u8 0), (.int .u8 0), (.int .u8 0), (.int .u8 0), (.int .u8 0), (.int .u8 0), (.int .u8 0), (.int .u8 0), (.int .u8 0), (.int .u8 0), (.int .u8 0), (.int .u8 0), (.int .u8 0), (.int .u8 0), (.int .u8 0), (.int .u8 0), (.int .u8 0), (.int .u8 0), (.int .u8 0), (.int .u8 0), (.int .u8 0), (.int .u8 0), (.int .u8 0), (.int .u8 0), (.int .u8 0), (.int .u8 0), (.int .u8 0), (.int .u8 0), (.int .u8 0), (.int .u8 0), (.int .u8 0), (.int .u8 0), (.int .u8 0), (.int .u8 0), (.int .u8 0), (.int .u8 0), (.int .u8 0), (.int .u8 0), (.int .u8 0), (.int .u8 0), (.int .u8 0), (.int .u8 0), (.int .u8 0), (.int .u8 0), (.int .u8 0), (.int .u8 0), (.int .u8 0), (.int .u8 0), (.int .u8 0), (.int .u8 0), (.int .u8 0), (.int .u8 0), (.int .u8 0), (.int .u8 0), (.int .u8 0), (.int .u8 0), (.int .u8 0), (.int .u8 0), (.int .u8 0), (.int .u8 0), (.int .u8 0), (.int .u8 0), (.int .u8 0), (.int .u8 0), (.int .u8 0), (.int .u8 0), (.int .u8 0), (.int .u8 0), (.int .u8 0), (.int .u8 0), (.int .u8 0), (.int .u8 0), (.int .u8 0), (.int .u8 0), (.int .u8 0), (.int .u8 0), (.int .u8 0), (.int .u8 0), (.int .u8 0), (.int .u8 0), (.int .u8 0), (.int .u8 0), (.int .u8 0), (.int .u8 0), (.int .u8 0), (.int .u8 0), (.int .u8 0), (.int .u8 0), (.int .u8 0), (.int .u8 0), (.int .u8 0), (.int .u8 0), (.int .u8 0), (.int .u8 0), (.int .u8 0), (.int .u8 0), (.int .u8 0), (.int .u8 0), (.int .u8 0), (.int .u8 0), (.int .u8 0), (.int .u8 0), (.int .u8 0), (.int .u8 0), (.int .u8 0), (.int .u8 0), (.int .u8 0), (.int .u8 0), (.int .u8 0), (.int .u8 0), (.int .u8 0), (.int .u8 0), (.int .u8 0), (.int .u8 0), (.int .u8 0), (.int .u8 0), (.int .u8 0), (.int .u8 0), (.int .u8 0), (.int .u8 0), (.int .u8 0), (.int .u8 0), (.int .u8 0), (.int .u8 0), (.int .u8 0), (.int .u8 0), (.int .u8 0), (.int .u8 0), (.int .u8 0), (.int .u8 0), (.int .u8 0), (.int .u8 0), (.int .u8 0), (.int .u8 0), (.int .u8 0), (.int .u8 0), (.int .u8 0), (.int .u8 0), (.int .u8 0), (.int .u8 0), (.int .u8 0), (.int .u8 0), (.int .u8 0), (.int .u8 0), (.int .u8 0), (.int .u8 0), (.int .u8 0), (.int .u8 0), (.int .u8 0), (.int .u8 0), (.int .u8 0), (.int .u8 0), (.int .u8 0), (.int .u8 0), (.int .u8 0), (.int .u8 0), (.int .u8 0), (.int .u8 0), (.int .u8 0), (.int .u8 0), (.int .u8 0), (.int .u8 0), (.int .u8 0), (.int .u8 0), (.int .u8 0), (.int .u8 0), (.int .u8 0), (.int .u8 0), (.int .u8 0), (.int .u8 0), (.int .u8 0), (.int .u8 0), (.int .u8 0), (.int .u8 0), (.int .u8 0), (.int .u8 0), (.int .u8 0), (.int .u8 0), (.int .u8 0), (.int .u8 0), (.int .u8 0), (.int .u8 0), (.int .u8 0), (.int .u8 0), (.int .u8 0), (.int .u8 0), (.int .u8 0), (.int .u8 0), (.int .u8 0), (.int .u8 0), (.int .u8 0), (.int .u8 0), (.int .u8 0), (.int .u8 0), (.int .u8 0), (.int .u8 0), (.int .u8 0), (.int .u8 0), (.int .u8 0), (.int .u8 0), (.int .u8 0), (.int .u8 0), (.int .u8 0), (.int .u8 0), (.int .u8 0), (.int .u8 0), (.int .u8 0), (.int .u8 0), (.int .u8 0), (.int .u8 0), (.int .u8 0), (.int .u8 0), (.int .u8 0), (.int .u8 0), (.int .u8 0), (.int .u8 0), (.int .u8 0), (.int .u8 0), (.int .u8 0), (.int .u8 0), (.int .u8 0), (.int .u8 0), (.int .u8 0), (.int .u8 0), (.int .u8 0), (.int .u8 0), (.int .u8 0), (.int .u8 0), (.int .u8 0), (.int .u8 0), (.int .u8 0), (.int .u8 0), (.int .u8 0), (.int .u8 0), (.int .u8 0), (.int .u8 0), (.int .u8 0), (.int .u8 0), (.int .u8 0), (.int .u8 0), (.int .u8 0), (.int .u8 0), (.int .u8 0), (.int .u8 0), (.int .u8 0), (.int .u8 0), (.int .u8 0), (.int .u8 0), (.int .u8 0), (.int .u8 0), (.int .u8 0), (.int .u8 0), (.int .u8 0), (.int .u8 0), (.int .u8 0), (.int .u8 0), (.int .u8 0), (.int .u8 0), (.int .u8 0), (.int .u8 0), (.int .u8 0), (.int .u8 0), (.int .u8 0), (.nils)]
@[simp] theorem zz86_one : zz86.all AV.one = true := by decide +kernel
@[simp] theorem zz86_len : zz86.length = 769 := by decide +kernel
def zz87 : List AV := [(.int .i64 0), (.int .i64 0), (.int .u8 0), (.int .u8 0), (.int .u8 0), (.int .u8 0), (.int .u8 0), (.int .u8 0), (.int .u8 0), (.int .u8 0), (.int .u8 0), (.int .u8 0), (.int .u8 0), (.int .u8 0), (.int .u8 0), (.int .u8 0), (.int .u8 0), (.int .u8 0), (.int .u8 0), (.int .u8 0), (.int .u8 0), (.int .u8 0), (.int .u8 0), (.int .u8 0), (.int .u8 0), (.int .u8 0), (.int .u8 0), (.int .u8 0), (.int .u8 0), (.int .u8 0), (.int .u8 0), (.int .u8 0), (.int .u8 0), (.int .u8 0), (.int .u8 0), (.int .u8 0), (.int .u8 0), (.int .u8 0), (.int .u8 0), (.int .u8 0), (.int .u8 0), (.int .u8 0), (.int .u8 0), (.int .u8 0), (.int .u8 0), (.int .u8 0), (.int .u8 0), (.int .u8 0), (.int .u8 0), (.int .u8 0), (.int .u8 0), (.int .u8 0), (.int .u8 0), (.int .u8 0), (.int .u8 0), (.int .u8 0), (.int .u8 0), (.int .u8 0), (.int .u8 0), (.int .u8 0), (.int .u8 0), (.int .u8 0), (.int .u8 0), (.int .u8 0), (.int .u8 0), (.int .u8 0), (.int .u8 0), (.int .u8 0), (.int .u8 0), (.int .u8 0), (.int .u8 0), (.int .u8 0), (.int .u8 0), (.int .u8 0), (.int .u8 0), (.int .u8 0), (.int .u8 0), (.int .u8 0), (.int .u8 0), (.int .u8 0), (.int .u8 0), (.int .u8 0), (.int .u8 0), (.int .u8 0), (.int .u8 0), (.int .u8 0), (.int .u8 0), (.int .u8 0), (.int .u8 0), (.int .u8 0), (.int .u8 0), (.int .u8 0), (.int .u8 0), (.int .u8 0), (.int .u8 0), (.int .u8 0), (.int .u8 0), (.int .u8 0), (.int .u8 0), (.int .u8 0), (.int .u8 0), (.int .u8 0), (.int .u8 0), (.int .u8 0), (.int .u8 0), (.int .u8 0), (.int .u8 0), (.int .u8 0), (.int .u8 0), (.int .u8 0), (.int .u8 0), (.int .u8 0), (.int .u8 0), (.int .u8 0), (.int .u8 0), (.int .u8 0), (.int .u8 0), (.int .u8 0), (.int .u8 0), (.int .u8 0), (.int .u8 0), (.int .u8 0), (.int .u8 0), (.int .u8 0), (.int .u8 0), (.int .u8 0), (.int .u8 0), (.int .u8 0), (.int .u8 0), (.int .u8 0), (.int .u8 0), (.int .u8 0), (.int .u8 0), (.int .u8 0), (.int .u8 0), (.int .u8 0), (.int .u8 0), (.int .u8 0), (.int .u8 0), (.int .u8 0), (.int .u8 0), (.int .u8 0), (.int .u8 0), (.int .u8 0), (.int .u8 0), (.int .u8 0), (.int .u8 0), (.int .u8 0), (.int .u8 0), (.int .u8 0), (.int .u8 0), (.int .u8 0), (.int .u8 0), (.int .u8 0), (.int .u8 0), (.int .u8 0), (.int .u8 0), (.int .u8 0), (.int .u8 0), (.int .u8 0), (.int .u8 0), (.int .u8 0), (.int .u8 0), (.int .u8 0), (.int .u8 0), (.int .u8 0), (.int .u8 0), (.int .u8 0), (.int .u8 0), (.int .u8 0), (.int .u8 0), (.int .u8 0), (.int .u8 0), (.int .u8 0), (.int .u8 0), (.int .u8 0), (.int .u8 0), (.int .u8 0), (.int .u8 0), (.int .u8 0), (.int .u8 0), (.int .u8 0), (.int .u8 0), (.int .u8 0), (.int .u8 0), (.int .u8 0), (.int .u8 0), (.int .u8 0), (.int .u8 0), (.int .u8 0), (.int .u8 0), (.int .u8 0), (.int .u8 0), (.int .u8 0), (.int .u8 0), (.int .u8 0), (.int .u8 0), (.int .u8 0), (.int .u8 0), (.int .u8 0), (.int .u8 0), (.int .u8 0), (.int .u8 0), (.int .u8 0), (.int .u8 0), (.int .u8 0), (.int .u8 0), (.int .u8 0), (.int .u8 0), (.int .u8 0), (.int .u8 0), (.int .u8 0), (.int .u8 0), (.int .u8 0), (.int .u8 0), (.int .u8 0), (.int .u8 0), (.int .u8 0), (.int .u8 0), (.int .u8 0), (.int .u8 0), (.int .u8 0), (.int .u8 0), (.int .u8 0), (.int .u8 0), (.int .u8 0), (.int .u8 0), (.int .u8 0), (.int .u8 0), (.int .u8 0), (.int .u8 0), (.int .u8 0), (.int .u8 0), (.int .u8 0), (.int .u8 0), (.int .u8 0), (.int .u8 0), (.int .u8 0), (.int .u8 0), (.int .u8 0), (.int .u8 0), (.int .u8 0), (.int .u8 0), (.int .u8 0), (.int .u8 0), (.int .u8 0), (.int .u8 0), (.int .u8 0), (.int .u8 0), (.int .u8 0), (.int .u8 0), (.int .u8 0), (.int .u8 0), (.int .u8 0), (.int .u8 0), (.int .u8 0), (.int .u8 0), (.int .u8 0), (.int .u8 0), (.int .u8 0), (.int .u8 0), (.int .u8 0), (.int .u8 0), (.int .u8 0), (.int .u8 0), (.int .u8 0), (.int .u8 0), (.int .u8 0), (.int .u8 0), (.int .u8 0), (.int .u8 0), (.int .u8 0), (.int .u8 0), (.int .u8 0), (.int .u8 0), (.int .u8 0), (.int .u8 0), (.int .u8 0), (.int .u8 0), (.int .u8 0), (.int .u8 0), (.int .u8 0), (.int .u8 0), (.int .u8 0), (.int .u8 0), (.int .u8 0), (.int .u8 0), (.int .u8 0), (.int .u8 0), (.int .u8 0), (.int .u8 0), (.int .u8 0), (.int .u8 0), (.int .u8 0), (.int .u8 0), (.int .u8 0), (.int .u8 0), (.int .u8 0), (.int .u8 0), (.int .u8 0), (.int .u8 0), (.int .u8 0), (.int .u8 0), (.int .u8 0), (.int .u8 0), (.int .u8 0), (.int .u8 0), (.int .u8 0), (.int .u8 0), (.int .u8 0), (.int .u8 0), (.int .u8 0), (.int .u8 0), (.int .u8 0), (.int .u8 0), (.int .u8 0), (.int .u8 0), (.int .u8 0), (.int .u8 0), (.int .u8 0), (.int .u8 0), (.int .u8 0), (.int .u8 0), (.int .u8 0), (.int .u8 0), (.int .u8 0), (.int .u8 0), (.int .u8 0), (.int .u8 0), (.int .u8 0), (.int .u8 0), (.int .u8 0), (.int .u8 0), (.int .u8 0), (.int .u8 0), (.int .u8 0), (.int .u8 0), (.int .u8 0), (.int .u8 0), (.int .u8 0), (.int .u8 0), (.int .u8 0), (.int .u8 0), (.int .u8 0), (.int .u8 0), (.int .u8 0), (.int .u8 0), (.int .u8 0), (.int .u8 0), (.int .u8 0), (.int .u8 0), (.int .u8 0), (.int .u8 0), (.int .u8 0), (.int .u8 0), (.int .u8 0), (.int .u8 0), (.int .u8 0), (.int .u8 0), (.int .u8 0), (.int .u8 0), (.int .u8 0), (.int .u8 0), (.int .u8 0), (.int .u8 0), (.int .u8 0), (.int .u8 0), (.int .u8 0), (.int .u8 0), (.int .u8 0), (.int .u8 0), (.int .u8 0), (.int .u8 0), (.int .u8 0), (.int .u8 0), (.int .u8 0), (.int .u8 0), (.int .u8 0), (.int .u8 0), (.int .u8 0), (.int .u8 0), (.int .u8 0), (.int .u8 0), (.int .u8 0), (.int .u8 0), (.int .u8 0), (.int .u8 0), (.int .u8 0), (.int .u8 0), (.int .u8 0), (.int .u8 0), (.int .u8 0), (.int .u8 0), (.int .u8 0), (.int .u8 0), (.int .u8 0), (.int .u8 0), (.int .u8 0), (.int .u8 0), (.int .u8 0), (.int .u8 0), (.int .u8 0), (.int .u8 0), (.int .u8 0), (.int .u8 0), (.int .u8 0), (.int .u8 0), (.int .u8 0), (.int .u8 0), (.int .u8 0), (.int .u8 0), (.int .u8 0), (.int .u8 0), (.int .u8 0), (.int .u8 0), (.int .u8 0), (.int .u8 0), (.int .u8 0), (.int .u8 0), (.int .u8 0), (.int .u8 0), (.int .u8 0), (.int .u8 0), (.int .u8 0), (.int .u8 0), (.int .u8 0), (.int .u8 0), (.int .u8 0), (.int .u8 0), (.int .u8 0), (.int .u8 0), (.int .u8 0), (.int .u8 0), (.int .u8 0), (.int .u8 0), (.int .u8 0), (.int .u8 0), (.int .u8 0), (.int .u8 0), (.int .u8 0), (.int .u8 0), (.int .u8 0), (.int .u8 0), (.int .u8 0), (.int .u8 0), (.int .u8 0), (.int .u8 0), (.int .u8 0), (.int .u8 0), (.int .u8 0), (.int .u8 0), (.int .u8 0), (.int .u8 0), (.int .u8 0), (.int .u8 0), (.int .u8 0), (.int .u8 0), (.int .u8 0), (.int .u8 0), (.int .u8 0), (.int .u8 0), (.int .u8 0), (.int .u8 0), (.int .u8 0), (.int .u8 0), (.int .u8 0), (.int .u8 0), (.int .u8 0), (.int .u8 0), (.int .u8 0), (.int .u8 0), (.int .u8 0), (.int .u8 0), (.int .u8 0), (.int .u8 0), (.int .u8 0), (.int .u8 0), (.int .u8 0), (.int .u8 0), (.int .u8 0), (.int .u8 0), (.int .u8 0), (.int .u8 0), (.int .u8 0), (.int .u8 0), (.int .u8 0), (.int .u8 0), (.int .u8 0), (.int .u8 0), (.int .u8 0), (.int .u8 0), (.int .u8 0), (.int .u8 0), (.int .u8 0), (.int .u8 0), (.int .u8 0), (.int .u8 0), (.int .u8 0), (.int .u8 0), (.int .u8 0), (.int .u8 0), (.int .u8 0), (.int .u8 0), (.int .u8 0), (.int .u8 0), (.int .u8 0), (.int .u8 0), (.int .u8 0), (.int .u8 0), (.int .u8 0), (.int .u8 0), (.int .u8 0), (.int .u8 0), (.int .u8 0), (.int .u8 0), (.int .u8 0), (.int .u8 0), (.int .u8 0), (.int .u8 0), (.int .u8 0), (.int .u8 0), (.int .u8 0), (.int .u8 0), (.int .u8 0), (.int .u8 0), (.int .u8 0), (.int .u8 0), (.int .u8 0), (.int .u8 0), (.int .u8 0), (.int .u8 0), (.int .u8 0), (.int .u8 0), (.int .u8 0), (.int .u8 0), (.int .u8 0), (.int .u8 0), (.int .u8 0), (.int .u8 0), (.int .u8 0), (.int .u8 0), (.int .u8 0), (.int .u8 0), (.int .u8 0), (.int .u8 0), (.int .u8 0), (.int .u8 0), (.int .u8 0), (.int .u8 0), (.int .u8 0), (.int .u8 0), (.int .u8 0), (.int .u8 0), (.int .u8 0), (.int .u8 0), (.int .u8 0), (.int .u8 0), (.int .u8 0), (.int .u8 0), (.int .u8 0), (.int .u8 0), (.int .u8 0), (.int .u8 0), (.int .u8 0), (.int .u8 0), (.int .u8 0), (.int .u8 0), (.int .u8 0), (.int .u8 0), (.int .u8 0), (.int .u8 0), (.int .u8 0), (.int .u8 0), (.int .u8 0), (.int .u8 0), (.int .u8 0), (.int .u8 0), (.int .u8 0), (.int .u8 0), (.int .u8 0), (.int .u8 0), (.int .u8 0), (.int .u8 0), (.int .u8 0), (.int .u8 0), (.int .u8 0), (.int .u8 0), (.int .u8 0), (.int .u8 0), (.int .u8 0), (.int .u8 0), (.int .u8 0), (.int .u8 0), (.int .u8 0), (.int .u8 0), (.int .u8 0), (.int .u8 0), (.int .u8 0), (.int .u8 0), (.int .u8 0), (.int .u8 0), (.int .u8 0), (.int .u8 0), (.int .u8 0), (.int .u8 0), (.int .u8 0), (.int .u8 0), (.int .u8 0), (.int .u8 0), (.int .u8 0), (.int .u8 0), (.int .u8 0), (.int .u8 0), (.int .u8 0), (.int .u8 0), (.int .u8 0), (.int .u8 0), (.int .u8 0), (.int .u8 0), (.int .u8 0), (.int .u8 0), (.int .u8 0), (.int .u8 0), (.int .u8 0), (.int .u8 0), (.int .u8 0), (.int .u8 0), (.int .u8 0), (.int .u8 0), (.int .u8 0), (.int .u8 0), (.int .u8 0), (.int .u8 0), (.int .u8 0), (.int .u8 0), (.int .u8 0), (.int .u8 0), (.int .u8 0), (.int .u8 0), (.int .u8 0), (.int .u8 0), (.int .u8 0), (.int .u8 0), (.int .u8 0), (.int .u8 0), (.int .u8 0), (.int .u8 0), (.int .u8 0), (.int .u8 0), (.int .u8 0), (.int .u8 0), (.int .u8 0), (.int .u8 0), (.int .u8 0), (.int .u8 0), (.int .u8 0), (.int .u8 0), (.int .u8 0), (.int .u8 0), (.int .u8 0), (.int .u8 0), (.int .u8 0), (.int .u8 0), (.int .u8 0), (.int .u8 0), (.int .u8 0), (.int .u8 0), (.int .u8 0), (.int .u8 0), (.int .u8 0), (.int .u8 0), (.int .u8 0), (.int .u8 0), (.int .u8 0), (.int .u8 0), (.int .u8 0), (.int .u8 0), (.int .u8 0), (.int .u8 0), (.int .u8 0), (.int .u8 0), (.int .u8 0), (.int .u8 0), (.int .u8 0), (.int .u8 0), (.int .u8 0), (.int .u8 0), (.int .u8 0), (.int .u8 0), (.int .u8 0), (.int .u8 0), (.int .u8 0), (.int .u8 0), (.int .u8 0), (.int .u8 0), (.int .u8 0), (.int .u8 0), (.int .u8 0), (.int .u8 0), (.int .u8 0), (.int .u8 0), (.int .u8 0), (.int .u8 0), (.int .u8 0), (.int .u8 0), (.int .u8 0), (.int .u8 0), (.int .u8 0), (.int .u8 0), (.int .u8 0), (.int .u8 0), (.int .u8 0), (.int .u8 0), (.int .u8 0), (.int .u8 0), (.int .u8 0), (.int .u8 0), (.int .u8 0), (.int .u8 0), (.int .u8 0), (.int .u8 0), (.int .u8 0), (.int .u8 0), (.int .u8 0), (.int .u8 0), (.int .u8 0), (.int .u8 0), (.int .u8 0), (.int .u8 0), (.int .u8 0), (.int .u8 0), (.int .u8 0), (.int .u8 0), (.int .u8 0), (.int .u8 0), (.int .u8 0), (.int .u8 0), (.int .u8 0), (.int .u8 0), (.int .u8 0), (.int .u8 0), (.int .u8 0), (.int .u8 0), (.int .u8 0), (.int .u8 0), (.int .u8 0), (.int .u8 0), (.int .u8 0), (.int .u8 0), (.int .u8 0), (.int .u8 0), (.int .u8 0), (.int .u8 0), (.int .u8 0), (.int .u8 0), (.int .u8 0), (.int .u8 0), (.int .u8 0), (.int .u8 0), (.int .u8 0), (.int .u8 0), (.int .u8 0), (.int .u8 0), (.int .u8 0), (.int .u8 0), (.int .u8 0), (.int .u8 0), (.int .u8 0), (.nils)]
@[simp] theorem zz87_one : zz87.all AV.one = true := by decide +kernel
@[simp] theorem zz87_len : zz87.length = 769 := by decide +kernel
@[simp] theorem ts2 : tsize Try.prog 2 = some 1 := by kernel_rfl
@[simp] theorem ta2 : tagg Try.prog 2 = some false := by kernel_rfl
@[simp] theorem az2 : azero Try.prog 2 = some ([(.int .i64 0)]) := by kernel_rfl
@[simp] theorem azv2 : azerov Try.prog 2 = some (.int .i64 0) := by kernel_rfl
@[simp] theorem ts3 : tsize Try.prog 3 = some 1 := by kernel_rfl
@[simp] theorem ta3 : tagg Try.prog 3 = some false := by kernel_rfl
@[simp] theorem az3 : azero Try.prog 3 = some ([(.int .i64 0)]) := by kernel_rfl
@[simp] theorem azv3 : azerov Try.prog 3 = some (.int .i64 0) := by kernel_rfl
@[simp] theorem ts4 : tsize Try.prog 4 = some 1 := by kernel_rfl
@[simp] theorem ta4 : tagg Try.prog 4 = some false := by kernel_rfl
@[simp] theorem az4 : azero Try.prog 4 = some ([(.bool false)]) := by kernel_rfl
@[simp] theorem azv4 : azerov Try.prog 4 = some (.bool false) := by kernel_rfl
@[simp] theorem ts5 : tsize Try.prog 5 = some 1 := by kernel_rfl
@[simp] theorem ta5 : tagg Try.prog 5 = some false := by kernel_rfl
@[simp] theorem az5 : azero Try.prog 5 = some ([(.int .u8 0)]) := by kernel_rfl
@[simp] theorem azv5 : azerov Try.prog 5 = some (.int .u8 0) := by kernel_rfl
@[simp] theorem ts9 : tsize Try.prog 9 = some 1 := by kernel_rfl
@[simp] theorem ta9 : tagg Try.prog 9 = some false := by kernel_rfl
@[simp] theorem az9 : azero Try.prog 9 = some ([(.str .empty)]) := by kernel_rfl
@[simp] theorem azv9 : azerov Try.prog 9 = some (.str .empty) := by kernel_rfl
@[simp] theorem ts12 : tsize Try.prog 12 = some 1 := by kernel_rfl
@[simp] theorem ta12 : tagg Try.prog 12 = some false := by kernel_rfl
@[simp] theorem az12 : azero Try.prog 12 = some ([(.int .u64 0)]) := by kernel_rfl
@[simp] theorem azv12 : azerov Try.prog 12 = some (.int .u64 0) := by kernel_rfl
@[simp] theorem ts13 : tsize Try.prog 13 = some 2 := by kernel_rfl
@[simp] theorem ta13 : tagg Try.prog 13 = some true := by kernel_rfl
@[simp] theorem az13 : azero Try.prog 13 = some ([(.str .empty), (.int .u64 0)]) := by kernel_rfl
@[simp] theorem azv13 : azerov Try.prog 13 = some (.agg ([(.str .empty), (.int .u64 0)])) := by kernel_rfl
@[simp] theorem af13_0 : afield Try.prog 13 0 = some (0, 9) := by kernel_rfl
@[simp] theorem af13_1 : afield Try.prog 13 1 = some (1, 12) := by kernel_rfl
@[simp] theorem ts21 : tsize Try.prog 21 = some 1 := by kernel_rfl
@[simp] theorem ta21 : tagg Try.prog 21 = some false := by kernel_rfl
@[simp] theorem az21 : azero Try.prog 21 = some ([(.int .i32 0)]) := by kernel_rfl
@[simp] theorem azv21 : azerov Try.prog 21 = some (.int .i32 0) := by kernel_rfl
@[simp] theorem ts22 : tsize Try.prog 22 = some 1 := by kernel_rfl
@[simp] theorem ta22 : tagg Try.prog 22 = some false := by kernel_rfl
@[simp] theorem az22 : azero Try.prog 22 = some ([(.nilp)]) := by kernel_rfl
@[simp] theorem azv22 : azerov Try.prog 22 = some (.nilp) := by kernel_rfl
@[simp] theorem ts23 : tsize Try.prog 23 = some 1 := by kernel_rfl
@[simp] theorem ta23 : tagg Try.prog 23 = some false := by kernel_rfl
@[simp] theorem az23 : azero Try.prog 23 = some ([(.int .i64 0)]) := by kernel_rfl
@[simp] theorem azv23 : azerov Try.prog 23 = some (.int .i64 0) := by kernel_rfl
@[simp] theorem ts26 : tsize Try.prog 26 = some 6 := by kernel_rfl
@[simp] theorem ta26 : tagg Try.prog 26 = some true := by kernel_rfl
@[simp] theorem az26 : azero Try.prog 26 = some ([(.int .i64 0), (.int .i64 0), (.int .i64 0), (.int .i64 0), (.int .i64 0), (.int .i64 0)]) := by kernel_rfl
@[simp] theorem azv26 : azerov Try.prog 26 = some (.agg ([(.int .i64 0), (.int .i64 0), (.int .i64 0), (.int .i64 0), (.int .i64 0), (.int .i64 0)])) := by kernel_rfl
@[simp] theorem af26_0 : afield Try.prog 26 0 = some (0, 3) := by kernel_rfl
@[simp] theorem af26_1 : afield Try.prog 26 1 = some (1, 3) := by kernel_rfl
@[simp] theorem af26_2 : afield Try.prog 26 2 = some (2, 3) := by kernel_rfl
@[simp] theorem af26_3 : afield Try.prog 26 3 = some (3, 3) := by kernel_rfl
@[simp] theorem af26_4 : afield Try.prog 26 4 = some (4, 3) := by kernel_rfl
@[simp] theorem af26_5 : afield Try.prog 26 5 = some (5, 3) := by kernel_rfl
@[simp] theorem ts27 : tsize Try.prog 27 = some 6 := by kernel_rfl
@[simp] theorem ta27 : tagg Try.prog 27 = some true := by kernel_rfl
@[simp] theorem az27 : azero Try.prog 27 = some ([(.int .i64 0), (.int .i64 0), (.int .i64 0), (.int .i64 0), (.int .i64 0), (.int .i64 0)]) := by kernel_rfl
@[simp] theorem azv27 : azerov Try.prog 27 = some (.agg ([(.int .i64 0), (.int .i64 0), (.int .i64 0), (.int .i64 0), (.int .i64 0), (.int .i64 0)])) := by kernel_rfl
@[simp] theorem af27_0 : afield Try.prog 27 0 = some (0, 3) := by kernel_rfl
@[simp] theorem af27_1 : afield Try.prog 27 1 = some (1, 3) := by kernel_rfl
@[simp] theorem af27_2 : afield Try.prog 27 2 = some (2, 3) := by kernel_rfl
@[simp] theorem af27_3 : afield Try.prog 27 3 = some (3, 3) := by kernel_rfl
@[simp] theorem af27_4 : afield Try.prog 27 4 = some (4, 3) := by kernel_rfl
@[simp] theorem af27_5 : afield Try.prog 27 5 = some (5, 3) := by kernel_rfl
@[simp] theorem ts28 : tsize Try.prog 28 = some 12 := by kernel_rfl
@[simp] theorem ta28 : tagg Try.prog 28 = some true := by kernel_rfl
@[simp] theorem az28 : azero Try.prog 28 = some ([(.int .i64 0), (.int .i64 0), (.int .i64 0), (.int .i64 0), (.int .i64 0), (.int .i64 0), (.int .i64 0), (.int .i64 0), (.int .i64 0), (.int .i64 0), (.int .i64 0), (.int .i64 0)]) := by kernel_rfl
@[simp] theorem azv28 : azerov Try.prog 28 = some (.agg ([(.int .i64 0), (.int .i64 0), (.int .i64 0), (.int .i64 0), (.int .i64 0), (.int .i64 0), (.int .i64 0), (.int .i64 0), (.int .i64 0), (.int .i64 0), (.int .i64 0), (.int .i64 0)])) := by kernel_rfl
@[simp] theorem ts32 : tsize Try.prog 32 = some 1 := by kernel_rfl
@[simp] theorem ta32 : tagg Try.prog 32 = some false := by kernel_rfl
@[simp] theorem az32 : azero Try.prog 32 = some ([(.nils)]) := by kernel_rfl
@[simp] theorem azv32 : azerov Try.prog 32 = some (.nils) := by kernel_rfl
theorem el32 : Elem Try.prog 32 9 1 16 := Elem.of (by kernel_rfl)
@[simp] theorem ts34 : tsize Try.prog 34 = some 1 := by kernel_rfl
@[simp] theorem ta34 : tagg Try.prog 34 = some false := by kernel_rfl
@[simp] theorem az34 : azero Try.prog 34 = some ([(.nils)]) := by kernel_rfl
@[simp] theorem azv34 : azerov Try.prog 34 = some (.nils) := by kernel_rfl
theorem el34 : Elem Try.prog 34 32 1 24 := Elem.of (by kernel_rfl)
@[simp] theorem ts35 : tsize Try.prog 35 = some 1 := by kernel_rfl
@[simp] theorem ta35 : tagg Try.prog 35 = some false := by kernel_rfl
@[simp] theorem az35 : azero Try.prog 35 = some ([(.nils)]) := by kernel_rfl
@[simp] theorem azv35 : azerov Try.prog 35 = some (.nils) := by kernel_rfl
theorem el35 : Elem Try.prog 35 3 1 8 := Elem.of (by kernel_rfl)
@[simp] theorem ts43 : tsize Try.prog 43 = some 1 := by kernel_rfl
@[simp] theorem ta43 : tagg Try.prog 43 = some false := by kernel_rfl
@[simp] theorem az43 : azero Try.prog 43 = some ([(.nils)]) := by kernel_rfl
@[simp] theorem azv43 : azerov Try.prog 43 = some (.nils) := by kernel_rfl
theorem el43 : Elem Try.prog 43 5 1 1 := Elem.of (by kernel_rfl)
@[simp] theorem ts50 : tsize Try.prog 50 = some 13 := by kernel_rfl
@[simp] theorem ta50 : tagg Try.prog 50 = some true := by kernel_rfl
@[simp] theorem az50 : azero Try.prog 50 = some ([(.int .i64 0), (.int .i64 0), (.int .i64 0), (.int .i64 0), (.int .i64 0), (.int .i64 0), (.int .i64 0), (.nils), (.bool false), (.bool false), (.nils), (.str .empty), (.nils)]) := by kernel_rfl
@[simp] theorem azv50 : azerov Try.prog 50 = some (.agg ([(.int .i64 0), (.int .i64 0), (.int .i64 0), (.int .i64 0), (.int .i64 0), (.int .i64 0), (.int .i64 0), (.nils), (.bool false), (.bool false), (.nils), (.str .empty), (.nils)])) := by kernel_rfl
@[simp] theorem af50_0 : afield Try.prog 50 0 = some (0, 27) := by kernel_rfl
@[simp] theorem af50_1 : afield Try.prog 50 1 = some (6, 3) := by kernel_rfl
@[simp] theorem af50_2 : afield Try.prog 50 2 = some (7, 35) := by kernel_rfl
@[simp] theorem af50_3 : afield Try.prog 50 3 = some (8, 4) := by kernel_rfl
@[simp] theorem af50_4 : afield Try.prog 50 4 = some (9, 4) := by kernel_rfl
@[simp] theorem af50_5 : afield Try.prog 50 5 = some (10, 35) := by kernel_rfl
@[simp] theorem af50_6 : afield Try.prog 50 6 = some (11, 9) := by kernel_rfl
@[simp] theorem af50_7 : afield Try.prog 50 7 = some (12, 32) := by kernel_rfl
@[simp] theorem ts51 : tsize Try.prog 51 = some 13 := by kernel_rfl
@[simp] theorem ta51 : tagg Try.prog 51 = some true := by kernel_rfl
@[simp] theorem az51 : azero Try.prog 51 = some ([(.int .i64 0), (.int .i64 0), (.int .i64 0), (.int .i64 0), (.int .i64 0), (.int .i64 0), (.int .i64 0), (.nils), (.bool false), (.bool false), (.nils), (.str .empty), (.nils)]) := by kernel_rfl
@[simp] theorem azv51 : azerov Try.prog 51 = some (.agg ([(.int .i64 0), (.int .i64 0), (.int .i64 0), (.int .i64 0), (.int .i64 0), (.int .i64 0), (.int .i64 0), (.nils), (.bool false), (.bool false), (.nils), (.str .empty), (.nils)])) := by kernel_rfl
@[simp] theorem af51_0 : afield Try.prog 51 0 = some (0, 27) := by kernel_rfl
@[simp] theorem af51_1 : afield Try.prog 51 1 = some (6, 3) := by kernel_rfl
@[simp] theorem af51_2 : afield Try.prog 51 2 = some (7, 35) := by kernel_rfl
@[simp] theorem af51_3 : afield Try.prog 51 3 = some (8, 4) := by kernel_rfl
@[simp] theorem af51_4 : afield Try.prog 51 4 = some (9, 4) := by kernel_rfl
@[simp] theorem af51_5 : afield Try.prog 51 5 = some (10, 35) := by kernel_rfl
@[simp] theorem af51_6 : afield Try.prog 51 6 = some (11, 9) := by kernel_rfl
@[simp] theorem af51_7 : afield Try.prog 51 7 = some (12, 32) := by kernel_rfl
@[simp] theorem ts59 : tsize Try.prog 59 = some 1 := by kernel_rfl
@[simp] theorem ta59 : tagg Try.prog 59 = some false := by kernel_rfl
@[simp] theorem az59 : azero Try.prog 59 = some ([(.nilp)]) := by kernel_rfl
@[simp] theorem azv59 : azerov Try.prog 59 = some (.nilp) := by kernel_rfl
@[simp] theorem ts64 : tsize Try.prog 64 = some 1 := by kernel_rfl
@[simp] theorem ta64 : tagg Try.prog 64 = some false := by kernel_rfl
@[simp] theorem az64 : azero Try.prog 64 = some ([(.nilp)]) := by kernel_rfl
@[simp] theorem azv64 : azerov Try.prog 64 = some (.nilp) := by kernel_rfl
@[simp] theorem ts65 : tsize Try.prog 65 = some 3 := by kernel_rfl
@[simp] theorem ta65 : tagg Try.prog 65 = some true := by kernel_rfl
@[simp] theorem az65 : azero Try.prog 65 = some ([(.nils), (.int .i64 0), (.int .i64 0)]) := by kernel_rfl
@[simp] theorem azv65 : azerov Try.prog 65 = some (.agg ([(.nils), (.int .i64 0), (.int .i64 0)])) := by kernel_rfl
@[simp] theorem af65_0 : afield Try.prog 65 0 = some (0, 43) := by kernel_rfl
@[simp] theorem af65_1 : afield Try.prog 65 1 = some (1, 3) := by kernel_rfl
@[simp] theorem af65_2 : afield Try.prog 65 2 = some (2, 3) := by kernel_rfl
@[simp] theorem ts66 : tsize Try.prog 66 = some 3 := by kernel_rfl
@[simp] theorem ta66 : tagg Try.prog 66 = some true := by kernel_rfl
@[simp] theorem az66 : azero Try.prog 66 = some ([(.nils), (.int .i64 0), (.int .i64 0)]) := by kernel_rfl
@[simp] theorem azv66 : azerov Try.prog 66 = some (.agg ([(.nils), (.int .i64 0), (.int .i64 0)])) := by kernel_rfl
@[simp] theorem af66_0 : afield Try.prog 66 0 = some (0, 43) := by kernel_rfl
@[simp] theorem af66_1 : afield Try.prog 66 1 = some (1, 3) := by kernel_rfl
@[simp] theorem af66_2 : afield Try.prog 66 2 = some (2, 3) := by kernel_rfl
@[simp] theorem ts67 : tsize Try.prog 67 = some 1 := by kernel_rfl
@[simp] theorem ta67 : tagg Try.prog 67 = some false := by kernel_rfl
@[simp] theorem az67 : azero Try.prog 67 = some ([(.nilp)]) := by kernel_rfl
@[simp] theorem azv67 : azerov Try.prog 67 = some (.nilp) := by kernel_rfl
@[simp] theorem ts72 : tsize Try.prog 72 = some 1 := by kernel_rfl
@[simp] theorem ta72 : tagg Try.prog 72 = some false := by kernel_rfl
@[simp] theorem az72 : azero Try.prog 72 = some ([(.int .u32 0)]) := by kernel_rfl
@[simp] theorem azv72 : azerov Try.prog 72 = some (.int .u32 0) := by kernel_rfl
@[simp] theorem ts74 : tsize Try.prog 74 = some 1 := by kernel_rfl
@[simp] theorem ta74 : tagg Try.prog 74 = some false := by kernel_rfl
@[simp] theorem az74 : azero Try.prog 74 = some ([(.int .u64 0)]) := by kernel_rfl
@[simp] theorem azv74 : azerov Try.prog 74 = some (.int .u64 0) := by kernel_rfl
@[simp] theorem ts75 : tsize Try.prog 75 = some 1 := by kernel_rfl
@[simp] theorem ta75 : tagg Try.prog 75 = some false := by kernel_rfl
@[simp] theorem az75 : azero Try.prog 75 = some ([(.int .u64 0)]) := by kernel_rfl
@[simp] theorem azv75 : azerov Try.prog 75 = some (.int .u64 0) := by kernel_rfl
@[simp] theorem ts76 : tsize Try.prog 76 = some 3 := by kernel_rfl
@[simp] theorem ta76 : tagg Try.prog 76 = some true := by kernel_rfl
@[simp] theorem az76 : azero Try.prog 76 = some ([(.nils), (.int .i64 0), (.int .i64 0)]) := by kernel_rfl
@[simp] theorem azv76 : azerov Try.prog 76 = some (.agg ([(.nils), (.int .i64 0), (.int .i64 0)])) := by kernel_rfl
@[simp] theorem af76_0 : afield Try.prog 76 0 = some (0, 43) := by kernel_rfl
@[simp] theorem af76_1 : afield Try.prog 76 1 = some (1, 3) := by kernel_rfl
@[simp] theorem af76_2 : afield Try.prog 76 2 = some (2, 23) := by kernel_rfl
@[simp] theorem ts77 : tsize Try.prog 77 = some 3 := by kernel_rfl
@[simp] theorem ta77 : tagg Try.prog 77 = some true := by kernel_rfl
@[simp] theorem az77 : azero Try.prog 77 = some ([(.nils), (.int .i64 0), (.int .i64 0)]) := by kernel_rfl
@[simp] theorem azv77 : azerov Try.prog 77 = some (.agg ([(.nils), (.int .i64 0), (.int .i64 0)])) := by kernel_rfl
@[simp] theorem af77_0 : afield Try.prog 77 0 = some (0, 43) := by kernel_rfl
@[simp] theorem af77_1 : afield Try.prog 77 1 = some (1, 3) := by kernel_rfl
@[simp] theorem af77_2 : afield Try.prog 77 2 = some (2, 23) := by kernel_rfl
@[simp] theorem ts80 : tsize Try.prog 80 = some 510 := by kernel_rfl
@[simp] theorem ta80 : tagg Try.prog 80 = some true := by kernel_rfl
@[simp] theorem az80 : azero Try.prog 80 = some (zz80) := by kernel_rfl
@[simp] theorem azv80 : azerov Try.prog 80 = some (.agg (zz80)) := by kernel_rfl
@[simp] theorem ts81 : tsize Try.prog 81 = some 256 := by kernel_rfl
@[simp] theorem ta81 : tagg Try.prog 81 = some true := by kernel_rfl
@[simp] theorem az81 : azero Try.prog 81 = some (zz81) := by kernel_rfl
@[simp] theorem azv81 : azerov Try.prog 81 = some (.agg (zz81)) := by kernel_rfl
@[simp] theorem ts82 : tsize Try.prog 82 = some 766 := by kernel_rfl
@[simp] theorem ta82 : tagg Try.prog 82 = some true := by kernel_rfl
@[simp] theorem az82 : azero Try.prog 82 = some (zz82) := by kernel_rfl
@[simp] theorem azv82 : azerov Try.prog 82 = some (.agg (zz82)) := by kernel_rfl
@[simp] theorem af82_0 : afield Try.prog 82 0 = some (0, 80) := by kernel_rfl
@[simp] theorem af82_1 : afield Try.prog 82 1 = some (510, 81) := by kernel_rfl
@[simp] theorem ts83 : tsize Try.prog 83 = some 766 := by kernel_rfl
@[simp] theorem ta83 : tagg Try.prog 83 = some true := by kernel_rfl
@[simp] theorem az83 : azero Try.prog 83 = some (zz83) := by kernel_rfl
@[simp] theorem azv83 : azerov Try.prog 83 = some (.agg (zz83)) := by kernel_rfl
@[simp] theorem af83_0 : afield Try.prog 83 0 = some (0, 80) := by kernel_rfl
@[simp] theorem af83_1 : afield Try.prog 83 1 = some (510, 81) := by kernel_rfl
@[simp] theorem ts85 : tsize Try.prog 85 = some 1 := by kernel_rfl
@[simp] theorem ta85 : tagg Try.prog 85 = some false := by kernel_rfl
@[simp] theorem az85 : azero Try.prog 85 = some ([(.nils)]) := by kernel_rfl
@[simp] theorem azv85 : azerov Try.prog 85 = some (.nils) := by kernel_rfl
theorem el85 : Elem Try.prog 85 43 1 24 := Elem.of (by kernel_rfl)
@[simp] theorem ts86 : tsize Try.prog 86 = some 769 := by kernel_rfl
@[simp] theorem ta86 : tagg Try.prog 86 = some true := by kernel_rfl
@[simp] theorem az86 : azero Try.prog 86 = some (zz86) := by kernel_rfl
@[simp] theorem azv86 : azerov Try.prog 86 = some (.agg (zz86)) := by kernel_rfl
@[simp] theorem af86_0 : afield Try.prog 86 0 = some (0, 3) := by kernel_rfl
@[simp] theorem af86_1 : afield Try.prog 86 1 = some (1, 3) := by kernel_rfl
@[simp] theorem af86_2 : afield Try.prog 86 2 = some (2, 83) := by kernel_rfl
@[simp] theorem af86_3 : afield Try.prog 86 3 = some (768, 85) := by kernel_rfl
@[simp] theorem ts87 : tsize Try.prog 87 = some 769 := by kernel_rfl
@[simp] theorem ta87 : tagg Try.prog 87 = some true := by kernel_rfl
@[simp] theorem az87 : azero Try.prog 87 = some (zz87) := by kernel_rfl
@[simp] theorem azv87 : azerov Try.prog 87 = some (.agg (zz87)) := by kernel_rfl
@[simp] theorem af87_0 : afield Try.prog 87 0 = some (0, 3) := by kernel_rfl
@[simp] theorem af87_1 : afield Try.prog 87 1 = some (1, 3) := by kernel_rfl
@[simp] theorem af87_2 : afield Try.prog 87 2 = some (2, 83) := by kernel_rfl
@[simp] theorem af87_3 : afield Try.prog 87 3 = some (768, 85) := by kernel_rfl
@[simp] theorem ts89 : tsize Try.prog 89 = some 1 := by kernel_rfl
@[simp] theorem ta89 : tagg Try.prog 89 = some false := by kernel_rfl
@[simp] theorem az89 : azero Try.prog 89 = some ([(.nilp)]) := by kernel_rfl
@[simp] theorem azv89 : azerov Try.prog 89 = some (.nilp) := by kernel_rfl
@[simp] theorem ts101 : tsize Try.prog 101 = some 1 := by kernel_rfl
@[simp] theorem ta101 : tagg Try.prog 101 = some false := by kernel_rfl
@[simp] theorem az101 : azero Try.prog 101 = some ([(.nilp)]) := by kernel_rfl
@[simp] theorem azv101 : azerov Try.prog 101 = some (.nilp) := by kernel_rfl
@[simp] theorem ng3 : nogo Try.f3 = false := by kernel_rfl
attribute [simp] Try.func3
@[simp] theorem ng4 : nogo Try.f4 = false := by kernel_rfl
attribute [simp] Try.func4
@[simp] theorem ng5 : nogo Try.f5 = false := by kernel_rfl
attribute [simp] Try.func5
@[simp] theorem ng6 : nogo Try.f6 = false := by kernel_rfl
attribute [simp] Try.func6
@[simp] theorem ng7 : nogo Try.f7 = false := by kernel_rfl
attribute [simp] Try.func7
@[simp] theorem ng8 : nogo Try.f8 = false := by kernel_rfl
attribute [simp] Try.func8
@[simp] theorem ng9 : nogo Try.f9 = false := by kernel_rfl
attribute [simp] Try.func9
@[simp] theorem ng10 : nogo Try.f10 = false := by kernel_rfl
attribute [simp] Try.func10
@[simp] theorem ng11 : nogo Try.f11 = false := by kernel_rfl
attribute [simp] Try.func11
@[simp] theorem ng12 : nogo Try.f12 = false := by kernel_rfl
attribute [simp] Try.func12
@[simp] theorem ng13 : nogo Try.f13 = false := by kernel_rfl
attribute [simp] Try.func13
@[simp] theorem ng14 : nogo Try.f14 = false := by kernel_rfl
attribute [simp] Try.func14
@[simp] theorem ng15 : nogo Try.f15 = false := by kernel_rfl
attribute [simp] Try.func15
@[simp] theorem ng16 : nogo Try.f16 = false := by kernel_rfl
attribute [simp] Try.func16
@[simp] theorem ng17 : nogo Try.f17 = false := by kernel_rfl
attribute [simp] Try.func17
@[simp] theorem ng18 : nogo Try.f18 = false := by kernel_rfl
attribute [simp] Try.func18
@[simp] theorem ng19 : nogo Try.f19 = false := by kernel_rfl
attribute [simp] Try.func19
@[simp] theorem ng20 : nogo Try.f20 = false := by kernel_rfl
attribute [simp] Try.func20
@[simp] theorem ng21 : nogo Try.f21 = false := by kernel_rfl
attribute [simp] Try.func21
@[simp] theorem ng22 : nogo Try.f22 = false := by kernel_rfl
attribute [simp] Try.func22
@[simp] theorem ng23 : nogo Try.f23 = false := by kernel_rfl
attribute [simp] Try.func23
@[simp] theorem ng24 : nogo Try.f24 = false := by kernel_rfl
attribute [simp] Try.func24
@[simp] theorem ng25 : nogo Try.f25 = false := by kernel_rfl
attribute [simp] Try.func25
@[simp] theorem ng26 : nogo Try.f26 = false := by kernel_rfl
attribute [simp] Try.func26
@[simp] theorem ng27 : nogo Try.f27 = false := by kernel_rfl
attribute [simp] Try.func27
@[simp] theorem ng28 : nogo Try.f28 = false := by kernel_rfl
attribute [simp] Try.func28
@[simp] theorem ng29 : nogo Try.f29 = false := by kernel_rfl
attribute [simp] Try.func29
@[simp] theorem ng30 : nogo Try.f30 = false := by kernel_rfl
attribute [simp] Try.func30
@[simp] theorem ng31 : nogo Try.f31 = false := by kernel_rfl
attribute [simp] Try.func31
@[simp] theorem ng32 : nogo Try.f32 = false := by kernel_rfl
attribute [simp] Try.func32
@[simp] theorem ng33 : nogo Try.f33 = false := by kernel_rfl
attribute [simp] Try.func33
@[simp] theorem ng34 : nogo Try.f34 = false := by kernel_rfl
attribute [simp] Try.func34
@[simp] theorem ng35 : nogo Try.f35 = false := by kernel_rfl
attribute [simp] Try.func35
@[simp] theorem ng36 : nogo Try.f36 = false := by kernel_rfl
attribute [simp] Try.func36
@[simp] theorem ng37 : nogo Try.f37 = false := by kernel_rfl
attribute [simp] Try.func37
@[simp] theorem ng38 : nogo Try.f38 = false := by kernel_rfl
attribute [simp] Try.func38
@[simp] theorem ng39 : nogo Try.f39 = false := by kernel_rfl
attribute [simp] Try.func39
@[simp] theorem ng40 : nogo Try.f40 = false := by kernel_rfl
attribute [simp] Try.func40
@[simp] theorem ng41 : nogo Try.f41 = false := by kernel_rfl
attribute [simp] Try.func41
@[simp] theorem ng42 : nogo Try.f42 = false := by kernel_rfl
attribute [simp] Try.func42
@[simp] theorem ng43 : nogo Try.f43 = false := by kernel_rfl
attribute [simp] Try.func43
@[simp] theorem ng44 : nogo Try.f44 = false := by kernel_rfl
attribute [simp] Try.func44
@[simp] theorem ng45 : nogo Try.f45 = false := by kernel_rfl
attribute [simp] Try.func45
@[simp] theorem ng46 : nogo Try.f46 = false := by kernel_rfl
attribute [simp] Try.func46
@[simp] theorem ng47 : nogo Try.f47 = false := by kernel_rfl
attribute [simp] Try.func47
end Go.Proofs.Ytangdhaihhgjkaa
/- Rows of bytes. -/
namespace Go.Proofs.Ytangdhaihhgjkaa
open Go Go.YtangdhaihhgjkaaAbs
set_option linter.unusedSimpArgs false
set_option linter.unusedVariables false

/-- A byte's cell. -/
def bb (b : UInt8) : AV := .int .u8 (b.toNat : Nat)
theorem rdl_byte {h : Heap} {cs : List AV} {xs : List UInt8} (r : RdL kByte h cs xs) : cs = xs.map bb := by
  obtain ⟨r1, r2⟩ := r
  have r1 : cs.length = xs.length * 1 := r1
  refine List.ext_getElem? fun j => ?_
  rw [List.getElem?_map]
  cases hx : xs[j]? with
  | none =>
    rw [List.getElem?_eq_none]
    · rfl
    · have := List.getElem?_eq_none_iff.1 hx
      omega
  | some x =>
    have : (cs.drop (j * 1)).take 1 = [.int .u8 (x.toNat : Nat)] := r2 j x hx
    rw [Nat.mul_one] at this
    have e := congrArg (·[0]?) this
    simp only [List.getElem?_take, List.getElem?_drop] at e
    simpa [bb] using e
theorem sla_bytes {h : Heap} {v : AV} {xs : List UInt8} (r : SlA kByte h v xs) : Sl 1 xs.length h v (xs.map bb) := by
  obtain ⟨c, c1, c2⟩ := r.sl
  rw [rdl_byte c2] at c1
  exact c1
theorem bb_get {l : List UInt8} {j : Nat} {x : UInt8} (h : l[j]? = some x) : (l.map bb)[j]? = some (bb x) := by rw [List.getElem?_map, h]; rfl
theorem getb {α : Type} {l : List α} {j : Nat} (h : j < l.length) : ∃ x, l[j]? = some x := ⟨l[j], by simp [h]⟩
theorem bb_one (l : List UInt8) : (l.map bb).all AV.one = true := by
  rw [List.all_map, List.all_eq_true]
  intro x _
  rfl
theorem abytes_bb : ∀ l : List UInt8, abytes (l.map bb) = some l
  | [] => rfl
  | b :: l => by
    show (match abytes (l.map bb) with
      | some r => some (UInt8.ofNat ((b.toNat : Int)).toNat :: r)
      | none => none) = _
    rw [abytes_bb l, Int.toNat_natCast, UInt8.ofNat_toNat]
/-- Bytes as a text. -/
theorem aconv_bs {P : Program} {h : Heap} {src dst e : TypeId} {n : Nat} {v : AV} {l : List UInt8} (r : Sl 1 n h v (l.map bb))
    (hs : P.underlying src = some (.slice e)) (hd : P.underlying dst = some .string) (he : P.underlying e = some (.int .u8)) : aconv P h src dst v = some (.str ⟨⟨l⟩⟩, h) := by
  have hl := r.length
  unfold aconv
  rw [hs, hd]
  rcases r with ⟨rfl, r2, rfl⟩ | ⟨rfl, r2, rfl⟩ | ⟨b, i, cap, ex, c, ro, rfl, r2, r3, r4, r5, r6, r7⟩
  · have : l = [] := by simpa using r2
    subst this
    simp only [he]
    rfl
  · have : l = [] := by simpa using r2
    subst this
    simp only [he]
    rfl
  · simp only [he]
    unfold Heap.row
    rw [r3]
    simp only
    rw [if_pos (by omega)]
    have r6' : (c.drop i).take n = l.map bb := by rw [← r6, Nat.mul_one]
    rw [r6', abytes_bb]
/-- A new slice of one byte. -/
theorem sl_new1 (h : Heap) (b : UInt8) (ex : Bool) : Sl 1 1 (h.new (.cells [.int .u8 (b.toNat : Nat)] false)) (.sl h.next 0 1 1 1 ex) ([b].map bb) :=
  .inr (.inr ⟨h.next, 0, 1, ex, [.int .u8 (b.toNat : Nat)], false, rfl, Nat.lt_succ_self _, get_new_self _ _, rfl, by simp, rfl, Nat.le_refl _⟩)
end Go.Proofs.Ytangdhaihhgjkaa
/- Rows of numbers and of texts, as arguments have them. -/
namespace Go.Proofs.Ytangdhaihhgjkaa
open Go Go.YtangdhaihhgjkaaAbs
set_option linter.unusedSimpArgs false
set_option linter.unusedVariables false

theorem rdl_map {α : Type} {K : Kind α} {f : α → AV} (hs : K.sz = 1) (hf : ∀ h cs x, K.rd h cs x → cs = [f x]) {h : Heap} {cs : List AV} {xs : List α} (r : RdL K h cs xs) : cs = xs.map f := by
  obtain ⟨r1, r2⟩ := r
  rw [hs, Nat.mul_one] at r1
  refine List.ext_getElem? fun j => ?_
  rw [List.getElem?_map]
  cases hx : xs[j]? with
  | none =>
    rw [List.getElem?_eq_none]
    · rfl
    · have := List.getElem?_eq_none_iff.1 hx
      omega
  | some x =>
    have := hf _ _ _ (r2 j x hx)
    rw [hs, Nat.mul_one] at this
    have e := congrArg (·[0]?) this
    simp only [List.getElem?_take, List.getElem?_drop] at e
    simpa using e
theorem sla_map {α : Type} {K : Kind α} {f : α → AV} (hs : K.sz = 1) (hf : ∀ h cs x, K.rd h cs x → cs = [f x]) {h : Heap} {v : AV} {xs : List α} (r : SlA K h v xs) : Sl 1 xs.length h v (xs.map f) ∧ ∀ x ∈ xs, ∃ h cs, K.rd h cs x := by
  obtain ⟨c, c1, c2⟩ := r.sl
  refine ⟨?_, fun x hx => ?_⟩
  · rw [rdl_map hs hf c2] at c1
    rw [hs] at c1
    exact c1
  · obtain ⟨j, hj⟩ := List.getElem?_of_mem hx
    exact ⟨_, _, c2.2 j x hj⟩
/-- Numbers. -/
def ii (n : Int) : AV := .int .i64 n
theorem sla_ints {h : Heap} {v : AV} {xs : List Int} (r : SlA (kInt .i64) h v xs) : Sl 1 xs.length h v (xs.map ii) ∧ ∀ x ∈ xs, -9223372036854775808 ≤ x ∧ x ≤ 9223372036854775807 := by
  obtain ⟨r1, r2⟩ := sla_map (K := kInt .i64) (f := ii) rfl (fun _ _ _ q => q.1) r
  exact ⟨r1, fun x hx => by obtain ⟨_, _, q⟩ := r2 x hx; exact wf64 q.2⟩
theorem ii_get {l : List Int} {j : Nat} {x : Int} (h : l[j]? = some x) : (l.map ii)[j]? = some (ii x) := by rw [List.getElem?_map, h]; rfl
theorem ii_one (l : List Int) : (l.map ii).all AV.one = true := by
  rw [List.all_map, List.all_eq_true]
  intro x _
  rfl
/-- Texts. -/
def ss (s : ByteArray) : AV := .str s
theorem sla_strs {h : Heap} {v : AV} {xs : List ByteArray} (r : SlA kStr h v xs) : Sl 1 xs.length h v (xs.map ss) ∧ ∀ x ∈ xs, x.size ≤ maxLen := by
  obtain ⟨r1, r2⟩ := sla_map (K := kStr) (f := ss) rfl (fun _ _ _ q => q.1) r
  exact ⟨r1, fun x hx => by obtain ⟨_, _, q⟩ := r2 x hx; exact q.2⟩
theorem ss_get {l : List ByteArray} {j : Nat} {x : ByteArray} (h : l[j]? = some x) : (l.map ss)[j]? = some (ss x) := by rw [List.getElem?_map, h]; rfl
theorem ss_one (l : List ByteArray) : (l.map ss).all AV.one = true := by
  rw [List.all_map, List.all_eq_true]
  intro x _
  rfl
end Go.Proofs.Ytangdhaihhgjkaa
/- Is a text a key: words.Key and the document's. -/
namespace Go.Proofs.Ytangdhaihhgjkaa
open Go Go.YtangdhaihhgjkaaAbs
set_option linter.unusedSimpArgs false
set_option linter.unusedVariables false
set_option maxRecDepth 4000

/-- A byte that a key may have. -/
def keyB (x : UInt8) : Bool := decide (32 < x.toNat ∧ x.toNat ≠ 127)
def keyP (l : List UInt8) : Bool := decide (1 ≤ l.length ∧ l.length ≤ 250) && l.all keyB
theorem all_take {α : Type} (p : α → Bool) (l : List α) (i : Nat) (x : α) (h : l[i]? = some x) : (l.take (i + 1)).all p = ((l.take i).all p && p x) := by
  rw [List.take_add_one, h, List.all_append]
  simp
theorem all_no {α : Type} {p : α → Bool} {l : List α} {i : Nat} {x : α} (h : l[i]? = some x) (hx : p x = false) : l.all p = false := by
  rw [List.all_eq_false]
  exact ⟨x, List.mem_of_getElem? h, by simp [hx]⟩
def allB (s : ByteArray) (i : Nat) : Bool := (s.data.toList.take i).all keyB
theorem sz_list (s : ByteArray) : s.data.toList.length = s.size := by rw [Array.length_toList]; rfl
theorem nonempty_toList {s : ByteArray} (h : s.size ≠ 0) : s.toList.isEmpty = false := by
  have hl : s.toList = s.data.toList := Lib.toList_data s
  rw [hl]
  cases hq : s.data.toList with
  | nil =>
    have := sz_list s
    rw [hq] at this
    simp at this
    omega
  | cons x r => rfl
theorem wkey_ok (k : Nat) (s : ByteArray) (hs : s.size < k) (hm : s.size < 2 ^ 62) (h : Heap) : acall Try.prog (k + 1) 17 [.str s] h = some (.bool (keyP s.data.toList), h) := by
  rw [acall_text [] Try.func17 (by kernel_rfl)]
  refine afuncT_of rfl (by simp [Try.f17]) ?_
  have hsl := sz_list s
  by_cases h0 : s.size < 1
  · have : keyP s.data.toList = false := by unfold keyP; rw [hsl, decide_eq_false (by omega)]; rfl
    rw [this]
    simp [Try.f17, isLt (show (s.size : Int) < 1 by omega)]
  by_cases h1 : 250 < s.size
  · have : keyP s.data.toList = false := by unfold keyP; rw [hsl, decide_eq_false (by omega)]; rfl
    rw [this]
    simp [Try.f17, isLe (show (1 : Int) ≤ (s.size : Int) by omega), isLt (show (250 : Int) < (s.size : Int) by omega)]
  have hk : keyP s.data.toList = s.data.toList.all keyB := by unfold keyP; rw [hsl, decide_eq_true (by omega)]; rfl
  simp [Try.f17, isLe (show (1 : Int) ≤ (s.size : Int) by omega), isLe (show (s.size : Int) ≤ 250 by omega)]
  refine W_loop (fun j st => ∃ i, j = s.size - i ∧ i ≤ s.size ∧ st.h = h ∧ st.t.get 0 = some (.str s) ∧ st.t.get 13 = some (.int .i64 (s.size : Nat)) ∧ st.t.get 14 = some (.int .i64 (i : Nat)) ∧ allB s i = true) s.size (by omega) ⟨0, by simp [allB]⟩ ?_
  rintro j ⟨t, h'⟩ ⟨i, rfl, hi, rfl, q0, q13, q14, ha⟩
  simp only at q0 q13 q14
  by_cases hlt : i < s.size
  · have hb : s.data[i]? = some s.data[i] := by simp
    have hl : s.data.toList[i]? = some s.data[i] := by simp
    generalize s.data[i] = x at hb hl
    have hx := x.toNat_lt
    obtain ⟨y, hy⟩ : ∃ y, x.toNat = y := ⟨_, rfl⟩
    by_cases h2 : y ≤ 32
    · have : keyP s.data.toList = false := by rw [hk]; exact all_no hl (by unfold keyB; rw [hy]; exact decide_eq_false (by omega))
      rw [this]
      simp [q0, q13, q14, isLt (show (i : Int) < (s.size : Int) by omega), hb, hy, isLe (show (y : Int) ≤ 32 by omega)]
    · by_cases h3 : y = 127
      · have : keyP s.data.toList = false := by rw [hk]; exact all_no hl (by unfold keyB; rw [hy]; exact decide_eq_false (by omega))
        rw [this]
        simp [q0, q13, q14, isLt (show (i : Int) < (s.size : Int) by omega), hb, hy, isLt (show (32 : Int) < (y : Int) by omega), h3]
      · have h3' : ¬ ((y : Int) = 127) := by omega
        simp [q0, q13, q14, isLt (show (i : Int) < (s.size : Int) by omega), hb, hy, isLt (show (32 : Int) < (y : Int) by omega), h3', i64w ((i : Int) + 1) (by omega) (by omega)]
        refine ⟨s.size - (i + 1), by omega, i + 1, rfl, by omega, by simp, ?_⟩
        unfold allB at ha ⊢
        rw [all_take _ _ _ _ hl, ha]
        unfold keyB
        rw [hy]
        exact decide_eq_true (by omega)
  · have : i = s.size := by omega
    subst this
    have e : s.data.toList.take s.size = s.data.toList := List.take_of_length_le (by omega)
    unfold allB at ha
    rw [e] at ha
    rw [hk, ha]
    simp [q0, q13, q14]
theorem rkey_ok (k : Nat) (s : ByteArray) (hs : s.size < k) (hm : s.size < 2 ^ 62) (h : Heap) : acall Try.prog (k + 1) 34 [.str s] h = some (.bool (keyP s.data.toList), h) := by
  rw [acall_text [] Try.func34 (by kernel_rfl)]
  refine afuncT_of rfl (by simp [Try.f34]) ?_
  have hsl := sz_list s
  simp [Try.f34]
  refine W_loop (fun j st => ∃ i, j = s.size - i ∧ i ≤ s.size ∧ st.h = h ∧ st.t.get 0 = some (.str s) ∧ st.t.get 3 = some (.int .i64 (i : Nat)) ∧ allB s i = true) s.size (by omega) ⟨0, by simp [allB]⟩ ?_
  rintro j ⟨t, h'⟩ ⟨i, rfl, hi, rfl, q0, q3, ha⟩
  simp only at q0 q3
  by_cases hlt : i < s.size
  · have hb : s.data[i]? = some s.data[i] := by simp
    have hl : s.data.toList[i]? = some s.data[i] := by simp
    generalize s.data[i] = x at hb hl
    have hx := x.toNat_lt
    obtain ⟨y, hy⟩ : ∃ y, x.toNat = y := ⟨_, rfl⟩
    have hno : (y ≤ 32 ∨ y = 127) → keyP s.data.toList = false := fun q => by
      unfold keyP
      rw [all_no hl (by unfold keyB; rw [hy]; exact decide_eq_false (by omega)), Bool.and_false]
    by_cases h2 : y ≤ 32
    · rw [hno (.inl h2)]
      simp [q0, q3, isLt (show (i : Int) < (s.size : Int) by omega), hb, hy, isLe (show (y : Int) ≤ 32 by omega)]
    · by_cases h3 : y = 127
      · rw [hno (.inr h3)]
        simp [q0, q3, isLt (show (i : Int) < (s.size : Int) by omega), hb, hy, isLt (show (32 : Int) < (y : Int) by omega), h3]
      · have h3' : ¬ ((y : Int) = 127) := by omega
        simp [q0, q3, isLt (show (i : Int) < (s.size : Int) by omega), hb, hy, isLt (show (32 : Int) < (y : Int) by omega), h3', i64w ((i : Int) + 1) (by omega) (by omega)]
        refine ⟨s.size - (i + 1), by omega, i + 1, rfl, by omega, by simp, ?_⟩
        unfold allB at ha ⊢
        rw [all_take _ _ _ _ hl, ha]
        unfold keyB
        rw [hy]
        exact decide_eq_true (by omega)
  · have : i = s.size := by omega
    subst this
    have e : s.data.toList.take s.size = s.data.toList := List.take_of_length_le (by omega)
    unfold allB at ha
    rw [e] at ha
    unfold keyP
    rw [ha, hsl]
    by_cases h0 : s.size = 0
    · have e0 : s = ⟨#[]⟩ := ByteArray.ext (Array.eq_empty_of_size_eq_zero h0)
      subst e0
      simp [q0, q3]
      omega
    · have hne := nonempty_toList h0
      simp [q0, q3, hne]
      by_cases h1 : s.size ≤ 250
      · simp [isLe (show (s.size : Int) ≤ 250 by omega)]
        omega
      · simp [isLt (show (250 : Int) < (s.size : Int) by omega)]
        omega
end Go.Proofs.Ytangdhaihhgjkaa
/- Contracts of the book of memory, for bytes: Same, Roomy, Intact. -/
namespace Go.Proofs.Ytangdhaihhgjkaa
open Go Go.YtangdhaihhgjkaaAbs
set_option linter.unusedSimpArgs false
set_option linter.unusedVariables false
set_option maxRecDepth 4000

theorem u8_same (x : UInt8) : (((x.toNat : Nat) : Int) = ((x.toNat : Nat) : Int)) = True := eq_true rfl
theorem u8_diff {x y : UInt8} (h : x ≠ y) : (((x.toNat : Nat) : Int) = ((y.toNat : Nat) : Int)) = False ∧ (x.toNat = y.toNat) = False ∧ (x = y) = False :=
  ⟨eq_false (fun q => h (UInt8.toNat_inj.1 (by omega))), eq_false (fun q => h (UInt8.toNat_inj.1 q)), eq_false h⟩

theorem acopy_sl {P : Program} {dt e : TypeId} (hu : P.underlying dt = some (.slice e)) (hs : tsize P e = some 1) {h h' : Heap} {x : AV} {l : List AV} {n : Nat} (hx : Sl 1 n h x l) (hl : l.all AV.one = true) {b i m cap : Nat} {ex : Bool} (hnm : n ≤ m) (hlay : alay h b i l = some h') :
    acopy P h dt (.sl b i m cap 1 ex) x = some (.int .i64 (n : Nat), h') := by
  have hlen := hx.length
  unfold acopy
  simp only [hu, hs]
  rw [show alen (.sl b i m cap 1 ex) = some m from rfl, hx.alen]
  simp only
  rw [show Nat.min n m = n from Nat.min_eq_left hnm, hx.acells]
  simp only
  rw [if_neg (by simp [hl, hlen])]
  simp only [hlay]
  simp

/-- A row, and 80 marks behind it. -/
def roomy (a : List UInt8) (m : UInt8) : List AV := a.map bb ++ List.replicate 80 (bb m)
theorem roomy_one (a : List UInt8) (m : UInt8) : (roomy a m).all AV.one = true := by
  unfold roomy
  rw [List.all_append, bb_one, List.all_replicate]
  rfl
def mid (a : List UInt8) (m : UInt8) (j : Nat) : List AV := a.map bb ++ List.replicate j (bb m) ++ List.replicate (80 - j) (.int .u8 0)
theorem mid_len (a : List UInt8) (m : UInt8) {j : Nat} (h : j ≤ 80) : (mid a m j).length = a.length + 80 := by
  unfold mid
  simp
  omega
theorem mid_set (a : List UInt8) (m : UInt8) {j : Nat} (h : j < 80) : (mid a m j).set (a.length + j) (bb m) = mid a m (j + 1) := by
  unfold mid
  have l1 : (a.map bb ++ List.replicate j (bb m)).length = a.length + j := by simp
  rw [List.set_append_right _ _ (by rw [l1]; exact Nat.le_refl _), l1, Nat.sub_self, show 80 - j = (80 - (j + 1)) + 1 by omega, List.replicate_succ, List.replicate_succ']
  simp
theorem mid_all (a : List UInt8) (m : UInt8) : mid a m 80 = roomy a m := by
  unfold mid roomy
  rw [Nat.sub_self, List.replicate_zero, List.append_nil]
end Go.Proofs.Ytangdhaihhgjkaa
/- Contracts of chapter 4's writers. -/
namespace Go.Proofs.Ytangdhaihhgjkaa
open Go Go.YtangdhaihhgjkaaAbs
set_option linter.unusedSimpArgs false
set_option linter.unusedVariables false
set_option maxRecDepth 4000

/-- A number in groups of seven bits, the lowest first. -/
def vint : Nat → Nat → List UInt8
  | 0, u => [UInt8.ofNat u]
  | f + 1, u => if u < 128 then [UInt8.ofNat u] else UInt8.ofNat (u % 128 + 128) :: vint f (u / 128)
/-- Numbers without a sign. -/
def zig (n : Int) : Nat := if 0 ≤ n then 2 * n.toNat else (-2 * n - 1).toNat
def packN (n : Int) : List UInt8 := vint 10 (zig n)
theorem vint_len : ∀ f u, (vint f u).length ≤ f + 1
  | 0, u => by simp [vint]
  | f + 1, u => by
    simp only [vint]
    split
    · simp
    · have := vint_len f (u / 128)
      simp
      omega
theorem vint_pos : ∀ f u, 1 ≤ (vint f u).length
  | 0, u => by simp [vint]
  | f + 1, u => by
    simp only [vint]
    split <;> simp
theorem zig_lt {n : Int} (h : -9223372036854775808 ≤ n) (h' : n ≤ 9223372036854775807) : zig n < 18446744073709551616 := by
  unfold zig
  split <;> omega
theorem xor_ones {x : Nat} (h : x < 18446744073709551616) : x ^^^ 18446744073709551615 = 18446744073709551615 - x := by
  have e := congrArg BitVec.toNat (BitVec.xor_allOnes (x := BitVec.ofNat 64 x))
  rw [BitVec.toNat_xor, BitVec.toNat_not, BitVec.toNat_ofNat, BitVec.toNat_allOnes] at e
  have hx : x % 2 ^ 64 = x := Nat.mod_eq_of_lt (by omega)
  rw [hx] at e
  simpa using e
theorem u64m {x : Nat} (h : x < 18446744073709551616) : x % modulus .u64 = x := Nat.mod_eq_of_lt h
theorem u64w {x : Nat} (h : x < 18446744073709551616) : fwrap .u64 (x : Int) = (x : Nat) := by
  simp [fwrap] <;> omega
theorem u64neg {n : Int} (h : -9223372036854775808 ≤ n) (h' : n < 0) : fwrap .u64 n = n + 18446744073709551616 := by
  rw [fwrap_eq]
  simp [IntKind.wrap, IntKind.signed, IntKind.bits]
  omega

theorem grown_ok (k : Nat) (h : Heap) (v : AV) (l : List UInt8) (g : Nat) (r : Sl 1 l.length h v (l.map bb)) (hl : l.length < 100000000) (hg : g < 100000000) :
    ∃ v' h', acall Try.prog (k + 1) 28 [v, .int .i64 (g : Nat)] h = some (v', h') ∧ Vec h.next nob 1 l.length h' v' (l.map bb) ∧ Keep h.next nob h h' := by
  rw [acall_text [] Try.func28 (by kernel_rfl)]
  refine afuncT_ex rfl (by simp [Try.f28]) ?_
  obtain ⟨M, hM⟩ : ∃ M, M = l.length + g := ⟨_, rfl⟩
  have w1 : fwrap .i64 ((l.length : Int) + (g : Int)) = (M : Nat) := by rw [i64w _ (by omega) (by omega)]; omega
  simp [Try.f28, r.len', w1, aalloc_make0 (P := Try.prog) el43 (z := [.int .u8 0]) az5 rfl rfl M (by omega), flat1]
  have V : Vec h.next nob 1 0 (h.new (.cells (List.replicate M (.int .u8 0)) false)) (.sl h.next 0 0 M 1 true) [] :=
    .inr ⟨h.next, 0, M, true, _, rfl, .inr (Nat.le_refl _), Nat.lt_succ_self _, get_new_self _ _, rfl, by simp, by omega, by simp, rfl⟩
  have r' := r.new (.cells (List.replicate M (.int .u8 0)) false)
  refine use (vec_append el43 (xt := 43) (by rw [Try.underlying43]; rfl) V r'.alen r'.acells (bb_one l) (by simp) (by omega) (Nat.le_succ _)) ?_
  intro v2 h2 hh
  have a1 := hh.1
  have a2 := hh.2
  clear hh
  simp at a1
  simp
  exact ⟨a1, (Keep.new (Nat.le_refl _) _).trans a2⟩

theorem or128 : ∀ x, x < 256 → x ||| 128 = x % 128 + 128 := by decide +kernel
theorem or_u8 {x : Nat} (h : x < 256) : fwrap .u8 (((x % modulus .u8) ||| (128 % modulus .u8) : Nat) : Int) = ((x % 128 + 128 : Nat) : Int) := by
  have e1 : x % modulus .u8 = x := Nat.mod_eq_of_lt h
  have e2 : 128 % modulus .u8 = 128 := by decide
  rw [e1, e2, or128 x h]
  simp [fwrap]
  omega
theorem ofNat_b {n : Nat} (h : n < 256) : ((UInt8.ofNat n).toNat : Nat) = n := by
  rw [UInt8.toNat_ofNat']
  omega
theorem fwrap_mod8 (u : Nat) : fwrap .u8 (u : Int) = ((u % 256 : Nat) : Int) := rfl

set_option maxHeartbeats 1000000 in
theorem num_ok (k : Nat) (hk : 40 < k) (h : Heap) (v : AV) (l : List UInt8) (n : Int) {m : Nat} {F : Nat → Prop} (V : Vec m F 1 l.length h v (l.map bb)) (hm : m ≤ h.next) (hl : l.length < 100000000) (h1 : -9223372036854775808 ≤ n) (h2 : n ≤ 9223372036854775807) :
    ∃ v' h', acall Try.prog (k + 1) 27 [v, .int .i64 n] h = some (v', h') ∧ Vec m F 1 (l ++ packN n).length h' v' ((l ++ packN n).map bb) ∧ Keep m F h h' := by
  rw [acall_text [] Try.func27 (by kernel_rfl)]
  refine afuncT_ex rfl (by simp [Try.f27]) ?_
  simp [Try.f27, -W_seq]
  rw [W_seq]
  simp [-W_seq]
  refine W_cut (fun s => s.h = h ∧ s.t.get 0 = some v ∧ s.t.get 5 = some (.int .u64 (zig n : Nat))) ?_ ?_
  · by_cases hn : 0 ≤ n
    · obtain ⟨N, rfl⟩ := Int.eq_ofNat_of_zero_le hn
      have hz : zig (N : Nat) = 2 * N := by unfold zig; rw [if_pos hn, Int.toNat_natCast]
      rw [hz]
      obtain ⟨A, hA⟩ : ∃ A, A = 2 * N := ⟨_, rfl⟩
      have s1 : fwrap .u64 (N : Int) = (N : Nat) := u64w (by omega)
      have s2 : fwrap .u64 ((N : Int) * 2) = (A : Nat) := by
        have : (N : Int) * 2 = ((A : Nat) : Int) := by omega
        rw [this, u64w (by omega)]
      have s3 : (N : Int) / 9223372036854775808 = 0 := by omega
      have s4 : fwrap .u64 (((A % modulus .u64) ^^^ (0 % modulus .u64) : Nat) : Int) = (A : Nat) := by
        rw [u64m (by omega), u64m (by omega), Nat.xor_zero, u64w (by omega)]
      have s5 : fwrap .u64 0 = 0 := rfl
      have s6 : fwrap .u64 ((A : Int) % ((modulus .u64 : Nat) : Int)) = (A : Nat) := by rw [← Int.natCast_emod, u64m (by omega), u64w (by omega)]
      rw [← hA]
      simp [s1, s2, s3, s4, s5, s6]
    · obtain ⟨A, hA⟩ : ∃ A : Nat, A = (n + 18446744073709551616).toNat := ⟨_, rfl⟩
      obtain ⟨B, hB⟩ : ∃ B : Nat, B = (2 * n + 18446744073709551616).toNat := ⟨_, rfl⟩
      obtain ⟨C, hC⟩ : ∃ C : Nat, C = 18446744073709551615 := ⟨_, rfl⟩
      have hz : zig n = C - B := by unfold zig; rw [if_neg hn]; omega
      rw [hz]
      have s1 : fwrap .u64 n = (A : Nat) := by rw [u64neg h1 (by omega)]; omega
      have s2 : fwrap .u64 ((A : Int) * 2) = (B : Nat) := by
        have : (A : Int) * 2 = ((A * 2 : Nat) : Int) := by omega
        rw [this]
        show ((A * 2 % 18446744073709551616 : Nat) : Int) = _
        omega
      have s3 : n.fdiv 9223372036854775808 = -1 := by
        rw [Int.fdiv_eq_ediv_of_nonneg _ (by omega)]; omega
      have s3' : fshift .shr .i64 n 63 = none := by
        cases n with
        | ofNat x => exact absurd (Int.natCast_nonneg x) hn
        | negSucc x => rfl
      have s5 : fwrap .u64 (-1) = (C : Nat) := by rw [u64neg (by omega) (by omega), hC]; rfl
      obtain ⟨D, hD⟩ : ∃ D : Nat, D = C - B := ⟨_, rfl⟩
      have s4 : fwrap .u64 (((B % modulus .u64) ^^^ (C % modulus .u64) : Nat) : Int) = (D : Nat) := by
        rw [u64m (by omega), u64m (by omega), hC, xor_ones (by omega), hD, hC, u64w (by omega)]
      rw [← hD]
      simp [s1, s2, s3, s3', s4, s5]
  rintro ⟨t, h'⟩ ⟨rfl, q0, q5⟩
  simp only at q0 q5
  have hz := zig_lt h1 h2
  have hbig : zig n < 128 ^ (10 + 1) := Nat.lt_of_lt_of_le hz (by decide)
  simp
  refine W_cutLoop 0 (fun st => ∃ u w lc, u < 128 ∧ st.t.get 0 = some w ∧ st.t.get 5 = some (.int .u64 (u : Nat)) ∧ Vec m F 1 lc.length st.h w (lc.map bb) ∧ Keep m F h' st.h ∧ lc ++ [UInt8.ofNat u] = l ++ packN n ∧ lc.length ≤ l.length + 10) ?_ ?_
  · refine W_loop (fun q st => ∃ u w lc, q ≤ 10 ∧ u < 128 ^ (q + 1) ∧ u < 18446744073709551616 ∧ st.t.get 0 = some w ∧ st.t.get 5 = some (.int .u64 (u : Nat)) ∧ Vec m F 1 lc.length st.h w (lc.map bb) ∧ Keep m F h' st.h ∧ lc ++ vint q u = l ++ packN n ∧ lc.length + q ≤ l.length + 10) 10 (by omega)
      ⟨zig n, v, l, by omega, hbig, hz, q0, q5, V, Keep.refl _ _ _, rfl, by omega⟩ ?_
    rintro q ⟨t, h3⟩ ⟨u, w, lc, hq, hu, hu64, q0, q5, hV, hK, hE, hL⟩
    simp only at q0 q5 hV hK
    by_cases hlt : u < 128
    · have hv : vint q u = [UInt8.ofNat u] := by
        cases q with
        | zero => rfl
        | succ q => simp only [vint]; rw [if_pos hlt]
      rw [hv] at hE
      have hl' := isLt (show (u : Int) < 128 by omega)
      simp [q0, q5, hl']
      exact ⟨u, hlt, rfl, lc, hV, hK, hE, by omega⟩
    · obtain ⟨q, rfl⟩ : ∃ q', q = q' + 1 := by
        cases q with
        | zero => simp at hu; omega
        | succ q => exact ⟨q, rfl⟩
      have hv : vint (q + 1) u = UInt8.ofNat (u % 128 + 128) :: vint q (u / 128) := by simp only [vint]; rw [if_neg hlt]
      rw [hv] at hE
      have hl' := isLe (show (128 : Int) ≤ (u : Int) by omega)
      obtain ⟨e, he⟩ : ∃ e, e = u % 256 := ⟨_, rfl⟩
      obtain ⟨g, hg⟩ : ∃ g, g = UInt8.ofNat (u % 128 + 128) := ⟨_, rfl⟩
      have hgn : g.toNat = u % 128 + 128 := by rw [hg]; exact ofNat_b (by omega)
      have c1 : fwrap .u8 (u : Int) = (e : Nat) := by rw [he]; rfl
      have c2 : fwrap .u8 (((e % modulus .u8) ||| (128 % modulus .u8) : Nat) : Int) = (g.toNat : Nat) := by rw [or_u8 (by omega), hgn]; omega
      have hu2 : u / 128 < 128 ^ (q + 1) := by
        rw [Nat.pow_succ, Nat.mul_comm] at hu
        exact Nat.div_lt_of_lt_mul hu
      simp [q0, q5, hl', c1, c2, aalloc, afill, AV.row1, AV.row, AV.one]
      refine use (vec_push el43 hV (a := [.int .u8 (g.toNat : Nat)]) (by rfl) (by rfl) (by omega) (Nat.le_trans hm hK.1)) ?_
      intro w2 h4 hh
      have hV2 := hh.1
      have hK2 := hh.2
      clear hh
      simp [q5]
      refine ⟨q, by omega, by omega, u / 128, hu2, by omega, by omega, lc ++ [g], by rw [List.length_append, List.map_append]; exact hV2, hK.trans hK2, ?_, by simp; omega⟩
      rw [List.append_assoc, hg]
      exact hE
  rintro ⟨t, h3⟩ ⟨u, w, lc, hu, q0, q5, hV, hK, hE, hL⟩
  simp only at q0 q5 hV hK
  have c1 : fwrap .u8 (u : Int) = (u : Nat) := by rw [fwrap_mod8]; omega
  have hb : bb (UInt8.ofNat u) = .int .u8 (u : Nat) := by unfold bb; rw [ofNat_b (by omega)]
  simp [q0, q5, c1, aalloc, afill, AV.row1, AV.row, AV.one]
  refine use (vec_push el43 hV (a := [.int .u8 (u : Nat)]) (by rfl) (by rfl) (by omega) (Nat.le_trans hm hK.1)) ?_
  intro w2 h4 hh
  have hV2 := hh.1
  have hK2 := hh.2
  clear hh
  rw [← hE]
  simp [hb]
  exact ⟨by simpa using hV2, hK.trans hK2⟩

theorem or_one2 {N : Nat} (h : N < 9223372036854775808) : fwrap .u64 ((((2 * N) % modulus .u64) ||| (1 % modulus .u64) : Nat) : Int) = ((2 * N + 1 : Nat) : Int) := by
  rw [u64m (by omega), u64m (by omega)]
  have := Nat.two_pow_add_eq_or_of_lt (i := 1) (b := 1) (by omega) N
  rw [Nat.pow_one] at this
  rw [← this, u64w (by omega)]
theorem and127 {u : Nat} (h : u < 18446744073709551616) : fwrap .u64 (((u % modulus .u64) &&& (127 % modulus .u64) : Nat) : Int) = ((u % 128 : Nat) : Int) := by
  rw [u64m h, u64m (by omega)]
  have := Nat.and_two_pow_sub_one_eq_mod u 7
  have e : u &&& 127 = u % 128 := this
  rw [e, u64w (by omega)]
/-- A text's bytes. -/
def sb (s : ByteArray) : List UInt8 := s.data.toList
theorem sb_len (s : ByteArray) : (sb s).length = s.size := by unfold sb; rw [Array.length_toList]; rfl
theorem str_cells (h : Heap) (s : ByteArray) : acells h 1 s.size (.str s) = some ((sb s).map bb) := by
  show (if 1 = 1 then some ((s.data.toList.take s.size).map fun b => AV.int .u8 b.toNat) else none) = _
  rw [if_pos rfl]
  have : s.data.toList.take s.size = s.data.toList := List.take_of_length_le (by rw [Array.length_toList]; exact Nat.le_refl _)
  rw [this]
  rfl
def packT (s : ByteArray) : List UInt8 := packN (s.size : Nat) ++ sb s
theorem packText_ok (k : Nat) (hk : 40 < k) (h : Heap) (v : AV) (l : List UInt8) (s : ByteArray) (r : Sl 1 l.length h v (l.map bb)) (hl : l.length < 90000000) (hs : s.size < 9000000) :
    ∃ v' h', acall Try.prog (k + 2) 16 [v, .str s] h = some (v', h') ∧ Vec h.next nob 1 (l ++ packT s).length h' v' ((l ++ packT s).map bb) ∧ Keep h.next nob h h' := by
  rw [acall_text [] Try.func16 (by kernel_rfl)]
  refine afuncT_ex rfl (by simp [Try.f16]) ?_
  obtain ⟨G, hG⟩ : ∃ G, G = 10 + s.size := ⟨_, rfl⟩
  have w1 : fwrap .i64 (10 + (s.size : Int)) = (G : Nat) := by rw [i64w _ (by omega) (by omega)]; omega
  simp [Try.f16, w1]
  refine use (grown_ok k h v l G r (by omega) (by omega)) ?_
  intro v3 h3 hh
  have hV := hh.1
  have hK := hh.2
  clear hh
  simp
  refine use (num_ok k hk h3 v3 l (s.size : Nat) hV hK.1 (by omega) (by omega) (by omega)) ?_
  intro v4 h4 hh
  have hV4 := hh.1
  have hK4 := hh.2
  clear hh
  have hpl := vint_len 10 (zig (s.size : Nat))
  have hln : (l ++ packN (s.size : Nat)).length ≤ l.length + 11 := by rw [List.length_append]; unfold packN; omega
  simp
  refine use (vec_append el43 (xt := 9) (by rw [Try.underlying9]; rfl) hV4 (x := .str s) (k := s.size) rfl (str_cells h4 s) (bb_one _) (by rw [List.length_map, sb_len]; omega) (by omega) (Nat.le_trans hK.1 hK4.1)) ?_
  intro v5 h5 hh
  have hV5 := hh.1
  have hK5 := hh.2
  clear hh
  simp [(hK.trans hK4).trans hK5]
  unfold packT
  rw [← List.map_append, List.append_assoc] at hV5
  have e : (l ++ packN (s.size : Nat)).length + s.size = l.length + (packN (s.size : Nat) ++ sb s).length := by rw [List.length_append, List.length_append, sb_len]; omega
  rw [e] at hV5
  simpa using hV5
end Go.Proofs.Ytangdhaihhgjkaa
/- Contracts of chapter 4's reader. -/
namespace Go.Proofs.Ytangdhaihhgjkaa
open Go Go.YtangdhaihhgjkaaAbs
set_option linter.unusedSimpArgs false
set_option linter.unusedVariables false
set_option maxRecDepth 4000

/-- A reader in block b: its bytes, its place, what is wrong. -/
def Rdr (h : Heap) (b : Nat) (w : AV) (l : List UInt8) (p : Nat) (e : Int) : Prop :=
  h.get b = some (.cells [w, .int .i64 (p : Nat), .int .i64 e] false) ∧ b < h.next ∧ Sl 1 l.length h w (l.map bb) ∧ ∀ c i n k s x, w = .sl c i n k s x → c ≠ b
theorem Rdr.set {h : Heap} {b : Nat} {w : AV} {l : List UInt8} {p : Nat} {e : Int} (r : Rdr h b w l p e) (p' : Nat) (e' : Int) : Rdr (h.set b (.cells [w, .int .i64 (p' : Nat), .int .i64 e'] false)) b w l p' e' := by
  obtain ⟨_, r2, r3, r4⟩ := r
  refine ⟨get_set_self _ _ _, r2, r3.keep (m := h.next) (F := fun c => c = b) (Keep.set (F := fun c => c = b) (.inl rfl) _) fun c i n k s x hw => ⟨?_, r4 c i n k s x hw⟩, r4⟩
  rcases r3 with ⟨q, _⟩ | ⟨q, _⟩ | ⟨c', i', cap, ex, cc, ro, q, q2, _⟩
  · rw [q] at hw; cases hw
  · rw [q] at hw; cases hw
  · rw [q] at hw; cases hw; exact q2

theorem read_ok (k : Nat) (h : Heap) (v : AV) (l : List UInt8) (r : Sl 1 l.length h v (l.map bb)) (hl : l.length < 100000000) :
    ∃ v' h', acall Try.prog (k + 2) 29 [v] h = some (v', h') ∧ ∃ (b : Nat) (w : AV), v' = .ptr b 0 ∧ h.next ≤ b ∧ b < h'.next ∧ Rdr h' b w l 0 0 ∧ Keep h.next nob h h' := by
  rw [acall_text [] Try.func29 (by kernel_rfl)]
  refine afuncT_ex rfl (by simp [Try.f29]) ?_
  simp [Try.f29]
  refine use (grown_ok k h v l 0 r hl (by omega)) ?_
  intro w h2 hh
  have hV := hh.1.sl
  have hK := hh.2
  clear hh
  have fin : ∀ h3, h3 = h2.new (.cells [w, .int .i64 0, .int .i64 0] false) → ∃ (b : Nat) (w' : AV), AV.ptr h2.next 0 = .ptr b 0 ∧ h.next ≤ b ∧ b < h3.next ∧ Rdr h3 b w' l 0 0 ∧ Keep h.next nob h h3 := fun h3 e => by
    subst e
    exact ⟨h2.next, w, rfl, hK.1, Nat.lt_succ_self _, ⟨get_new_self _ _, Nat.lt_succ_self _, hV.new _, by
      intro c i n k s x hw
      rcases hV with ⟨q, _⟩ | ⟨q, _⟩ | ⟨c', i', cap, ex, cc, ro, q, q2, _⟩
      · rw [q] at hw; cases hw
      · rw [q] at hw; cases hw
      · rw [q] at hw; cases hw; exact Nat.ne_of_lt q2⟩, hK.trans (Keep.new hK.1 _)⟩
  have f := fin _ rfl
  rcases hV with ⟨rfl, _⟩ | ⟨rfl, _⟩ | ⟨b, i, cap, ex, c, ro, rfl, _⟩ <;> simp [afill, aalloc, AV.row1, AV.row, AV.one] <;> simpa using f
theorem wrong_ok (k : Nat) (h : Heap) (b p : Nat) (w : AV) (l : List UInt8) (e : Int) (r : Rdr h b w l p e) :
    acall Try.prog (k + 1) 32 [.ptr b 0] h = some (.int .i64 e, h) := by
  rw [acall_text [] Try.func32 (by kernel_rfl)]
  refine afuncT_of rfl (by simp [Try.f32]) ?_
  have g := r.1
  simp [Try.f32, aload, Heap.row, g]
theorem at_ok (k : Nat) (h : Heap) (b p : Nat) (w : AV) (l : List UInt8) (e : Int) (r : Rdr h b w l p e) :
    acall Try.prog (k + 1) 30 [.ptr b 0] h = some (.int .i64 (p : Nat), h) := by
  rw [acall_text [] Try.func30 (by kernel_rfl)]
  refine afuncT_of rfl (by simp [Try.f30]) ?_
  have g := r.1
  simp [Try.f30, aload, Heap.row, g]
theorem fail_ok (k : Nat) (h : Heap) (b p : Nat) (w : AV) (l : List UInt8) (e : Int) (r : Rdr h b w l p e) (p' : Nat) (e' : Int) :
    ∃ v' h', acall Try.prog (k + 1) 40 [.ptr b 0, .int .i64 (p' : Nat), .int .i64 e'] h = some (v', h') ∧ Rdr h' b w l p' e' ∧ Keep h.next (fun c => c = b) h h' := by
  rw [acall_text [] Try.func40 (by kernel_rfl)]
  refine afuncT_ex rfl (by simp [Try.f40]) ?_
  have g := r.1
  have s1 : alay h b 1 [.int .i64 (p' : Nat)] = some (h.set b (.cells [w, .int .i64 (p' : Nat), .int .i64 e] false)) := by
    unfold alay; rw [g]; rfl
  have r1 := r.set p' e
  generalize hh1 : h.set b (.cells [w, .int .i64 (p' : Nat), .int .i64 e] false) = h1 at s1 r1
  have s2 : alay h1 b 2 [.int .i64 e'] = some (h1.set b (.cells [w, .int .i64 (p' : Nat), .int .i64 e'] false)) := by
    unfold alay; rw [r1.1]; rfl
  have r2 := r1.set p' e'
  have kk : Keep h.next (fun c => c = b) h h1 := by rw [← hh1]; exact Keep.set (F := fun c => c = b) (.inl rfl) _
  have k2 := kk.trans (Keep.set (n := h.next) (F := fun c => c = b) (.inl rfl) (.cells [w, .int .i64 (p' : Nat), .int .i64 e'] false))
  simp [Try.f40, AV.row1, AV.row, AV.one, s1, s2]
  exact ⟨r2, k2⟩
/-- What a number's bytes say: what is wrong, or the number and how many bytes it took. -/
def rdN (i u : Nat) : List UInt8 → Sum Int (Nat × Nat)
  | [] => .inl 3
  | x :: r => if (0 < i ∧ x.toNat = 0) ∨ (i = 9 ∧ 1 < x.toNat) then .inl 4 else
    if x.toNat < 128 then .inr (u + x.toNat * 128 ^ i, i + 1) else rdN (i + 1) (u + (x.toNat % 128) * 128 ^ i) r
def unzig (u : Nat) : Int := if u % 2 = 0 then (u / 2 : Nat) else -1 - (u / 2 : Nat)
def numSaid (h : Heap) (b : Nat) (w : AV) (l : List UInt8) (p : Nat) (v : AV) (h' : Heap) : Sum Int (Nat × Nat) → Prop
  | .inl e => v = .int .i64 0 ∧ Rdr h' b w l p e
  | .inr (u, c) => v = .int .i64 (unzig u) ∧ Rdr h' b w l (p + c) 0

set_option maxHeartbeats 1000000 in
theorem rdNum_ok (k : Nat) (hk : 40 < k) (h : Heap) (b p : Nat) (w : AV) (l : List UInt8) (r : Rdr h b w l p 0) (hp : p ≤ l.length) (hl : l.length < 100000000) :
    ∃ v' h', acall Try.prog (k + 2) 45 [.ptr b 0] h = some (v', h') ∧ numSaid h b w l p v' h' (rdN 0 0 (l.drop p)) ∧ Keep h.next (fun c => c = b) h h' := by
  rw [acall_text [] Try.func45 (by kernel_rfl)]
  refine afuncT_ex rfl (by simp [Try.f45]) ?_
  have g := r.1
  simp [Try.f45, aload, Heap.row, g]
  obtain ⟨W0, hW⟩ : ∃ W0, W0 = rdN 0 0 (l.drop p) := ⟨_, rfl⟩
  rw [← hW]
  refine W_loop (fun m st => ∃ (i u : Nat), m = 10 - i ∧ i ≤ 9 ∧ u < 128 ^ i ∧ p + i ≤ l.length ∧ st.t.get 0 = some (.ptr b 0) ∧ st.t.get 3 = some (.int .i64 (p : Nat)) ∧ st.t.get 4 = some (.int .u64 (u : Nat)) ∧ st.t.get 5 = some (.int .i64 (i : Nat)) ∧ Rdr st.h b w l (p + i) 0 ∧ Keep h.next (fun c => c = b) h st.h ∧ W0 = rdN i u (l.drop (p + i))) 10 (by omega)
    ⟨0, 0, by simp [r, hp, Keep.refl, hW]⟩ ?_
  rintro m ⟨t, h5⟩ ⟨i, u, rfl, hi, hu, hpi, q0, q3, q4, q5, R, hK, hE⟩
  simp only at q0 q3 q4 q5 R hK
  obtain ⟨q, hq⟩ : ∃ q, q = p + i := ⟨_, rfl⟩
  rw [← hq] at R hpi hE
  have g5 := R.1
  have S5 := R.2.2.1
  by_cases hend : q = l.length
  · subst hend
    have hE2 : rdN i u (l.drop l.length) = .inl 3 := by simp [rdN]
    have iv : ieq (l.length : Int) (l.length : Int) = true := by simp
    rw [hE2] at hE
    subst hE
    simp [q0, q3, q4, q5, aload, Heap.row, g5, S5.len']
    refine use (fail_ok k h5 b l.length w l 0 R p 3) ?_
    intro z h6 hh
    have R6 := hh.1
    have k6 := hh.2
    clear hh
    simp
    exact ⟨⟨rfl, R6⟩, hK.trans (k6.weak hK.1 fun _ _ q => q)⟩
  · obtain ⟨x, hx⟩ : ∃ x, l[q]? = some x := ⟨_, List.getElem?_eq_getElem (by omega)⟩
    obtain ⟨b', o', c2', ro', p1', p2', p3'⟩ := S5.at1 (P := Try.prog) (ty := 43) (e := 5) (k := .i64) Try.underlying43 ts5 (j := q) (x := bb x) (by simp [hx])
    have hne : ¬ ((q : Int) = (l.length : Int)) := by omega
    obtain ⟨y, hy⟩ : ∃ y, y = x.toNat := ⟨_, rfl⟩
    have hyl : y < 256 := by rw [hy]; exact x.toNat_lt
    have hbx : bb x = .int .u8 (y : Nat) := by rw [hy]; rfl
    rw [hbx] at p3'
    have hdr : l.drop q = x :: l.drop (q + 1) := by
      obtain ⟨a1, a2⟩ := List.getElem?_eq_some_iff.1 hx
      rw [List.drop_eq_getElem_cons a1, a2]
    rw [hdr] at hE
    simp only [rdN, ← hy] at hE
    have bad : (0 < i ∧ y = 0) ∨ (i = 9 ∧ 1 < y) → W0 = .inl 4 := fun q => by rw [hE, if_pos q]
    have good : ¬ ((0 < i ∧ y = 0) ∨ (i = 9 ∧ 1 < y)) → W0 = if y < 128 then .inr (u + y * 128 ^ i, i + 1) else rdN (i + 1) (u + (y % 128) * 128 ^ i) (l.drop (q + 1)) := fun q => by rw [hE, if_neg q]
    have fails : W0 = .inl 4 → ∀ (t : Tr AV) (h6 : Heap), Rdr h6 b w l p 4 ∧ Keep h5.next (fun c => c = b) h5 h6 → numSaid h b w l p (.int .i64 0) h6 W0 ∧ Keep h.next (fun c => c = b) h h6 := fun e _ h6 hh => by
      rw [e]
      exact ⟨⟨rfl, hh.1⟩, hK.trans (hh.2.weak hK.1 fun _ _ q => q)⟩
    obtain ⟨z, hz⟩ : ∃ z, z = y % 128 := ⟨_, rfl⟩
    obtain ⟨s, hs⟩ : ∃ s, s = 7 * i := ⟨_, rfl⟩
    have s1 : alay h5 b 1 [.int .i64 ((q : Int) + 1)] = some (h5.set b (.cells [w, .int .i64 ((q + 1 : Nat) : Int), .int .i64 0] false)) := by
      unfold alay; rw [g5]; rfl
    have R5 := R.set (q + 1) 0
    have k5 : Keep h5.next (fun c => c = b) h5 (h5.set b (.cells [w, .int .i64 ((q + 1 : Nat) : Int), .int .i64 0] false)) := Keep.set (F := fun c => c = b) (.inl rfl) _
    have w1 := i64w ((q : Int) + 1) (by omega) (by omega)
    have w2 : fwrap .i64 (7 * (i : Int)) = (s : Nat) := by rw [i64w _ (by omega) (by omega)]; omega
    have w3 : fwrap .u64 (s : Int) = (s : Nat) := u64w (by omega)
    have w4 : fwrap .u8 (((y % modulus .u8) &&& (127 % modulus .u8) : Nat) : Int) = (z : Nat) := by
      have e1 : y % modulus .u8 = y := Nat.mod_eq_of_lt hyl
      have e2 : 127 % modulus .u8 = 127 := by decide
      have e3 : y &&& 127 = y % 128 := Nat.and_two_pow_sub_one_eq_mod y 7
      rw [e1, e2, e3, ← hz, fwrap_mod8, Nat.mod_eq_of_lt (by omega)]
    have w5 : fwrap .u64 (z : Int) = (z : Nat) := u64w (by omega)
    generalize hh7 : h5.set b (.cells [w, .int .i64 ((q + 1 : Nat) : Int), .int .i64 0] false) = h7 at s1 R5 k5
    have fit : (i ≤ 8 ∨ i = 9 ∧ z ≤ 1) → ∃ A U : Nat, A = z * 128 ^ i ∧ U = u + A ∧ U < 18446744073709551616 ∧ fwrap .u64 ((z : Int) * 2 ^ min s 64) = (A : Nat) ∧ fwrap .u64 (((u % modulus .u64) ||| (A % modulus .u64) : Nat) : Int) = (U : Nat) ∧ (i ≤ 8 → U < 128 ^ (i + 1)) := fun hf => by
      have hp2 : (2 : Nat) ^ s = 128 ^ i := by rw [hs, Nat.pow_mul]
      have hmin : min s 64 = s := by omega
      obtain ⟨M, hM⟩ : ∃ M, M = 128 ^ i := ⟨_, rfl⟩
      obtain ⟨A, hA⟩ : ∃ A, A = z * M := ⟨_, rfl⟩
      have hM2 : M * 128 ≤ 9223372036854775808 ∨ M = 9223372036854775808 := by
        rcases hf with q | ⟨q, _⟩
        · left
          have := Nat.pow_le_pow_right (n := 128) (by omega) (show i + 1 ≤ 9 by omega)
          rw [Nat.pow_succ, ← hM] at this
          exact this
        · right; rw [hM, q]
      rw [← hM] at hu
      have hzl : z < 128 := by omega
      have hA1 : A ≤ 127 * M := by rw [hA]; exact Nat.mul_le_mul_right _ (by omega)
      have hA2 : i = 9 → A ≤ M := fun q => by
        rw [hA]
        have : z * M ≤ 1 * M := Nat.mul_le_mul_right _ (by omega)
        omega
      have hM9 : i ≤ 8 → M * 128 ≤ 9223372036854775808 := fun q => by
        have := Nat.pow_le_pow_right (n := 128) (by omega) (show i + 1 ≤ 9 by omega)
        rw [Nat.pow_succ, ← hM] at this
        exact this
      have hM9' : i = 9 → M = 9223372036854775808 := fun q => by rw [hM, q]
      have hU : u + A < 18446744073709551616 := by
        rcases hf with q | ⟨q, _⟩
        · have := hM9 q; omega
        · have := hM9' q; have := hA2 q; omega
      refine ⟨A, u + A, by rw [hA, hM], rfl, hU, ?_, ?_, fun q => by rw [Nat.pow_succ, ← hM]; omega⟩
      · rw [hmin]
        have e : (z : Int) * 2 ^ s = ((z * 2 ^ s : Nat) : Int) := by simp
        rw [e, hp2, ← hM, ← hA, u64w (by omega)]
      · rw [u64m (by omega), u64m (by omega)]
        have e := Nat.two_pow_add_eq_or_of_lt (i := s) (b := u) (by rw [hp2, ← hM]; exact hu) z
        rw [hp2, ← hM, Nat.mul_comm, ← hA] at e
        rw [Nat.or_comm, ← e, Nat.add_comm, u64w (by omega)]
    by_cases hi0 : i = 0
    · have hi9 : ¬ (i = 9) := by omega
      have hi9' : ¬ ((i : Int) = 9) := by omega
      have hi0e : (i = 0) = True := eq_true hi0
      obtain ⟨A, U, hA, hU, hUl, w6, w7, hU8⟩ := fit (.inl (by omega))
      have w8 := i64w ((i : Int) + 1) (by omega) (by omega)
      by_cases hy128 : y < 128
      · have hyL := isLt (show (y : Int) < 128 by omega)
        have g0 := good (by omega)
        rw [if_pos hy128] at g0
        have hzy : z = y := by omega
        rw [← hzy, ← hA, ← hU] at g0
        have v1 : fwrap .i64 ((U : Int) / 2) = ((U / 2 : Nat) : Int) := by rw [i64w _ (by omega) (by omega)]; omega
        obtain ⟨V, hV⟩ : ∃ V, V = U / 2 := ⟨_, rfl⟩
        rw [← hV] at v1
        have v2 : fwrap .u64 (((U % modulus .u64) &&& (1 % modulus .u64) : Nat) : Int) = ((U % 2 : Nat) : Int) := by
          rw [u64m (by omega), u64m (by omega), Nat.and_one_is_mod, u64w (by omega)]
        have f0 : fwrap .i64 0 = 0 := rfl
        have f1 : fwrap .i64 1 = 1 := rfl
        have f2 : fwrap .i64 (-1) = -1 := i64w _ (by omega) (by omega)
        have kE := hK.trans (k5.weak hK.1 fun _ _ q => q)
        have R6 : Rdr h7 b w l (p + (i + 1)) 0 := by rw [show p + (i + 1) = q + 1 by omega]; exact R5
        by_cases hev : U % 2 = 0
        · rw [hev] at v2
          have v3 : fwrap .i64 ((V : Int) % ((modulus .i64 : Nat) : Int)) = (V : Nat) := by
            have e1 : V % modulus .i64 = V := Nat.mod_eq_of_lt (show V < 18446744073709551616 by omega)
            rw [← Int.natCast_emod, e1, i64w _ (by omega) (by omega)]
          have hun : unzig U = (V : Nat) := by unfold unzig; rw [if_pos hev, hV]
          simp [q0, q3, q4, q5, aload, Heap.row, g5, S5.len', hne, p1', p2', p3', hi0e, hi9', AV.row1, AV.row, AV.one, w1, s1, w2, w3, w4, w5, w6, w7, hyL, v1, v2, v3, f0, f1, f2]
          rw [g0]
          exact ⟨⟨by rw [hun], R6⟩, kE⟩
        · rw [show U % 2 = 1 by omega] at v2
          have hb1 : -9223372036854775808 ≤ (V : Int) ∧ (V : Int) ≤ 9223372036854775807 := by omega
          have hun : unzig U = -1 - (V : Nat) := by unfold unzig; rw [if_neg hev, hV]
          simp [q0, q3, q4, q5, aload, Heap.row, g5, S5.len', hne, p1', p2', p3', hi0e, hi9', AV.row1, AV.row, AV.one, w1, s1, w2, w3, w4, w5, w6, w7, hyL, v1, v2, f0, f1, f2, hb1.1, hb1.2]
          rw [g0]
          exact ⟨⟨by rw [hun], R6⟩, kE⟩
      · have hyL := isLe (show (128 : Int) ≤ (y : Int) by omega)
        simp [q0, q3, q4, q5, aload, Heap.row, g5, S5.len', hne, p1', p2', p3', hi0e, hi9', AV.row1, AV.row, AV.one, w1, s1, w2, w3, w4, w5, w6, w7, hyL, w8]
        have g0 := good (by omega)
        rw [if_neg hy128, ← hz, ← hA, ← hU] at g0
        have R6 : Rdr h7 b w l (p + (i + 1)) 0 := by rw [show p + (i + 1) = q + 1 by omega]; exact R5
        rw [show q + 1 = p + (i + 1) by omega] at g0
        exact ⟨10 - (i + 1), by omega, i + 1, rfl, by omega, U, hU8 (by omega), by omega, rfl, by simp, R6, hK.trans (k5.weak hK.1 fun _ _ q => q), g0⟩
    · by_cases hy0 : y = 0
      · simp [q0, q3, q4, q5, aload, Heap.row, g5, S5.len', hne, p1', p2', p3', hi0, hy0]
        refine use (fail_ok k h5 b q w l 0 R p 4) ?_
        intro z h6 hh
        have f := fails (bad (.inl ⟨by omega, hy0⟩)) t h6 hh
        simp
        exact f
      · by_cases hi9 : i = 9
        · by_cases hy1 : 1 < y
          · have hy1' := isLt (show (1 : Int) < (y : Int) by omega)
            simp [q0, q3, q4, q5, aload, Heap.row, g5, S5.len', hne, p1', p2', p3', hi0, hy0, hi9, hy1, hy1']
            refine use (fail_ok k h5 b q w l 0 R p 4) ?_
            intro z h6 hh
            have f := fails (bad (.inr ⟨hi9, hy1⟩)) t h6 hh
            simp
            exact f
          · have hy1' := isLe (show (y : Int) ≤ 1 by omega)
            have hi9e : ((i : Int) = 9) = True := eq_true (by omega)
            obtain ⟨A, U, hA, hU, hUl, w6, w7, hU8⟩ := fit (.inr ⟨hi9, by omega⟩)
            have w8 := i64w ((i : Int) + 1) (by omega) (by omega)
            by_cases hy128 : y < 128
            · have hyL := isLt (show (y : Int) < 128 by omega)
              have g0 := good (by omega)
              rw [if_pos hy128] at g0
              have hzy : z = y := by omega
              rw [← hzy, ← hA, ← hU] at g0
              have v1 : fwrap .i64 ((U : Int) / 2) = ((U / 2 : Nat) : Int) := by rw [i64w _ (by omega) (by omega)]; omega
              obtain ⟨V, hV⟩ : ∃ V, V = U / 2 := ⟨_, rfl⟩
              rw [← hV] at v1
              have v2 : fwrap .u64 (((U % modulus .u64) &&& (1 % modulus .u64) : Nat) : Int) = ((U % 2 : Nat) : Int) := by
                rw [u64m (by omega), u64m (by omega), Nat.and_one_is_mod, u64w (by omega)]
              have f0 : fwrap .i64 0 = 0 := rfl
              have f1 : fwrap .i64 1 = 1 := rfl
              have f2 : fwrap .i64 (-1) = -1 := i64w _ (by omega) (by omega)
              have kE := hK.trans (k5.weak hK.1 fun _ _ q => q)
              have R6 : Rdr h7 b w l (p + (i + 1)) 0 := by rw [show p + (i + 1) = q + 1 by omega]; exact R5
              by_cases hev : U % 2 = 0
              · rw [hev] at v2
                have v3 : fwrap .i64 ((V : Int) % ((modulus .i64 : Nat) : Int)) = (V : Nat) := by
                  have e1 : V % modulus .i64 = V := Nat.mod_eq_of_lt (show V < 18446744073709551616 by omega)
                  rw [← Int.natCast_emod, e1, i64w _ (by omega) (by omega)]
                have hun : unzig U = (V : Nat) := by unfold unzig; rw [if_pos hev, hV]
                simp [q0, q3, q4, q5, aload, Heap.row, g5, S5.len', hne, p1', p2', p3', hi0, hy0, hi9e, hy1, hy1', AV.row1, AV.row, AV.one, w1, s1, w2, w3, w4, w5, w6, w7, hyL, v1, v2, v3, f0, f1, f2]
                rw [g0]
                exact ⟨⟨by rw [hun], R6⟩, kE⟩
              · rw [show U % 2 = 1 by omega] at v2
                have hb1 : -9223372036854775808 ≤ (V : Int) ∧ (V : Int) ≤ 9223372036854775807 := by omega
                have hun : unzig U = -1 - (V : Nat) := by unfold unzig; rw [if_neg hev, hV]
                simp [q0, q3, q4, q5, aload, Heap.row, g5, S5.len', hne, p1', p2', p3', hi0, hy0, hi9e, hy1, hy1', AV.row1, AV.row, AV.one, w1, s1, w2, w3, w4, w5, w6, w7, hyL, v1, v2, f0, f1, f2, hb1.1, hb1.2]
                rw [g0]
                exact ⟨⟨by rw [hun], R6⟩, kE⟩
            · omega
        · have hi9' : ¬ ((i : Int) = 9) := by omega
          obtain ⟨A, U, hA, hU, hUl, w6, w7, hU8⟩ := fit (.inl (by omega))
          have w8 := i64w ((i : Int) + 1) (by omega) (by omega)
          by_cases hy128 : y < 128
          · have hyL := isLt (show (y : Int) < 128 by omega)
            have g0 := good (by omega)
            rw [if_pos hy128] at g0
            have hzy : z = y := by omega
            rw [← hzy, ← hA, ← hU] at g0
            have v1 : fwrap .i64 ((U : Int) / 2) = ((U / 2 : Nat) : Int) := by rw [i64w _ (by omega) (by omega)]; omega
            obtain ⟨V, hV⟩ : ∃ V, V = U / 2 := ⟨_, rfl⟩
            rw [← hV] at v1
            have v2 : fwrap .u64 (((U % modulus .u64) &&& (1 % modulus .u64) : Nat) : Int) = ((U % 2 : Nat) : Int) := by
              rw [u64m (by omega), u64m (by omega), Nat.and_one_is_mod, u64w (by omega)]
            have f0 : fwrap .i64 0 = 0 := rfl
            have f1 : fwrap .i64 1 = 1 := rfl
            have f2 : fwrap .i64 (-1) = -1 := i64w _ (by omega) (by omega)
            have kE := hK.trans (k5.weak hK.1 fun _ _ q => q)
            have R6 : Rdr h7 b w l (p + (i + 1)) 0 := by rw [show p + (i + 1) = q + 1 by omega]; exact R5
            by_cases hev : U % 2 = 0
            · rw [hev] at v2
              have v3 : fwrap .i64 ((V : Int) % ((modulus .i64 : Nat) : Int)) = (V : Nat) := by
                have e1 : V % modulus .i64 = V := Nat.mod_eq_of_lt (show V < 18446744073709551616 by omega)
                rw [← Int.natCast_emod, e1, i64w _ (by omega) (by omega)]
              have hun : unzig U = (V : Nat) := by unfold unzig; rw [if_pos hev, hV]
              simp [q0, q3, q4, q5, aload, Heap.row, g5, S5.len', hne, p1', p2', p3', hi0, hy0, hi9, hi9', AV.row1, AV.row, AV.one, w1, s1, w2, w3, w4, w5, w6, w7, hyL, v1, v2, v3, f0, f1, f2]
              rw [g0]
              exact ⟨⟨by rw [hun], R6⟩, kE⟩
            · rw [show U % 2 = 1 by omega] at v2
              have hb1 : -9223372036854775808 ≤ (V : Int) ∧ (V : Int) ≤ 9223372036854775807 := by omega
              have hun : unzig U = -1 - (V : Nat) := by unfold unzig; rw [if_neg hev, hV]
              simp [q0, q3, q4, q5, aload, Heap.row, g5, S5.len', hne, p1', p2', p3', hi0, hy0, hi9, hi9', AV.row1, AV.row, AV.one, w1, s1, w2, w3, w4, w5, w6, w7, hyL, v1, v2, f0, f1, f2, hb1.1, hb1.2]
              rw [g0]
              exact ⟨⟨by rw [hun], R6⟩, kE⟩
          · have hyL := isLe (show (128 : Int) ≤ (y : Int) by omega)
            simp [q0, q3, q4, q5, aload, Heap.row, g5, S5.len', hne, p1', p2', p3', hi0, hy0, hi9, hi9', AV.row1, AV.row, AV.one, w1, s1, w2, w3, w4, w5, w6, w7, hyL, w8]
            have g0 := good (by omega)
            rw [if_neg hy128, ← hz, ← hA, ← hU] at g0
            have R6 : Rdr h7 b w l (p + (i + 1)) 0 := by rw [show p + (i + 1) = q + 1 by omega]; exact R5
            rw [show q + 1 = p + (i + 1) by omega] at g0
            exact ⟨10 - (i + 1), by omega, i + 1, rfl, by omega, U, hU8 (by omega), by omega, rfl, by simp, R6, hK.trans (k5.weak hK.1 fun _ _ q => q), g0⟩
theorem rdN_spec : ∀ (r : List UInt8) (i u U c : Nat), i ≤ 9 → rdN i u r = .inr (U, c) →
    ∃ m : Nat, U = u + m * 128 ^ i ∧ i < c ∧ c - i ≤ r.length ∧ vint (10 - i) m = r.take (c - i) ∧ (0 < i → 0 < m) ∧ (m + 1) * 128 ^ i ≤ 18446744073709551616
  | [], i, u, U, c, hi, h => by simp [rdN] at h
  | x :: r, i, u, U, c, hi, h => by
    have hxl := x.toNat_lt
    obtain ⟨f, hf⟩ : ∃ f, 10 - i = f + 1 := ⟨9 - i, by omega⟩
    have hM : (i ≤ 8 → 128 ^ i * 128 ≤ 9223372036854775808) ∧ (i = 9 → 128 ^ i = 9223372036854775808) :=
      ⟨fun q => by
        have := Nat.pow_le_pow_right (n := 128) (by omega) (show i + 1 ≤ 9 by omega)
        rw [Nat.pow_succ] at this
        exact this, fun q => by rw [q]⟩
    simp only [rdN] at h
    split at h
    · cases h
    · rename_i hg
      split at h
      · rename_i hy
        cases h
        refine ⟨x.toNat, rfl, by omega, by simp, ?_, fun q => by omega, ?_⟩
        · rw [hf]
          simp [vint, hy]
        · generalize 128 ^ i = M at hM
          by_cases h9 : i = 9
          · have h1 : x.toNat + 1 ≤ 2 := by omega
            have := Nat.mul_le_mul_right M h1
            have := hM.2 h9
            omega
          · have h1 : x.toNat + 1 ≤ 128 := by omega
            have := Nat.mul_le_mul_right M h1
            have := hM.1 (by omega)
            omega
      · rename_i hy
        have h9 : i ≤ 8 := by omega
        obtain ⟨m, h1, h2, h3, h4, h5, h6⟩ := rdN_spec r (i + 1) _ U c (by omega) h
        have hm := h5 (by omega)
        refine ⟨x.toNat % 128 + 128 * m, ?_, by omega, by simp; omega, ?_, fun _ => by omega, ?_⟩
        · rw [h1, Nat.pow_succ, Nat.add_mul, Nat.add_assoc]
          congr 2
          rw [Nat.mul_comm (128 ^ i), ← Nat.mul_assoc, Nat.mul_comm m]
        · rw [hf, show c - i = (c - (i + 1)) + 1 by omega, List.take_succ_cons, ← h4, show 10 - (i + 1) = f by omega]
          have e1 : ¬ (x.toNat % 128 + 128 * m < 128) := by omega
          have e2 : (x.toNat % 128 + 128 * m) / 128 = m := by omega
          have e3 : UInt8.ofNat ((x.toNat % 128 + 128 * m) % 128 + 128) = x := by
            rw [show (x.toNat % 128 + 128 * m) % 128 + 128 = x.toNat by omega, UInt8.ofNat_toNat]
          simp only [vint, if_neg e1, e2, e3]
        · rw [Nat.pow_succ] at h6
          have : (x.toNat % 128 + 128 * m + 1) * 128 ^ i ≤ ((m + 1) * 128) * 128 ^ i := Nat.mul_le_mul_right _ (by omega)
          rw [Nat.mul_assoc (m + 1), Nat.mul_comm 128 (128 ^ i)] at this
          exact Nat.le_trans this h6
theorem zig_unzig (u : Nat) : zig (unzig u) = u := by
  unfold zig unzig
  by_cases h : u % 2 = 0
  · rw [if_pos h, if_pos (by omega)]; omega
  · rw [if_neg h, if_neg (by omega)]; omega
/-- What is read is what is written of it. -/
theorem rdN_pack {l : List UInt8} {U c : Nat} (h : rdN 0 0 l = .inr (U, c)) : packN (unzig U) = l.take c ∧ c ≤ l.length ∧ -9223372036854775808 ≤ unzig U ∧ unzig U ≤ 9223372036854775807 := by
  obtain ⟨m, h1, h2, h3, h4, h5, h6⟩ := rdN_spec l 0 0 U c (by omega) h
  have hU : U = m := by omega
  subst hU
  refine ⟨?_, by omega, ?_, ?_⟩
  · unfold packN
    rw [zig_unzig]
    simpa using h4
  · unfold unzig; split <;> omega
  · unfold unzig; split <;> omega
end Go.Proofs.Ytangdhaihhgjkaa
/- Contracts of chapter 4's reader, and of the document's own: Num, Text, End. -/
namespace Go.Proofs.Ytangdhaihhgjkaa
open Go Go.YtangdhaihhgjkaaAbs
set_option linter.unusedSimpArgs false
set_option linter.unusedVariables false
set_option maxRecDepth 4000

theorem rdN_err : ∀ (r : List UInt8) (i u : Nat) (e : Int), rdN i u r = .inl e → e = 3 ∨ e = 4
  | [], i, u, e, h => by simp only [rdN] at h; cases h; exact .inl rfl
  | x :: r, i, u, e, h => by
    simp only [rdN] at h
    split at h
    · cases h; exact .inr rfl
    · split at h
      · cases h
      · exact rdN_err r _ _ e h
/-- What a reader tells as a number, where it then stands, what is wrong. -/
def rdNum (l : List UInt8) (p : Nat) (e : Int) : Int × Nat × Int :=
  if e = 0 then (match rdN 0 0 (l.drop p) with
    | .inl e' => (0, p, e')
    | .inr (u, c) => (unzig u, p + c, 0)) else (0, p, e)
theorem rdNum_le {l : List UInt8} {p : Nat} (e : Int) (hp : p ≤ l.length) : (rdNum l p e).2.1 ≤ l.length := by
  unfold rdNum
  split
  · split
    · exact hp
    · rename_i u c h
      have := (rdN_pack h).2.1
      rw [List.length_drop] at this
      simp only
      omega
  · exact hp
theorem rdNum_rng (l : List UInt8) (p : Nat) (e : Int) : -9223372036854775808 ≤ (rdNum l p e).1 ∧ (rdNum l p e).1 ≤ 9223372036854775807 := by
  unfold rdNum
  split
  · split
    · exact ⟨by simp only; omega, by simp only; omega⟩
    · rename_i u c h
      exact (rdN_pack h).2.2
  · exact ⟨by simp only; omega, by simp only; omega⟩
theorem rdNum_stay {l : List UInt8} {p : Nat} {e : Int} (h : (rdNum l p e).2.2 ≠ 0) : (rdNum l p e).2.1 = p ∧ (rdNum l p e).1 = 0 := by
  unfold rdNum at h ⊢
  split
  · rename_i he
    rw [if_pos he] at h
    split
    · exact ⟨rfl, rfl⟩
    · rename_i u c hr
      rw [hr] at h
      exact absurd rfl h
  · exact ⟨rfl, rfl⟩
theorem rdNum_was {l : List UInt8} {p : Nat} {e : Int} (h : (rdNum l p e).2.2 = 0) : e = 0 := by
  unfold rdNum at h
  split at h
  · assumption
  · exact h
/-- .. as a text of at most so many bytes. -/
def rdText (l : List UInt8) (most : Int) (p : Nat) (e : Int) : List UInt8 × Nat × Int :=
  if (rdNum l p e).2.2 ≠ 0 then ([], p, (rdNum l p e).2.2)
  else if (rdNum l p e).1 < 0 ∨ most < (rdNum l p e).1 then ([], p, 2)
  else if (l.length : Int) - (rdNum l p e).2.1 < (rdNum l p e).1 then ([], p, 3)
  else ((l.drop (rdNum l p e).2.1).take (rdNum l p e).1.toNat, (rdNum l p e).2.1 + (rdNum l p e).1.toNat, 0)
theorem rdText_le {l : List UInt8} {p : Nat} (most e : Int) (hp : p ≤ l.length) : (rdText l most p e).2.1 ≤ l.length := by
  have := rdNum_le e hp
  unfold rdText
  split
  · exact hp
  · split
    · exact hp
    · split
      · exact hp
      · simp only
        omega
/-- .. is nothing left over? -/
def rdEnd (l : List UInt8) (p : Nat) (e : Int) : Int := if e = 0 ∧ p < l.length then 5 else e
/-- Bytes as a text. -/
def txt (l : List UInt8) : ByteArray := ⟨⟨l⟩⟩

theorem Rdr.ld0 {h : Heap} {b p : Nat} {w : AV} {l : List UInt8} {e : Int} (r : Rdr h b w l p e) {ty : TypeId} (ht : tagg Try.prog ty = some false) : aload Try.prog h ty b 0 = some w := by simp [aload, Heap.row, r.1, ht]
theorem Rdr.ld1 {h : Heap} {b p : Nat} {w : AV} {l : List UInt8} {e : Int} (r : Rdr h b w l p e) {ty : TypeId} (ht : tagg Try.prog ty = some false) : aload Try.prog h ty b 1 = some (.int .i64 (p : Nat)) := by simp [aload, Heap.row, r.1, ht]
theorem Rdr.ld2 {h : Heap} {b p : Nat} {w : AV} {l : List UInt8} {e : Int} (r : Rdr h b w l p e) {ty : TypeId} (ht : tagg Try.prog ty = some false) : aload Try.prog h ty b 2 = some (.int .i64 e) := by simp [aload, Heap.row, r.1, ht]
theorem Rdr.lay1 {h : Heap} {b p : Nat} {w : AV} {l : List UInt8} {e : Int} (r : Rdr h b w l p e) (p' : Nat) : ∃ h', alay h b 1 [.int .i64 (p' : Nat)] = some h' ∧ Rdr h' b w l p' e ∧ Keep h.next (fun c => c = b) h h' :=
  ⟨_, by unfold alay; rw [r.1]; rfl, r.set p' e, Keep.set (F := fun c => c = b) (.inl rfl) _⟩
theorem Rdr.lay2 {h : Heap} {b p : Nat} {w : AV} {l : List UInt8} {e : Int} (r : Rdr h b w l p e) (e' : Int) : ∃ h', alay h b 2 [.int .i64 e'] = some h' ∧ Rdr h' b w l p e' ∧ Keep h.next (fun c => c = b) h h' :=
  ⟨_, by unfold alay; rw [r.1]; rfl, r.set p e', Keep.set (F := fun c => c = b) (.inl rfl) _⟩
theorem kb {h h' h'' : Heap} {b : Nat} (k1 : Keep h.next (fun c => c = b) h h') (k2 : Keep h'.next (fun c => c = b) h' h'') : Keep h.next (fun c => c = b) h h'' := k1.trans (k2.weak k1.1 fun _ _ q => q)

section
variable (k : Nat) (hk : 40 < k) (h : Heap) (b p : Nat) (w : AV) (l : List UInt8) (e : Int)
theorem num_all (hk : 40 < k) (r : Rdr h b w l p e) (hp : p ≤ l.length) (hl : l.length < 100000000) :
    ∃ v' h', acall Try.prog (k + 2) 45 [.ptr b 0] h = some (v', h') ∧ v' = .int .i64 (rdNum l p e).1 ∧ Rdr h' b w l (rdNum l p e).2.1 (rdNum l p e).2.2 ∧ Keep h.next (fun c => c = b) h h' := by
  unfold rdNum
  by_cases he : e = 0
  · subst he
    obtain ⟨v', h', a1, a2, a3⟩ := rdNum_ok k hk h b p w l r hp hl
    refine ⟨v', h', a1, ?_⟩
    rw [if_pos rfl]
    cases hr : rdN 0 0 (l.drop p) with
    | inl e' => rw [hr] at a2; exact ⟨a2.1, a2.2, a3⟩
    | inr uc => rw [hr] at a2; exact ⟨a2.1, a2.2, a3⟩
  · rw [if_neg he]
    rw [acall_text [] Try.func45 (by kernel_rfl)]
    refine afuncT_ex rfl (by simp [Try.f45]) ?_
    simp [Try.f45, r.ld2, he]
    exact ⟨r, Keep.refl _ _ _⟩

theorem count_ok (hk : 40 < k) (most : Int) (r : Rdr h b w l p e) (hp : p ≤ l.length) (hl : l.length < 100000000) :
    ∃ v' h', acall Try.prog (k + 3) 39 [.ptr b 0, .int .i64 most] h = some (v', h') ∧ Keep h.next (fun c => c = b) h h' ∧
      (((rdNum l p e).2.2 = 0 ∧ ¬ ((rdNum l p e).1 < 0 ∨ most < (rdNum l p e).1) ∧ v' = .int .i64 (rdNum l p e).1 ∧ Rdr h' b w l (rdNum l p e).2.1 0) ∨
       ((rdNum l p e).2.2 = 0 ∧ ((rdNum l p e).1 < 0 ∨ most < (rdNum l p e).1) ∧ Rdr h' b w l p 2) ∨ ((rdNum l p e).2.2 ≠ 0 ∧ Rdr h' b w l p (rdNum l p e).2.2)) := by
  rw [acall_text [] Try.func39 (by kernel_rfl)]
  refine afuncT_ex rfl (by simp [Try.f39]) ?_
  simp [Try.f39, r.ld1]
  refine use (num_all k h b p w l e hk r hp hl) ?_
  intro v h1 hq
  have e1 := hq.1
  have R := hq.2.1
  have k1 := hq.2.2
  clear hq
  subst e1
  have st := rdNum_stay (l := l) (p := p) (e := e)
  generalize rdNum l p e = q at *
  obtain ⟨n, p', e'⟩ := q
  simp only at R st ⊢
  by_cases he : e' = 0
  · subst he
    by_cases h1 : n < 0
    · simp [R.ld2, h1, isLt h1]
      refine use (fail_ok (k + 1) _ b p' w l 0 R p 2) ?_
      intro z h6 hq
      have R6 := hq.1
      have k6 := hq.2
      clear hq
      simp
      exact ⟨kb k1 k6, .inr ⟨.inl h1, R6⟩⟩
    · by_cases h2 : most < n
      · simp [R.ld2, h1, h2, isLt h2, isLe (show 0 ≤ n by omega)]
        refine use (fail_ok (k + 1) _ b p' w l 0 R p 2) ?_
        intro z h6 hq
        have R6 := hq.1
        have k6 := hq.2
        clear hq
        simp
        exact ⟨kb k1 k6, .inr ⟨.inr h2, R6⟩⟩
      · simp [R.ld2, h1, h2, isLe (show n ≤ most by omega), isLe (show 0 ≤ n by omega)]
        exact ⟨k1, R⟩
  · simp [R.ld2, he]
    rw [(st he).1] at R
    exact ⟨k1, R⟩
theorem text_ok (hk : 40 < k) (most : Int) (r : Rdr h b w l p e) (hp : p ≤ l.length) (hl : l.length < 100000000) :
    ∃ v' h', acall Try.prog (k + 4) 31 [.ptr b 0, .int .i64 most] h = some (v', h') ∧ v' = .str (txt (rdText l most p e).1) ∧ Rdr h' b w l (rdText l most p e).2.1 (rdText l most p e).2.2 ∧ Keep h.next (fun c => c = b) h h' := by
  rw [acall_text [] Try.func31 (by kernel_rfl)]
  refine afuncT_ex rfl (by simp [Try.f31]) ?_
  simp [Try.f31, r.ld1]
  refine use (count_ok k h b p w l e hk most r hp hl) ?_
  intro v h1 hq
  have k1 := hq.1
  have hh := hq.2
  clear hq
  have rle := rdNum_le e hp
  unfold rdText
  have hrng := rdNum_rng l p e
  generalize rdNum l p e = q at *
  obtain ⟨n, p', e'⟩ := q
  simp only at hh rle hrng ⊢
  rcases hh with ⟨rfl, h2, rfl, R⟩ | ⟨rfl, h2, R⟩ | ⟨h1, R⟩
  · have S := R.2.2.1
    rw [if_neg (by simp), if_neg h2]
    have wd := i64w ((l.length : Int) - (p' : Int)) (by omega) (by omega)
    by_cases h3 : (l.length : Int) - (p' : Int) < n
    · rw [if_pos h3]
      simp [R.ld2, R.ld1, R.ld0, S.len', wd, isLt h3]
      refine use (fail_ok (k + 2) _ b p' w l 0 R p 3) ?_
      intro z h6 hq
      have R6 := hq.1
      have k6 := hq.2
      clear hq
      simp
      exact ⟨rfl, R6, kb k1 k6⟩
    · rw [if_neg h3]
      obtain ⟨N, rfl⟩ := Int.eq_ofNat_of_zero_le (show 0 ≤ n by omega)
      obtain ⟨M, hM⟩ : ∃ M, M = p' + N := ⟨_, rfl⟩
      have w2 : fwrap .i64 ((p' : Int) + (N : Int)) = (M : Nat) := by rw [i64w _ (by omega) (by omega)]; omega
      obtain ⟨x, x1, X⟩ := S.sub (P := Try.prog) (ty := 43) Try.underlying43 ts5 (k := .i64) (k' := .i64) (i := p') (j := M) (by omega) (by omega)
      have hx : ((l.map bb).drop (p' * 1)).take ((M - p') * 1) = (((l.drop p').take N)).map bb := by
        rw [Nat.mul_one, Nat.mul_one, hM, Nat.add_sub_cancel_left, List.map_take, List.map_drop]
      rw [hx] at X
      have cv := aconv_bs (P := Try.prog) (src := 43) (dst := 9) (e := 5) X Try.underlying43 Try.underlying9 Try.underlying5
      obtain ⟨h7, y1, R7, k7⟩ := R.lay1 M
      simp [R.ld2, R.ld1, R.ld0, S.len', wd, isLe (show (N : Int) ≤ (l.length : Int) - (p' : Int) by omega), w2, x1, cv, y1]
      exact ⟨rfl, hM ▸ R7, kb k1 k7⟩
  · rw [if_neg (by simp), if_pos h2]
    simp [R.ld2]
    exact ⟨rfl, R, k1⟩
  · rw [if_pos h1]
    simp [R.ld2, h1]
    exact ⟨rfl, R, k1⟩
end
theorem rd_fit {i u y z s : Nat} (hu : u < 128 ^ i) (hyl : y < 256) (hz : z = y % 128) (hs : s = 7 * i) (hf : i ≤ 8 ∨ i = 9 ∧ z ≤ 1) :
    ∃ A U : Nat, A = z * 128 ^ i ∧ U = u + A ∧ U < 18446744073709551616 ∧ fwrap .u64 ((z : Int) * 2 ^ min s 64) = (A : Nat) ∧ fwrap .u64 (((u % modulus .u64) ||| (A % modulus .u64) : Nat) : Int) = (U : Nat) ∧ (i ≤ 8 → U < 128 ^ (i + 1)) := by
  have hp2 : (2 : Nat) ^ s = 128 ^ i := by rw [hs, Nat.pow_mul]
  have hmin : min s 64 = s := by omega
  obtain ⟨M, hM⟩ : ∃ M, M = 128 ^ i := ⟨_, rfl⟩
  obtain ⟨A, hA⟩ : ∃ A, A = z * M := ⟨_, rfl⟩
  rw [← hM] at hu
  have hzl : z < 128 := by omega
  have hA1 : A ≤ 127 * M := by rw [hA]; exact Nat.mul_le_mul_right _ (by omega)
  have hA2 : i = 9 → A ≤ M := fun q => by
    rw [hA]
    have : z * M ≤ 1 * M := Nat.mul_le_mul_right _ (by omega)
    omega
  have hM9 : i ≤ 8 → M * 128 ≤ 9223372036854775808 := fun q => by
    have := Nat.pow_le_pow_right (n := 128) (by omega) (show i + 1 ≤ 9 by omega)
    rw [Nat.pow_succ, ← hM] at this
    exact this
  have hM9' : i = 9 → M = 9223372036854775808 := fun q => by rw [hM, q]
  have hU : u + A < 18446744073709551616 := by
    rcases hf with q | ⟨q, _⟩
    · have := hM9 q; omega
    · have := hM9' q; have := hA2 q; omega
  refine ⟨A, u + A, by rw [hA, hM], rfl, hU, ?_, ?_, fun q => by rw [Nat.pow_succ, ← hM]; omega⟩
  · rw [hmin]
    have e : (z : Int) * 2 ^ s = ((z * 2 ^ s : Nat) : Int) := by simp
    rw [e, hp2, ← hM, ← hA, u64w (by omega)]
  · rw [u64m (by omega), u64m (by omega)]
    have e := Nat.two_pow_add_eq_or_of_lt (i := s) (b := u) (by rw [hp2, ← hM]; exact hu) z
    rw [hp2, ← hM, Nat.mul_comm, ← hA] at e
    rw [Nat.or_comm, ← e, Nat.add_comm, u64w (by omega)]
theorem rd_and127 {y : Nat} (h : y < 256) : fwrap .u8 (((y % modulus .u8) &&& (127 % modulus .u8) : Nat) : Int) = ((y % 128 : Nat) : Int) := by
  have e1 : y % modulus .u8 = y := Nat.mod_eq_of_lt h
  have e2 : 127 % modulus .u8 = 127 := by decide
  have e3 : y &&& 127 = y % 128 := Nat.and_two_pow_sub_one_eq_mod y 7
  rw [e1, e2, e3, fwrap_mod8, Nat.mod_eq_of_lt (by omega)]
theorem rd_and1 {u : Nat} (h : u < 18446744073709551616) : fwrap .u64 (((u % modulus .u64) &&& (1 % modulus .u64) : Nat) : Int) = ((u % 2 : Nat) : Int) := by
  rw [u64m h, u64m (by omega), Nat.and_one_is_mod, u64w (by omega)]

section
variable (k : Nat) (h : Heap) (b p : Nat) (w : AV) (l : List UInt8) (e : Int)
theorem rfail_ok (e' : Int) (r : Rdr h b w l p 0) :
    ∃ v' h', acall Try.prog (k + 1) 42 [.ptr b 0, .int .i64 e'] h = some (v', h') ∧ Rdr h' b w l p e' ∧ Keep h.next (fun c => c = b) h h' := by
  rw [acall_text [] Try.func42 (by kernel_rfl)]
  refine afuncT_ex rfl (by simp [Try.f42]) ?_
  obtain ⟨h7, y1, R7, k7⟩ := r.lay2 e'
  simp [Try.f42, r.ld2, y1]
  exact ⟨R7, k7⟩
set_option maxHeartbeats 1000000 in
theorem rnum_all (hk : 40 < k) (r : Rdr h b w l p e) (hp : p ≤ l.length) (hl : l.length < 100000000) :
    ∃ v' h', acall Try.prog (k + 2) 41 [.ptr b 0] h = some (v', h') ∧ v' = .int .i64 (rdNum l p e).1 ∧ Rdr h' b w l (rdNum l p e).2.1 (rdNum l p e).2.2 ∧ Keep h.next (fun c => c = b) h h' := by
  rw [acall_text [] Try.func41 (by kernel_rfl)]
  refine afuncT_ex rfl (by simp [Try.f41]) ?_
  unfold rdNum
  by_cases he : e = 0
  · subst he
    rw [if_pos rfl]
    obtain ⟨W0, hW⟩ : ∃ W0, W0 = rdN 0 0 (l.drop p) := ⟨_, rfl⟩
    rw [← hW]
    have S := r.2.2.1
    simp [Try.f41, r.ld2]
    refine W_loop (fun m st => ∃ (i u : Nat), m = 10 - i ∧ i ≤ 9 ∧ u < 128 ^ i ∧ p + i ≤ l.length ∧ st.t.get 0 = some (.ptr b 0) ∧ st.t.get 3 = some (.int .u64 (u : Nat)) ∧ st.t.get 4 = some (.int .i64 (i : Nat)) ∧ st.h = h ∧ W0 = rdN i u (l.drop (p + i))) 10 (by omega)
      ⟨0, 0, by simp [hp, hW]⟩ ?_
    rintro m ⟨t, h5⟩ ⟨i, u, rfl, hi, hu, hpi, q0, q3, q4, rfl, hE⟩
    simp only at q0 q3 q4 r S
    obtain ⟨q, hq⟩ : ∃ q, q = p + i := ⟨_, rfl⟩
    rw [← hq] at hpi hE
    have w1 : fwrap .i64 ((p : Int) + (i : Int)) = (q : Nat) := by rw [i64w _ (by omega) (by omega)]; omega
    by_cases hend : q = l.length
    · subst hend
      simp [rdN] at hE
      subst hE
      simp [q0, q3, q4, r.ld1, r.ld0, S.len', w1]
      refine use (rfail_ok k h5 b p w l 3 r) ?_
      intro z h6 hq
      have R6 := hq.1
      have k6 := hq.2
      clear hq
      simp
      exact ⟨R6, k6⟩
    · obtain ⟨x, hx⟩ := getb (l := l) (j := q) (by omega)
      obtain ⟨y, hy⟩ : ∃ y, y = x.toNat := ⟨_, rfl⟩
      have hyl : y < 256 := by rw [hy]; exact x.toNat_lt
      have hdr : l.drop q = x :: l.drop (q + 1) := by
        obtain ⟨a1, a2⟩ := List.getElem?_eq_some_iff.1 hx
        rw [List.drop_eq_getElem_cons a1, a2]
      rw [hdr] at hE
      simp only [rdN, ← hy] at hE
      have ix := S.idx1 (P := Try.prog) Try.underlying43 ts5 (j := q) (by omega) .i64
      have ld := S.ld (P := Try.prog) ta5 (bb_get hx)
      have hbx : bb x = .int .u8 (y : Nat) := by rw [hy]; rfl
      rw [hbx] at ld
      obtain ⟨bad, hbad⟩ : ∃ bad : Bool, bad = decide ((0 < i ∧ y = 0) ∨ (i = 9 ∧ 1 < y)) := ⟨_, rfl⟩
      simp [q0, q3, q4, r.ld1, r.ld0, S.len', w1, isLt (show (q : Int) < (l.length : Int) by omega), ix, ld, -W_regionR0, W_stop 10]
      refine W_cutR rfl (fun s => s.h = h5 ∧ s.t.get 0 = some (.ptr b 0) ∧ s.t.get 3 = some (.int .u64 (u : Nat)) ∧ s.t.get 4 = some (.int .i64 (i : Nat)) ∧ s.t.get 5 = some (.int .u8 (y : Nat)) ∧ s.t.get 52 = some (.bool bad)) ?_ ?_
      · simp [q0, q3, q4]
        refine wantT (fun c1 => ?_) (fun c1 => ?_)
        · simp [q0, q3, q4, c1]
          refine wantNF (fun c2 => ?_) (fun c2 => ?_)
          · simp [q0, q3, q4, c1, c2, hbad]
            simp [show 0 < i by omega, show i = 9 by omega, show ¬ 1 < y by omega]
          · simp [q0, q3, q4, c1, c2, hbad]
            omega
        · simp [q0, q3, q4, c1]
          refine wantNT (fun c2 => ?_) (fun c2 => ?_)
          · simp [q0, q3, q4, c1, c2, hbad]
            simp [show 0 < i by omega, show ¬ i = 9 by omega]
          · simp [q0, q3, q4, c1, c2, hbad]
      · rintro ⟨t2, h6⟩ ⟨rfl, q0, q3, q4, q5, q52⟩
        simp only at q0 q3 q4 q5 q52
        cases bad with
        | true =>
          have hb := of_decide_eq_true hbad.symm
          rw [if_pos hb] at hE
          subst hE
          simp [q0, q3, q4, q5, q52]
          refine use (rfail_ok k h6 b p w l 4 r) ?_
          intro z h7 hq
          have R6 := hq.1
          have k6 := hq.2
          clear hq
          simp
          exact ⟨R6, k6⟩
        | false =>
          have hb := of_decide_eq_false hbad.symm
          rw [if_neg hb] at hE
          obtain ⟨z, hz⟩ : ∃ z, z = y % 128 := ⟨_, rfl⟩
          obtain ⟨s, hs⟩ : ∃ s, s = 7 * i := ⟨_, rfl⟩
          obtain ⟨A, U, hA, hU, hUl, w6, w7, hU8⟩ := rd_fit hu hyl hz hs (by omega)
          have w2 : fwrap .i64 (7 * (i : Int)) = (s : Nat) := by rw [i64w _ (by omega) (by omega)]; omega
          have w4 := rd_and127 hyl
          rw [← hz] at w4
          have w5 : fwrap .u64 (z : Int) = (z : Nat) := u64w (by omega)
          have w8 := i64w ((i : Int) + 1) (by omega) (by omega)
          have w9 := i64w ((q : Int) + 1) (by omega) (by omega)
          obtain ⟨h8, y1, R7, k7⟩ := r.lay1 (q + 1)
          rw [show ((q + 1 : Nat) : Int) = (q : Int) + 1 by omega] at y1
          by_cases hy128 : y < 128
          · rw [if_pos hy128] at hE
            have hzy : z = y := by omega
            rw [← hzy, ← hA, ← hU] at hE
            have v2 := rd_and1 hUl
            obtain ⟨V, hV⟩ : ∃ V, V = U / 2 := ⟨_, rfl⟩
            have v1 : fwrap .i64 ((U : Int) / 2) = (V : Nat) := by rw [i64w _ (by omega) (by omega)]; omega
            subst hE
            have R8 : Rdr h8 b w l (p + (i + 1)) 0 := by rw [show p + (i + 1) = q + 1 by omega]; exact R7
            by_cases hev : U % 2 = 0
            · rw [hev] at v2
              have hun : unzig U = (V : Nat) := by unfold unzig; rw [if_pos hev, hV]
              simp [q0, q3, q4, q5, q52, w2, w4, w5, w6, w7, isLt (show (y : Int) < 128 by omega), r.ld1, w1, w9, y1, v1, v2]
              exact ⟨hun.symm, R8, k7⟩
            · rw [show U % 2 = 1 by omega] at v2
              have hun : unzig U = -1 - (V : Nat) := by unfold unzig; rw [if_neg hev, hV]
              have hb1 : -9223372036854775808 ≤ (V : Int) ∧ (V : Int) ≤ 9223372036854775807 := by omega
              simp [q0, q3, q4, q5, q52, w2, w4, w5, w6, w7, isLt (show (y : Int) < 128 by omega), r.ld1, w1, w9, y1, v1, v2, hb1.1, hb1.2]
              exact ⟨hun.symm, R8, k7⟩
          · rw [if_neg hy128, ← hz, ← hA, ← hU] at hE
            simp [q0, q3, q4, q5, q52, w2, w4, w5, w6, w7, isLe (show (128 : Int) ≤ (y : Int) by omega), w8]
            rw [show q + 1 = p + (i + 1) by omega] at hE
            exact ⟨10 - (i + 1), by omega, i + 1, rfl, by omega, U, hU8 (by omega), by omega, rfl, by simp, hE⟩
  · rw [if_neg he]
    simp [Try.f41, r.ld2, he]
    exact ⟨r, Keep.refl _ _ _⟩
theorem rtext_ok (hk : 40 < k) (most : Int) (r : Rdr h b w l p e) (hp : p ≤ l.length) (hl : l.length < 100000000) :
    ∃ v' h', acall Try.prog (k + 4) 33 [.ptr b 0, .int .i64 most] h = some (v', h') ∧ v' = .str (txt (rdText l most p e).1) ∧ Rdr h' b w l (rdText l most p e).2.1 (rdText l most p e).2.2 ∧ Keep h.next (fun c => c = b) h h' := by
  rw [acall_text [] Try.func33 (by kernel_rfl)]
  refine afuncT_ex rfl (by simp [Try.f33]) ?_
  simp [Try.f33, r.ld1]
  refine use (rnum_all (k + 1) h b p w l e (by omega) r hp hl) ?_
  intro v h1 hq
  have e1 := hq.1
  have R := hq.2.1
  have k1 := hq.2.2
  clear hq
  subst e1
  have rle := rdNum_le e hp
  unfold rdText
  have hrng := rdNum_rng l p e
  have st := rdNum_stay (l := l) (p := p) (e := e)
  generalize rdNum l p e = q at *
  obtain ⟨n, p', e'⟩ := q
  simp only at R rle hrng st ⊢
  by_cases he : e' = 0
  · subst he
    rw [if_neg (by simp)]
    have S := R.2.2.1
    have wd := i64w ((l.length : Int) - (p' : Int)) (by omega) (by omega)
    have fin : ∀ (h6 : Heap) (e6 : Int), Rdr h6 b w l p' e6 → Keep h1.next (fun c => c = b) h1 h6 → ∃ h7, alay h6 b 1 [.int .i64 (p : Nat)] = some h7 ∧ Rdr h7 b w l p e6 ∧ Keep h.next (fun c => c = b) h h7 := fun h6 e6 R6 k6 => by
      obtain ⟨h7, y1, R7, k7⟩ := R6.lay1 p
      exact ⟨h7, y1, R7, kb k1 (kb k6 k7)⟩
    by_cases h2 : n < 0 ∨ most < n
    · rw [if_pos h2]
      by_cases h3 : n < 0
      · simp [R.ld2, isLt h3]
        refine use (rfail_ok (k + 2) _ b p' w l 2 R) ?_
        intro z h6 hq
        have R6 := hq.1
        have k6 := hq.2
        clear hq
        obtain ⟨h7, y1, R7, k7⟩ := fin h6 2 R6 k6
        simp [R6.ld2, y1]
        exact ⟨rfl, R7, k7⟩
      · have h4 : most < n := by omega
        simp [R.ld2, isLe (show 0 ≤ n by omega), isLt h4]
        refine use (rfail_ok (k + 2) _ b p' w l 2 R) ?_
        intro z h6 hq
        have R6 := hq.1
        have k6 := hq.2
        clear hq
        obtain ⟨h7, y1, R7, k7⟩ := fin h6 2 R6 k6
        simp [R6.ld2, y1]
        exact ⟨rfl, R7, k7⟩
    · rw [if_neg h2]
      have l1 := isLe (show 0 ≤ n by omega)
      have l2 := isLe (show n ≤ most by omega)
      by_cases h3 : (l.length : Int) - (p' : Int) < n
      · rw [if_pos h3]
        simp [R.ld2, R.ld1, R.ld0, S.len', wd, l1, l2, isLt h3]
        refine use (rfail_ok (k + 2) _ b p' w l 3 R) ?_
        intro z h6 hq
        have R6 := hq.1
        have k6 := hq.2
        clear hq
        obtain ⟨h7, y1, R7, k7⟩ := fin h6 3 R6 k6
        simp [R6.ld2, y1]
        exact ⟨rfl, R7, k7⟩
      · rw [if_neg h3]
        obtain ⟨N, rfl⟩ := Int.eq_ofNat_of_zero_le (show 0 ≤ n by omega)
        obtain ⟨M, hM⟩ : ∃ M, M = p' + N := ⟨_, rfl⟩
        have w2 : fwrap .i64 ((p' : Int) + (N : Int)) = (M : Nat) := by rw [i64w _ (by omega) (by omega)]; omega
        obtain ⟨x, x1, X⟩ := S.sub (P := Try.prog) (ty := 43) Try.underlying43 ts5 (k := .i64) (k' := .i64) (i := p') (j := M) (by omega) (by omega)
        have hx : ((l.map bb).drop (p' * 1)).take ((M - p') * 1) = (((l.drop p').take N)).map bb := by
          rw [Nat.mul_one, Nat.mul_one, hM, Nat.add_sub_cancel_left, List.map_take, List.map_drop]
        rw [hx] at X
        have cv := aconv_bs (P := Try.prog) (src := 43) (dst := 9) (e := 5) X Try.underlying43 Try.underlying9 Try.underlying5
        obtain ⟨h7, y1, R7, k7⟩ := R.lay1 M
        simp [R.ld2, R.ld1, R.ld0, S.len', wd, l1, l2, isLe (show (N : Int) ≤ (l.length : Int) - (p' : Int) by omega), w2, x1, cv, y1]
        exact ⟨rfl, hM ▸ R7, kb k1 k7⟩
  · rw [if_pos he]
    simp [R.ld2, he]
    rw [(st he).1] at R
    exact ⟨rfl, R, k1⟩
end
theorem Rdr.keep {h h' : Heap} {b p : Nat} {w : AV} {l : List UInt8} {e : Int} {F : Nat → Prop} (r : Rdr h b w l p e) (K : Keep h.next F h h') (hb : ¬ F b) (hw : ∀ c i n k s x, w = .sl c i n k s x → ¬ F c) : Rdr h' b w l p e := by
  obtain ⟨r1, r2, r3, r4⟩ := r
  refine ⟨by rw [K.2 b r2 hb]; exact r1, Nat.lt_of_lt_of_le r2 K.1, r3.keep K fun c i n k s x q => ⟨?_, hw c i n k s x q⟩, r4⟩
  subst q
  have := (show Sl 1 l.length h (.sl c i n k s x) (l.map bb) from r3)
  rcases this with ⟨q, _⟩ | ⟨q, _⟩ | ⟨c', i', cap, ex, cc, ro, q, q2, _⟩
  · cases q
  · cases q
  · cases q; exact q2
theorem sl_lt {sz n : Nat} {h : Heap} {v : AV} {l : List AV} (r : Sl sz n h v l) : ∀ c i n k s x, v = .sl c i n k s x → c < h.next := by
  rintro c i n k s x rfl
  rcases r with ⟨q, _⟩ | ⟨q, _⟩ | ⟨c', i', cap, ex, cc, ro, q, q2, _⟩
  · cases q
  · cases q
  · cases q; exact q2

end Go.Proofs.Ytangdhaihhgjkaa
/- What is read of what was written, whole and cut off. -/
namespace Go.Proofs.Ytangdhaihhgjkaa
open Go Go.YtangdhaihhgjkaaAbs
set_option linter.unusedSimpArgs false
set_option linter.unusedVariables false
set_option maxRecDepth 4000

theorem pow9 {i : Nat} {m : Nat} (h : m * 128 ^ i < 18446744073709551616) : (i = 9 → m < 2) ∧ (10 ≤ i → m = 0) := by
  constructor
  · rintro rfl
    have : m * 9223372036854775808 < 18446744073709551616 := h
    omega
  · intro hi
    have : 128 ^ 10 ≤ 128 ^ i := Nat.pow_le_pow_right (by omega) hi
    have := Nat.mul_le_mul_left m this
    have e : (128 : Nat) ^ 10 = 1180591620717411303424 := by decide
    omega
theorem rdN_app : ∀ (f i u m : Nat) (rest : List UInt8), f + i = 10 → (0 < i → 0 < m) → m * 128 ^ i < 18446744073709551616 → rdN i u (vint f m ++ rest) = .inr (u + m * 128 ^ i, i + (vint f m).length)
  | 0, i, u, m, rest, hf, h0, hm => by
    have := (pow9 hm).2 (by omega)
    have := h0 (by omega)
    omega
  | f + 1, i, u, m, rest, hf, h0, hm => by
    have h9 := (pow9 hm).1
    simp only [vint]
    by_cases hlt : m < 128
    · rw [if_pos hlt]
      have hb : (UInt8.ofNat m).toNat = m := ofNat_b (by omega)
      simp only [List.singleton_append, rdN, hb]
      rw [if_neg (by omega), if_pos hlt]
      rfl
    · rw [if_neg hlt]
      have hb : (UInt8.ofNat (m % 128 + 128)).toNat = m % 128 + 128 := ofNat_b (by omega)
      simp only [List.cons_append, rdN, hb]
      rw [if_neg (by omega), if_neg (by omega)]
      have e1 : (m % 128 + 128) % 128 = m % 128 := by omega
      rw [e1]
      have e2 : m / 128 * 128 ^ (i + 1) + m % 128 * 128 ^ i = m * 128 ^ i := by
        rw [Nat.pow_succ, Nat.mul_comm (128 ^ i), ← Nat.mul_assoc, ← Nat.add_mul, Nat.mul_comm (m / 128), Nat.div_add_mod]
      have ih := rdN_app f (i + 1) (u + m % 128 * 128 ^ i) (m / 128) rest (by omega) (fun _ => by omega) (by omega)
      rw [ih]
      congr 2
      · omega
      · simp; omega
theorem rdN_cut : ∀ (f i u m : Nat) (L t : List UInt8), vint f m = L ++ t → t ≠ [] → f + i = 10 → (0 < i → 0 < m) → m * 128 ^ i < 18446744073709551616 → rdN i u L = .inl 3
  | _, i, u, m, [], t, hv, ht, hf, h0, hm => rfl
  | 0, i, u, m, x :: L, t, hv, ht, hf, h0, hm => by
    have := (pow9 hm).2 (by omega)
    have := h0 (by omega)
    omega
  | f + 1, i, u, m, x :: L, t, hv, ht, hf, h0, hm => by
    have h9 := (pow9 hm).1
    simp only [vint] at hv
    by_cases hlt : m < 128
    · rw [if_pos hlt] at hv
      simp at hv
      exact absurd hv.2.2 ht
    · rw [if_neg hlt] at hv
      simp only [List.cons_append, List.cons.injEq] at hv
      obtain ⟨rfl, hv⟩ := hv
      have hb : (UInt8.ofNat (m % 128 + 128)).toNat = m % 128 + 128 := ofNat_b (by omega)
      simp only [rdN, hb]
      rw [if_neg (by omega), if_neg (by omega)]
      have e2 : m / 128 * 128 ^ (i + 1) + m % 128 * 128 ^ i = m * 128 ^ i := by
        rw [Nat.pow_succ, Nat.mul_comm (128 ^ i), ← Nat.mul_assoc, ← Nat.add_mul, Nat.mul_comm (m / 128), Nat.div_add_mod]
      exact rdN_cut f (i + 1) _ (m / 128) L t hv ht (by omega) (fun _ => by omega) (by omega)
theorem unzig_zig {n : Int} : unzig (zig n) = n := by
  unfold unzig zig
  split <;> split <;> omega
theorem packN_len (n : Int) : 1 ≤ (packN n).length ∧ (packN n).length ≤ 11 := ⟨vint_pos _ _, vint_len _ _⟩
/-- A number is read. -/
theorem rdNum_app {l : List UInt8} {p : Nat} {n : Int} {rest : List UInt8} (h1 : -9223372036854775808 ≤ n) (h2 : n ≤ 9223372036854775807) (h : l.drop p = packN n ++ rest) : rdNum l p 0 = (n, p + (packN n).length, 0) := by
  unfold rdNum
  rw [if_pos rfl, h]
  have := rdN_app 10 0 0 (zig n) rest rfl (fun q => absurd q (Nat.lt_irrefl _)) (by have := zig_lt h1 h2; rw [Nat.pow_zero]; omega)
  unfold packN
  rw [this]
  simp [unzig_zig]
/-- .. cut off, it isn't. -/
theorem rdNum_cut {l : List UInt8} {p : Nat} {n : Int} {t : List UInt8} (h1 : -9223372036854775808 ≤ n) (h2 : n ≤ 9223372036854775807) (h : packN n = l.drop p ++ t) (ht : t ≠ []) : (rdNum l p 0).2.2 = 3 := by
  unfold rdNum
  rw [if_pos rfl, rdN_cut 10 0 0 (zig n) _ t h ht rfl (fun q => absurd q (Nat.lt_irrefl _)) (by have := zig_lt h1 h2; rw [Nat.pow_zero]; omega)]
theorem drop_drop' {l : List UInt8} {p : Nat} {a b : List UInt8} (h : l.drop p = a ++ b) : l.drop (p + a.length) = b := by
  rw [← List.drop_drop, h, List.drop_left]
/-- A text is read. -/
theorem rdText_app {l : List UInt8} {p : Nat} {s rest : List UInt8} {most : Int} (hs : (s.length : Int) ≤ most) (hm : s.length < 1000000000) (h : l.drop p = (packN (s.length : Nat) ++ s) ++ rest) : rdText l most p 0 = (s, p + (packN (s.length : Nat) ++ s).length, 0) := by
  rw [List.append_assoc] at h
  have e := rdNum_app (n := (s.length : Nat)) (by omega) (by omega) h
  have d := drop_drop' h
  have hl : (l.drop (p + (packN (s.length : Nat)).length)).length = s.length + rest.length := by rw [d, List.length_append]
  rw [List.length_drop] at hl
  have hlp := (packN_len (s.length : Nat)).1
  have hl2 : (l.drop p).length = (packN (s.length : Nat)).length + (s.length + rest.length) := by rw [h, List.length_append, List.length_append]
  rw [List.length_drop] at hl2
  unfold rdText
  rw [e]
  simp only
  rw [if_neg (by simp), if_neg (by omega), if_neg (by omega), d, Int.toNat_natCast, List.take_left, List.length_append, Nat.add_assoc]
theorem rdText_cut {l : List UInt8} {p : Nat} {s t : List UInt8} {most : Int} (hs : (s.length : Int) ≤ most) (hm : s.length < 1000000000) (h : packN (s.length : Nat) ++ s = l.drop p ++ t) (ht : t ≠ []) : (rdText l most p 0).2.2 ≠ 0 := by
  unfold rdText
  rcases List.append_eq_append_iff.1 h with ⟨a, h1, h2⟩ | ⟨c, h1, h2⟩
  · -- the number is whole
    have e := rdNum_app (n := (s.length : Nat)) (by omega) (by omega) h1
    have d := drop_drop' h1
    have hl : (l.drop (p + (packN (s.length : Nat)).length)).length = a.length := by rw [d]
    rw [List.length_drop] at hl
    have hl2 : (l.drop p).length = (packN (s.length : Nat)).length + a.length := by rw [h1, List.length_append]
    rw [List.length_drop] at hl2
    have hlp := (packN_len (s.length : Nat)).1
    have hst : s.length = a.length + t.length := by rw [h2, List.length_append]
    have htl : 0 < t.length := List.length_pos_iff.2 ht
    rw [e]
    simp only
    rw [if_neg (by simp), if_neg (by omega), if_pos (by omega)]
    simp
  · by_cases hc : c = []
    · subst hc
      rw [List.append_nil] at h1
      simp at h2
      have e := rdNum_app (l := l) (p := p) (n := (s.length : Nat)) (rest := []) (by omega) (by omega) (by rw [List.append_nil]; exact h1.symm)
      have hl2 : (l.drop p).length = (packN (s.length : Nat)).length := by rw [h1]
      rw [List.length_drop] at hl2
      have hlp := (packN_len (s.length : Nat)).1
      have htl : 0 < s.length := List.length_pos_iff.2 (h2 ▸ ht)
      rw [e]
      simp only
      rw [if_neg (by simp), if_neg (by omega), if_pos (by omega)]
      simp
    · have e := rdNum_cut (n := (s.length : Nat)) (by omega) (by omega) h1 hc
      rw [if_pos (by rw [e]; decide)]
      simp only
      rw [e]
      decide
theorem rdText_err {l : List UInt8} {most : Int} {p : Nat} {e : Int} (h : e ≠ 0) : (rdText l most p e).2.2 = e ∧ (rdNum l p e).2.2 = e := by
  have : rdNum l p e = (0, p, e) := by unfold rdNum; rw [if_neg h]
  unfold rdText
  rw [this]
  simp only
  rw [if_pos h]
  exact ⟨rfl, trivial⟩

/-- Numbers and texts, one pair behind the other. -/
def encP (x : Int × List UInt8) : List UInt8 := packN x.1 ++ (packN (x.2.length : Nat) ++ x.2)
def encL (l : List (Int × List UInt8)) : List UInt8 := (l.map encP).flatten
/-- They are read. -/
def readP (L : List UInt8) (x : Int × List UInt8) (s : Bool × Nat × Int) : Bool × Nat × Int :=
  if (rdNum L s.2.1 s.2.2).1 = x.1 then
    (decide ((rdText L 100 (rdNum L s.2.1 s.2.2).2.1 (rdNum L s.2.1 s.2.2).2.2).1 = x.2), (rdText L 100 (rdNum L s.2.1 s.2.2).2.1 (rdNum L s.2.1 s.2.2).2.2).2)
  else (false, (rdNum L s.2.1 s.2.2).2)
def readA (L : List UInt8) : List (Int × List UInt8) → Bool × Nat × Int → Bool × Nat × Int
  | [], s => s
  | x :: r, s => if s.1 then readA L r (readP L x s) else s
def PairOk (x : Int × List UInt8) : Prop := -9223372036854775808 ≤ x.1 ∧ x.1 ≤ 9223372036854775807 ∧ x.2.length ≤ 100
theorem readA_all : ∀ (l : List (Int × List UInt8)) (L : List UInt8) (p : Nat) (rest : List UInt8), (∀ x ∈ l, PairOk x) → L.drop p = encL l ++ rest → readA L l (true, p, 0) = (true, p + (encL l).length, 0)
  | [], L, p, rest, hl, h => by simp [readA, encL]
  | x :: l, L, p, rest, hl, h => by
    obtain ⟨x1, x2, x3⟩ := hl x (by simp)
    have h' : L.drop p = packN x.1 ++ ((packN (x.2.length : Nat) ++ x.2) ++ (encL l ++ rest)) := by rw [h]; simp [encL, encP]
    have e1 := rdNum_app x1 x2 h'
    have d1 := drop_drop' h'
    have e2 := rdText_app (most := 100) (by omega) (by omega) d1
    have d2 := drop_drop' d1
    have ih := readA_all l L _ rest (fun y hy => hl y (by simp [hy])) d2
    have hp : readP L x (true, p, 0) = (true, p + (packN x.1).length + (packN (x.2.length : Nat) ++ x.2).length, 0) := by
      unfold readP
      simp only [e1, e2]
      simp
    simp only [readA, if_true, hp, ih]
    congr 2
    simp [encL, encP]
    omega
theorem readA_err : ∀ (l : List (Int × List UInt8)) (L : List UInt8) (s : Bool × Nat × Int), s.2.2 ≠ 0 → (readA L l s).2.2 ≠ 0
  | [], L, s, h => h
  | x :: l, L, s, h => by
    simp only [readA]
    split
    · refine readA_err l L _ ?_
      have e1 := (rdText_err (l := L) (most := 100) (p := s.2.1) h).2
      unfold readP
      split
      · simp only
        rw [e1]
        rw [(rdText_err h).1]
        exact h
      · simp only
        rw [e1]
        exact h
    · exact h
theorem readA_cut : ∀ (l : List (Int × List UInt8)) (L : List UInt8) (p : Nat) (t : List UInt8), (∀ x ∈ l, PairOk x) → encL l = L.drop p ++ t → t ≠ [] → (readA L l (true, p, 0)).2.2 ≠ 0
  | [], L, p, t, hl, h, ht => by
    simp [encL] at h
    exact absurd h.2 ht
  | x :: l, L, p, t, hl, h, ht => by
    obtain ⟨x1, x2, x3⟩ := hl x (by simp)
    have h' : packN x.1 ++ ((packN (x.2.length : Nat) ++ x.2) ++ encL l) = L.drop p ++ t := by rw [← h]; simp [encL, encP]
    simp only [readA, if_true]
    rcases List.append_eq_append_iff.1 h' with ⟨a, h1, h2⟩ | ⟨c, h1, h2⟩
    · have e1 := rdNum_app x1 x2 h1
      have d1 := drop_drop' h1
      rcases List.append_eq_append_iff.1 h2 with ⟨a', g1, g2⟩ | ⟨c', g1, g2⟩
      · have e2 := rdText_app (s := x.2) (most := 100) (l := L) (rest := a') (by omega) (by omega) (by rw [d1]; exact g1)
        have d2 := drop_drop' (d1.trans g1)
        have hp : readP L x (true, p, 0) = (true, p + (packN x.1).length + (packN (x.2.length : Nat) ++ x.2).length, 0) := by
          unfold readP
          simp only [e1, e2]
          simp
        rw [hp]
        exact readA_cut l L _ t (fun y hy => hl y (by simp [hy])) (by rw [d2]; exact g2) ht
      · by_cases hc : c' = []
        · subst hc
          rw [List.append_nil] at g1
          have e2 := rdText_app (s := x.2) (most := 100) (l := L) (rest := []) (by omega) (by omega) (by rw [d1, List.append_nil]; exact g1.symm)
          have d2 := drop_drop' (l := L) (a := packN (x.2.length : Nat) ++ x.2) (b := []) (by rw [d1, List.append_nil]; exact g1.symm)
          have hp : readP L x (true, p, 0) = (true, p + (packN x.1).length + (packN (x.2.length : Nat) ++ x.2).length, 0) := by
            unfold readP
            simp only [e1, e2]
            simp
          rw [hp]
          exact readA_cut l L _ t (fun y hy => hl y (by simp [hy])) (by rw [d2]; simpa using g2.symm) ht
        · refine readA_err _ _ _ ?_
          have e2 := rdText_cut (s := x.2) (most := 100) (l := L) (p := p + (packN x.1).length) (by omega) (by omega) (by rw [d1]; exact g1) hc
          unfold readP
          simp only [e1]
          rw [if_pos trivial]
          exact e2
    · refine readA_err _ _ _ ?_
      by_cases hc : c = []
      · subst hc
        rw [List.append_nil] at h1
        have e1 := rdNum_app (l := L) (p := p) (rest := []) x1 x2 (by rw [List.append_nil]; exact h1.symm)
        have d1 := drop_drop' (l := L) (p := p) (a := packN x.1) (b := []) (by rw [List.append_nil]; exact h1.symm)
        have e2 := rdText_cut (most := 100) (l := L) (p := p + (packN x.1).length) (s := x.2) (t := packN (x.2.length : Nat) ++ x.2) (by omega) (by omega) (by rw [d1]; rfl) (by
          intro q
          have := (packN_len (x.2.length : Nat)).1
          have q2 := congrArg List.length q
          simp at q2
          rw [q2.1] at this
          simp at this)
        unfold readP
        simp only [e1]
        rw [if_pos trivial]
        exact e2
      · have e1 := rdNum_cut x1 x2 h1 hc
        unfold readP
        split
        · simp only
          rw [e1, (rdText_err (by decide)).1]
          decide
        · simp only
          rw [e1]
          decide
/-- No more than 100 bytes. -/
def cut100 (s : ByteArray) : ByteArray := if s.size ≤ 100 then s else s.extract 0 100
theorem cut100_le (s : ByteArray) : (cut100 s).size ≤ 100 := by
  unfold cut100
  split
  · assumption
  · simp
    omega
/-- The pairs that are written. -/
def pairs (a0 : List Int) (a1 : List ByteArray) (n : Nat) : List (Int × List UInt8) := (List.zipWith (fun x s => (x, sb (cut100 s))) a0 a1).take n
theorem pairs_get {a0 : List Int} {a1 : List ByteArray} {n j : Nat} {x : Int} {s : ByteArray} (h : j < n) (hx : a0[j]? = some x) (hs : a1[j]? = some s) : (pairs a0 a1 n)[j]? = some (x, sb (cut100 s)) := by
  unfold pairs
  rw [List.getElem?_take, if_pos h, List.getElem?_zipWith, hx, hs]
theorem txt_eq (l : List UInt8) (s : ByteArray) : (txt l = s) ↔ (l = sb s) := by
  unfold txt sb
  obtain ⟨⟨s⟩⟩ := s
  simp

end Go.Proofs.Ytangdhaihhgjkaa
/- A scan's answer: fill.Keys and the document's. -/
namespace Go.Proofs.Ytangdhaihhgjkaa
open Go Go.YtangdhaihhgjkaaAbs
set_option linter.unusedSimpArgs false
set_option linter.unusedVariables false
set_option maxRecDepth 4000

/-- The keys of the texts that stand in bytes from a place on, n texts at most. -/
def keysP (l : List UInt8) : Nat → Nat → List ByteArray
  | 0, _ => []
  | n + 1, p => if p < l.length then
      (if (rdText l 250 p 0).2.2 = 0 then (if keyP (rdText l 250 p 0).1 then [txt (rdText l 250 p 0).1] else []) ++ keysP l n (rdText l 250 p 0).2.1 else [])
    else []
theorem keysP_len (l : List UInt8) : ∀ n p, (keysP l n p).length ≤ n
  | 0, _ => Nat.le_refl _
  | n + 1, p => by
    unfold keysP
    split
    · split
      · have := keysP_len l n (rdText l 250 p 0).2.1
        rw [List.length_append]
        split <;> simp <;> omega
      · simp
    · simp
theorem rdText_len {l : List UInt8} {p : Nat} {e : Int} (hp : p ≤ l.length) (h : (rdText l 250 p e).2.2 = 0) : (rdText l 250 p e).1.length ≤ 250 := by
  unfold rdText at h ⊢
  split
  · simp
  · split
    · simp
    · split
      · simp
      · rw [List.length_take]
        omega
/-- What holds while the texts are read. -/
def KInv (l : List UInt8) (b : Nat) (w : AV) (s : ByteArray) (h2 : Heap) (m : Nat) (z : St) : Prop :=
  ∃ (n p : Nat) (ov : AV) (L : List ByteArray), m = 16 - n ∧ n ≤ 16 ∧ L ++ keysP l (16 - n) p = keysP l 16 0 ∧ p ≤ l.length ∧
    z.t.get 0 = some (.str s) ∧ z.t.get 3 = some (.ptr b 0) ∧ z.t.get 4 = some ov ∧ z.t.get 5 = some (.int .i64 (n : Nat)) ∧
    Rdr z.h b w l p 0 ∧ Mine 1 L.length z.h ov (L.map ss) ∧ (∀ d, Has ov d → h2.next ≤ d) ∧ Keep h2.next (fun d => d = b) h2 z.h
theorem txt_list (l : List UInt8) : (txt l).data.toList = l := rfl
theorem keys_ok (k : Nat) (hk : 1000 < k) (s : ByteArray) (hs : s.size < 1000000) (h : Heap) :
    ∃ v' h', acall Try.prog (k + 5) 18 [.str s] h = some (v', h') ∧ Mine 1 (keysP s.data.toList 16 0).length h' v' ((keysP s.data.toList 16 0).map ss) ∧ (∀ d, Has v' d → h.next ≤ d) ∧ Keep h.next nob h h' := by
  rw [acall_text [] Try.func18 (by kernel_rfl)]
  refine afuncT_ex rfl (by simp [Try.f18]) ?_
  have hsl := sz_list s
  obtain ⟨l, hl⟩ : ∃ l, s.data.toList = l := ⟨_, rfl⟩
  rw [hl] at hsl
  rw [hl]
  have M0 : Mine 1 l.length (h.new (.cells (l.map bb) false)) (.sl h.next 0 l.length l.length 1 false) (l.map bb) := Mine.whole (get_new_self _ _) (Nat.lt_succ_self _) (by simp) (bb_one l) false
  have K0 : Keep h.next nob h (h.new (.cells (l.map bb) false)) := Keep.new (Nat.le_refl _) _
  have cv : (l.map fun b => AV.int .u8 (b.toNat : Nat)) = l.map bb := rfl
  obtain ⟨h1, e1⟩ : ∃ h1, h.new (.cells (l.map bb) false) = h1 := ⟨_, rfl⟩
  rw [e1] at M0 K0
  simp [Try.f18, Try.underlying43, Try.underlying9, Try.underlying5, hl, cv, ← hsl, e1]
  refine use (read_ok (k + 2) h1 _ l M0.sl (by omega)) ?_
  intro v2 h2 hq
  have hh := hq
  clear hq
  obtain ⟨b, w, rfl, hb1, hb2, R, K1⟩ := hh
  simp
  have hw2 := sl_lt R.2.2.1
  have hpl0 : 0 ≤ l.length := Nat.zero_le _
  refine W_loop (KInv l b w s h2) 16 (by omega) ?_ ?_
  · unfold KInv
    exact ⟨0, 0, .nils, [], rfl, by omega, rfl, hpl0, by simp, by simp, by simp, by simp, R, Mine.nil 1 h2, fun d hd => (by cases hd), Keep.refl _ _ _⟩
  rintro m ⟨t, h3⟩ hI
  unfold KInv at hI
  obtain ⟨n, p, ov, L, rfl, hn, hL, hp, q0, q3, q4, q5, R3, M3, hov, K3⟩ := hI
  simp only at q0 q3 q4 q5 R3 M3 K3
  have fin : ∀ h4 (v : AV) (E : List ByteArray), E = keysP l 16 0 → Mine 1 E.length h4 v (E.map ss) → (∀ d, Has v d → h2.next ≤ d) → Keep h2.next (fun d => d = b) h2 h4 →
      Mine 1 (keysP l 16 0).length h4 v ((keysP l 16 0).map ss) ∧ (∀ d, Has v d → h.next ≤ d) ∧ Keep h.next nob h h4 := by
    intro h4 v E e M hv K
    subst e
    have n02 : h.next ≤ h2.next := Nat.le_trans K0.1 K1.1
    refine ⟨M, fun d hd => Nat.le_trans n02 (hv d hd), (K0.trans (K1.weak K0.1 fun _ _ q => q)).trans (K.weak n02 fun d hd q => ?_)⟩
    have := K0.1
    subst q
    exact absurd hd (by omega)
  have A3 := at_ok (k + 3) h3 b p w l 0 R3
  have ks : n < 16 → keysP l (16 - n) p = if p < l.length then (if (rdText l 250 p 0).2.2 = 0 then (if keyP (rdText l 250 p 0).1 then [txt (rdText l 250 p 0).1] else []) ++ keysP l (16 - (n + 1)) (rdText l 250 p 0).2.1 else []) else [] := by
    intro q
    obtain ⟨j, hj⟩ : ∃ j, 16 - n = j + 1 := ⟨16 - n - 1, by omega⟩
    rw [hj, show 16 - (n + 1) = j by omega]
    rfl
  by_cases h1 : p < l.length
  case neg =>
    have e : L = keysP l 16 0 := by
      rw [← hL]
      by_cases q : n < 16
      · rw [ks q, if_neg h1, List.append_nil]
      · rw [show 16 - n = 0 by omega]
        simp [keysP]
    simp [q0, q3, q4, q5, A3, isLe (show (s.size : Int) ≤ (p : Int) by omega)]
    exact fin h3 ov L e M3 hov K3
  by_cases hn16 : n < 16
  case neg =>
    have e : L = keysP l 16 0 := by
      rw [← hL, show 16 - n = 0 by omega]
      simp [keysP]
    simp [q0, q3, q4, q5, A3, isLt (show (p : Int) < (s.size : Int) by omega), isLe (show (16 : Int) ≤ (n : Int) by omega)]
    exact fin h3 ov L e M3 hov K3
  rw [ks hn16, if_pos h1] at hL
  obtain ⟨_, h4, E4, rfl, R4, K4⟩ := text_ok k h3 b p w l 0 (by omega) 250 R3 hp (by omega)
  have rle := rdText_le (l := l) (p := p) 250 0 hp
  have rln := rdText_len (l := l) (p := p) (e := 0) hp
  generalize rdText l 250 p 0 = q at *
  obtain ⟨x, p', e⟩ := q
  simp only at E4 R4 hL rle rln
  have nb : ¬ Has ov b := fun q => by have := hov b q; omega
  have M4 : Mine 1 L.length h4 ov (L.map ss) := M3.keep K4 fun d hd q => nb (q ▸ hd)
  have K24 : Keep h2.next (fun d => d = b) h2 h4 := K3.trans (K4.weak K3.1 fun _ _ q => q)
  have X4 := wrong_ok (k + 3) h4 b p' w l e R4
  by_cases he : e = 0
  case neg =>
    rw [if_neg he, List.append_nil] at hL
    simp [q0, q3, q4, q5, A3, isLt (show (p : Int) < (s.size : Int) by omega), isLt (show (n : Int) < 16 by omega), E4, X4, he]
    exact fin h4 ov L hL M4 hov K24
  subst he
  rw [if_pos rfl] at hL
  have rln := rln rfl
  have xs : (txt x).size = x.length := rfl
  have Y4 := wkey_ok (k + 3) (txt x) (by omega) (by omega) h4
  rw [txt_list] at Y4
  by_cases hk2 : keyP x = true
  · rw [if_pos hk2] at hL
    rw [hk2] at Y4
    obtain ⟨ov', h5, a5, M5, F5, K5⟩ := M4.push (P := Try.prog) el32 (a := [ss (txt x)]) (ex := true) rfl rfl (by
      have := congrArg List.length hL
      have h17 := keysP_len l 16 0
      simp at this
      omega)
    have a5 : aappend Try.prog (h4.new (.cells [.str (txt x)] false)) 32 32 ov (.sl h4.next 0 1 1 1 true) = some (ov', h5) := a5
    simp [q0, q3, q4, q5, A3, isLt (show (p : Int) < (s.size : Int) by omega), isLt (show (n : Int) < 16 by omega), E4, X4, Y4, aalloc, afill, a5, i64w ((n : Int) + 1) (by omega) (by omega)]
    refine ⟨16 - (n + 1), by omega, ?_⟩
    unfold KInv
    have K25 : Keep h2.next (fun d => d = b) h2 h5 := K24.trans (K5.weak K24.1 fun d hd q => by have := hov d q; omega)
    have R5 : Rdr h5 b w l p' 0 := R4.keep K5 nb fun c i n k s x q z => by
      have := hw2 c i n k s x q
      have := hov c z
      omega
    exact ⟨n + 1, p', ov', L ++ [txt x], rfl, by omega, by rw [← hL]; simp, rle, by simp [q0], by simp [q3], by simp, by simp, R5, by simpa using M5, fun d hd => by rcases F5 d hd with z | z; exact hov d z; exact Nat.le_trans K24.1 z, K25⟩
  · rw [if_neg hk2, List.nil_append] at hL
    have hk2 : keyP x = false := by simpa using hk2
    rw [hk2] at Y4
    simp [q0, q3, q4, q5, A3, isLt (show (p : Int) < (s.size : Int) by omega), isLt (show (n : Int) < 16 by omega), E4, X4, Y4, i64w ((n : Int) + 1) (by omega) (by omega)]
    refine ⟨16 - (n + 1), by omega, ?_⟩
    unfold KInv
    exact ⟨n + 1, p', ov, L, rfl, by omega, hL, rle, by simp [q0], by simp [q3], by simp [q4], by simp, R4, M4, hov, K24⟩
/-- .. of the document's reader. -/
def KInvR (l : List UInt8) (b : Nat) (w : AV) (s : ByteArray) (h2 : Heap) (m : Nat) (z : St) : Prop :=
  ∃ (n p : Nat) (e : Int) (ov : AV) (L : List ByteArray), m = 16 - n ∧ n ≤ 16 ∧ (e = 0 → L ++ keysP l (16 - n) p = keysP l 16 0) ∧ (e ≠ 0 → L = keysP l 16 0) ∧ p ≤ l.length ∧
    z.t.get 0 = some (.str s) ∧ z.t.get 3 = some (.ptr b 0) ∧ z.t.get 4 = some ov ∧ z.t.get 5 = some (.int .i64 (n : Nat)) ∧
    Rdr z.h b w l p e ∧ Mine 1 L.length z.h ov (L.map ss) ∧ (∀ d, Has ov d → h2.next ≤ d) ∧ Keep h2.next (fun d => d = b) h2 z.h
set_option maxHeartbeats 1000000 in
theorem rkeys_ok (k : Nat) (hk : 1000 < k) (s : ByteArray) (hs : s.size < 1000000) (h : Heap) :
    ∃ v' h', acall Try.prog (k + 5) 19 [.str s] h = some (v', h') ∧ Mine 1 (keysP s.data.toList 16 0).length h' v' ((keysP s.data.toList 16 0).map ss) ∧ (∀ d, Has v' d → h.next ≤ d) ∧ Keep h.next nob h h' := by
  rw [acall_text [] Try.func19 (by kernel_rfl)]
  refine afuncT_ex rfl (by simp [Try.f19]) ?_
  have hsl := sz_list s
  obtain ⟨l, hl⟩ : ∃ l, s.data.toList = l := ⟨_, rfl⟩
  rw [hl] at hsl
  rw [hl]
  have M0 : Mine 1 l.length (h.new (.cells (l.map bb) false)) (.sl h.next 0 l.length l.length 1 false) (l.map bb) := Mine.whole (get_new_self _ _) (Nat.lt_succ_self _) (by simp) (bb_one l) false
  have K0 : Keep h.next nob h (h.new (.cells (l.map bb) false)) := Keep.new (Nat.le_refl _) _
  have cv : (l.map fun b => AV.int .u8 (b.toNat : Nat)) = l.map bb := rfl
  obtain ⟨h1, e1⟩ : ∃ h1, h.new (.cells (l.map bb) false) = h1 := ⟨_, rfl⟩
  have e0 : h.next < h1.next := by rw [← e1]; exact Nat.lt_succ_self _
  rw [e1] at M0 K0
  obtain ⟨w, hw⟩ : ∃ w, AV.sl h.next 0 l.length l.length 1 false = w := ⟨_, rfl⟩
  have ow : w.one = true := by rw [← hw]; rfl
  have rw1 := row1_one ow
  have rww : (AV.agg [w, AV.int .i64 0, AV.int .i64 0]).row1 = some [w, AV.int .i64 0, AV.int .i64 0] := row1_agg (by rw [List.all_cons, ow]; rfl)
  obtain ⟨h2, e2⟩ : ∃ h2, h1.new (.cells [w, .int .i64 0, .int .i64 0] false) = h2 := ⟨_, rfl⟩
  have K1 : Keep h1.next nob h1 h2 := by rw [← e2]; exact Keep.new (Nat.le_refl _) _
  have R : Rdr h2 h1.next w l 0 0 := by
    rw [← e2, ← hw]
    exact ⟨get_new_self _ _, Nat.lt_succ_self _, M0.sl.new _, fun c i n k s x q => by cases q; omega⟩
  have hb1 : h1.next ≤ h1.next := Nat.le_refl _
  have hb2 : h1.next < h2.next := by rw [← e2]; exact Nat.lt_succ_self _
  simp [Try.f19, Try.underlying43, Try.underlying9, Try.underlying5, hl, cv, ← hsl, e1, aalloc, afill, hw, rw1, rww, e2]
  have hw2 := sl_lt R.2.2.1
  generalize h1.next = b at *
  have hpl0 : 0 ≤ l.length := Nat.zero_le _
  refine W_loop (KInvR l b w s h2) 16 (by omega) ?_ ?_
  · unfold KInvR
    exact ⟨0, 0, 0, .nils, [], rfl, by omega, fun _ => rfl, fun q => absurd rfl q, hpl0, by simp, by simp, by simp, by simp, R, Mine.nil 1 h2, fun d hd => (by cases hd), Keep.refl _ _ _⟩
  rintro m ⟨t, h3⟩ hI
  unfold KInvR at hI
  obtain ⟨n, p, e, ov, L, rfl, hn, hL0, hL1, hp, q0, q3, q4, q5, R3, M3, hov, K3⟩ := hI
  simp only at q0 q3 q4 q5 R3 M3 K3
  have fin : ∀ h4 (v : AV) (E : List ByteArray), E = keysP l 16 0 → Mine 1 E.length h4 v (E.map ss) → (∀ d, Has v d → h2.next ≤ d) → Keep h2.next (fun d => d = b) h2 h4 →
      Mine 1 (keysP l 16 0).length h4 v ((keysP l 16 0).map ss) ∧ (∀ d, Has v d → h.next ≤ d) ∧ Keep h.next nob h h4 := by
    intro h4 v E e M hv K
    subst e
    have n02 : h.next ≤ h2.next := by omega
    refine ⟨M, fun d hd => Nat.le_trans n02 (hv d hd), (K0.trans (K1.weak (by omega) fun _ _ q => q)).trans (K.weak n02 fun d hd q => ?_)⟩
    subst q
    exact absurd hd (by omega)
  have ks : n < 16 → keysP l (16 - n) p = if p < l.length then (if (rdText l 250 p 0).2.2 = 0 then (if keyP (rdText l 250 p 0).1 then [txt (rdText l 250 p 0).1] else []) ++ keysP l (16 - (n + 1)) (rdText l 250 p 0).2.1 else []) else [] := by
    intro q
    obtain ⟨j, hj⟩ : ∃ j, 16 - n = j + 1 := ⟨16 - n - 1, by omega⟩
    rw [hj, show 16 - (n + 1) = j by omega]
    rfl
  have ld1 := R3.ld1 (ty := 3) ta3
  have ld2 := R3.ld2 (ty := 3) ta3
  by_cases h1 : p < l.length
  case neg =>
    have e : L = keysP l 16 0 := by
      by_cases he : e = 0
      · rw [← hL0 he]
        by_cases q : n < 16
        · rw [ks q, if_neg h1, List.append_nil]
        · rw [show 16 - n = 0 by omega]
          simp [keysP]
      · exact hL1 he
    simp [q0, q3, q4, q5, ld1, ld2, isLe (show (s.size : Int) ≤ (p : Int) by omega)]
    exact fin h3 ov L e M3 hov K3
  by_cases he : e = 0
  case neg =>
    simp [q0, q3, q4, q5, ld1, ld2, isLt (show (p : Int) < (s.size : Int) by omega), he]
    exact fin h3 ov L (hL1 he) M3 hov K3
  subst he
  have hL := hL0 rfl
  by_cases hn16 : n < 16
  case neg =>
    have e : L = keysP l 16 0 := by
      rw [← hL, show 16 - n = 0 by omega]
      simp [keysP]
    simp [q0, q3, q4, q5, ld1, ld2, isLt (show (p : Int) < (s.size : Int) by omega), isLe (show (16 : Int) ≤ (n : Int) by omega)]
    exact fin h3 ov L e M3 hov K3
  rw [ks hn16, if_pos h1] at hL
  obtain ⟨_, h4, E4, rfl, R4, K4⟩ := rtext_ok k h3 b p w l 0 (by omega) 250 R3 hp (by omega)
  have rle := rdText_le (l := l) (p := p) 250 0 hp
  have rln := rdText_len (l := l) (p := p) (e := 0) hp
  generalize rdText l 250 p 0 = q at *
  obtain ⟨x, p', e⟩ := q
  simp only at E4 R4 hL rle rln
  have nb : ¬ Has ov b := fun q => by have := hov b q; omega
  have M4 : Mine 1 L.length h4 ov (L.map ss) := M3.keep K4 fun d hd q => nb (q ▸ hd)
  have K24 : Keep h2.next (fun d => d = b) h2 h4 := K3.trans (K4.weak K3.1 fun _ _ q => q)
  have ld3 := R4.ld2 (ty := 3) ta3
  by_cases he : e = 0
  case neg =>
    rw [if_neg he, List.append_nil] at hL
    simp [q0, q3, q4, q5, ld1, ld2, isLt (show (p : Int) < (s.size : Int) by omega), isLt (show (n : Int) < 16 by omega), E4, ld3, he, i64w ((n : Int) + 1) (by omega) (by omega)]
    refine ⟨16 - (n + 1), by omega, ?_⟩
    unfold KInvR
    exact ⟨n + 1, p', e, ov, L, rfl, by omega, fun q => absurd q he, fun _ => hL, rle, by simp [q0], by simp [q3], by simp [q4], by simp, R4, M4, hov, K24⟩
  subst he
  rw [if_pos rfl] at hL
  have rln := rln rfl
  have xs : (txt x).size = x.length := rfl
  have Y4 := rkey_ok (k + 3) (txt x) (by omega) (by omega) h4
  rw [txt_list] at Y4
  by_cases hk2 : keyP x = true
  · rw [if_pos hk2] at hL
    rw [hk2] at Y4
    obtain ⟨ov', h5, a5, M5, F5, K5⟩ := M4.push (P := Try.prog) el32 (a := [ss (txt x)]) (ex := true) rfl rfl (by
      have := congrArg List.length hL
      have h17 := keysP_len l 16 0
      simp at this
      omega)
    have a5 : aappend Try.prog (h4.new (.cells [.str (txt x)] false)) 32 32 ov (.sl h4.next 0 1 1 1 true) = some (ov', h5) := a5
    simp [q0, q3, q4, q5, ld1, ld2, isLt (show (p : Int) < (s.size : Int) by omega), isLt (show (n : Int) < 16 by omega), E4, ld3, Y4, aalloc, afill, a5, i64w ((n : Int) + 1) (by omega) (by omega)]
    refine ⟨16 - (n + 1), by omega, ?_⟩
    unfold KInvR
    have K25 : Keep h2.next (fun d => d = b) h2 h5 := K24.trans (K5.weak K24.1 fun d hd q => by have := hov d q; omega)
    have R5 : Rdr h5 b w l p' 0 := R4.keep K5 nb fun c i n k s x q z => by
      have := hw2 c i n k s x q
      have := hov c z
      omega
    exact ⟨n + 1, p', 0, ov', L ++ [txt x], rfl, by omega, fun _ => by rw [← hL]; simp, fun q => absurd rfl q, rle, by simp [q0], by simp [q3], by simp, by simp, R5, by simpa using M5, fun d hd => by rcases F5 d hd with z | z; exact hov d z; exact Nat.le_trans K24.1 z, K25⟩
  · rw [if_neg hk2, List.nil_append] at hL
    have hk2 : keyP x = false := by simpa using hk2
    rw [hk2] at Y4
    simp [q0, q3, q4, q5, ld1, ld2, isLt (show (p : Int) < (s.size : Int) by omega), isLt (show (n : Int) < 16 by omega), E4, ld3, Y4, i64w ((n : Int) + 1) (by omega) (by omega)]
    refine ⟨16 - (n + 1), by omega, ?_⟩
    unfold KInvR
    exact ⟨n + 1, p', 0, ov, L, rfl, by omega, fun _ => hL, fun q => absurd rfl q, rle, by simp [q0], by simp [q3], by simp [q4], by simp, R4, M4, hov, K24⟩
end Go.Proofs.Ytangdhaihhgjkaa
/- depotbook.Same of texts. -/
namespace Go.Proofs.Ytangdhaihhgjkaa
open Go Go.YtangdhaihhgjkaaAbs
set_option linter.unusedSimpArgs false
set_option linter.unusedVariables false
set_option maxRecDepth 4000

theorem sameS_ok (k : Nat) (h : Heap) (v1 v2 : AV) (E : List ByteArray) (S1 : Sl 1 E.length h v1 (E.map ss)) (S2 : Sl 1 E.length h v2 (E.map ss)) (hk : E.length + 2 < k) (hm : E.length < 1000000) :
    acall Try.prog (k + 1) 15 [v1, v2] h = some (.bool true, h) := by
  rw [acall_text [] Try.func15 (by kernel_rfl)]
  refine afuncT_of rfl (by simp [Try.f15]) ?_
  have l1 := S1.len'
  have l2 := S2.len'
  obtain ⟨n, hn⟩ : ∃ n, E.length = n := ⟨_, rfl⟩
  rw [hn] at l1 l2 S1 S2 hk hm
  simp [Try.f15, l1, l2]
  refine W_loop (fun m st => ∃ j, m = n - j ∧ j ≤ n ∧ st.h = h ∧ st.t.get 0 = some v1 ∧ st.t.get 1 = some v2 ∧ st.t.get 5 = some (.int .i64 (j : Nat))) n (by omega) ⟨0, by simp⟩ ?_
  rintro m ⟨t, h'⟩ ⟨j, rfl, hj, rfl, q0, q1, q5⟩
  simp only at q0 q1 q5 S1 S2
  by_cases hlt : j < n
  · obtain ⟨x, hx⟩ : ∃ x, E[j]? = some x := ⟨E[j], by simp⟩
    have hx' : (E.map ss)[j]? = some (.str x) := by rw [List.getElem?_map, hx]; rfl
    have i1 := S1.idx1 (P := Try.prog) Try.underlying32 ts9 (j := j) hlt .i64
    have i2 := S2.idx1 (P := Try.prog) Try.underlying32 ts9 (j := j) hlt .i64
    have d1 : aload Try.prog h' 9 v1.blk (v1.off + j) = some (.str x) := S1.ld ta9 hx'
    have d2 : aload Try.prog h' 9 v2.blk (v2.off + j) = some (.str x) := S2.ld ta9 hx'
    simp [q0, q1, q5, l1, isLt (show (j : Int) < (n : Int) by omega), i1, d1, i2, d2, i64w ((j : Int) + 1) (by omega) (by omega)]
    exact ⟨n - (j + 1), by omega, j + 1, rfl, by omega, by simp⟩
  · simp [q0, q1, q5, l1, isLe (show (n : Int) ≤ (j : Int) by omega)]
end Go.Proofs.Ytangdhaihhgjkaa
/- Contracts of the book of memory: Within. -/
namespace Go.Proofs.Ytangdhaihhgjkaa
open Go Go.YtangdhaihhgjkaaAbs
set_option linter.unusedSimpArgs false
set_option linter.unusedVariables false
/-- Within. -/
theorem within_ok (k : Nat) (n lo hi : Int) (hl : lo ≤ hi) (h1 : -1000000000000 ≤ lo) (h2 : hi ≤ 1000000000000) (h : Heap) :
    acall Try.prog (k + 1) 12 [.int .i64 n, .int .i64 lo, .int .i64 hi] h = some (.int .i64 (lo + n % (hi - lo + 1)), h) := by
  rw [acall_text [] Try.func12 (by kernel_rfl)]
  refine afuncT_of rfl (by simp [Try.f12]) ?_
  have w1 := i64w (hi - lo) (by omega) (by omega)
  have w2 := i64w (hi - lo + 1) (by omega) (by omega)
  have hne : ¬ hi - lo + 1 = 0 := by omega
  have e1 : n % (hi - lo + 1) < hi - lo + 1 := Int.emod_lt_of_pos _ (by omega)
  have e2 : 0 ≤ n % (hi - lo + 1) := Int.emod_nonneg _ (by omega)
  have e0 := Int.tmod_eq_emod (a := n) (b := hi - lo + 1)
  by_cases hr : n.tmod (hi - lo + 1) < 0
  · have e3 : n.tmod (hi - lo + 1) + (hi - lo + 1) = n % (hi - lo + 1) := by
      split at e0 <;> omega
    have w3 := i64w (n.tmod (hi - lo + 1) + hi) (by omega) (by omega)
    have w4 := i64w (n.tmod (hi - lo + 1) + hi - lo) (by omega) (by omega)
    have w5 := i64w (n.tmod (hi - lo + 1) + hi - lo + 1) (by omega) (by omega)
    have w6 := i64w (lo + (n.tmod (hi - lo + 1) + hi - lo + 1)) (by omega) (by omega)
    simp [Try.f12, w1, w2, w3, w4, w5, w6, hne, isLt hr]
    omega
  · have e3 : n.tmod (hi - lo + 1) = n % (hi - lo + 1) := by
      split at e0 <;> omega
    have w6 := i64w (lo + n % (hi - lo + 1)) (by omega) (by omega)
    simp [Try.f12, w1, w2, w6, hne, isLe e2, e3]

end Go.Proofs.Ytangdhaihhgjkaa
