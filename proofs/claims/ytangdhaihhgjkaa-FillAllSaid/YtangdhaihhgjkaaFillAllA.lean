/- Contracts of the functions that the law reaches, over the abstract machine. -/
import Derived.Test.YtangdhaihhgjkaaMachC
import Derived.Test.YtangdhaihhgjkaaProg
import Derived.Test.YtangdhaihhgjkaaMachD
import Init.Data.Nat.Bitwise.Lemmas
import Derived.KernelRfl
import Derived.Test.YtangdhaihhgjkaaMachA
import Derived.Test.YtangdhaihhgjkaaMachB
/- The chapter's closed law, by the kernel. -/
namespace Go.Proofs.Ytangdhaihhgjkaa
open Go Go.YtangdhaihhgjkaaAbs Go.RowKit
theorem mixed : Try.prog.follows .mixedOrders = true := by kernel_rfl
set_option maxRecDepth 100000 in
theorem run : ((acall Try.prog 3000000 3 [] Heap.none).map fun r => sameAV r.1 (.bool true)) = some true := by kernel_rfl
theorem runs_ok : ∀ w, Calls Try.prog 3 #[] w fun e w' => e = .returned (.bool true) ∧ Below w.heap.size w w' := fun w => closed_call mixed run w
end Go.Proofs.Ytangdhaihhgjkaa
/- Facts on the seat's types and functions, for stepping. -/
namespace Go.Proofs.Ytangdhaihhgjkaa
open Go Go.YtangdhaihhgjkaaAbs
def zz80 : List AV := List.replicate 510 (.int .u8 0)
@[simp] theorem zz80_one : zz80.all AV.one = true := by decide +kernel
@[simp] theorem zz80_len : zz80.length = 510 := by decide +kernel
def zz81 : List AV := List.replicate 256 (.int .u8 0)
@[simp] theorem zz81_one : zz81.all AV.one = true := by decide +kernel
@[simp] theorem zz81_len : zz81.length = 256 := by decide +kernel
def zz82 : List AV := List.replicate 766 (.int .u8 0)
@[simp] theorem zz82_one : zz82.all AV.one = true := by decide +kernel
@[simp] theorem zz82_len : zz82.length = 766 := by decide +kernel
def zz83 : List AV := List.replicate 766 (.int .u8 0)
@[simp] theorem zz83_one : zz83.all AV.one = true := by decide +kernel
@[simp] theorem zz83_len : zz83.length = 766 := by decide +kernel
def zz86 : List AV := [(.int .i64 0), (.int .i64 0), (.int .u8 0), (.int .u8 0), (.int .u8 0), (.int .u8 0), (.int .u8 0), (.int .u8 0), (.int .u8 0), (.int .u8 0), (.int .u8 0), (.int .u8 0), (.int .u8 0), (.int .u8 0), (.int .u8 0), (.int .u8 0), (.int .u8 0), (.int .u8 0), (.int .u8 0), (.int .u8 0), (.int .u8 0), (.int .u8 0), (.int .u8 0), (.int .u8 0), (.int .u8 0), (.int .u8 0), (.int .u8 0), (.int .u8 0), (.int .u8 0), (.int .u8 0), (.int .u8 0), (.int .u8 0), (.int .u8 0), (.int .u8 0), (.int .u8 0), (.int .u8 0), (.int .u8 0), (.int .u8 0), (.int .u8 0), (.int .u8 0), (.int .u8 0), (.int .u8 0), (.int .u8 0), (.int .u8 0), (.int .u8 0), (.int .u8 0), (.int .u8 0), (.int .u8 0), (.int .u8 0), (.int .u8 0), (.int .u8 0), (.int .u8 0), (.int .u8 0), (.int .u8 0), (.int .u8 0), (.int .u8 0), (.int .u8 0), (.int .u8 0), (.int .u8 0), (.int .u8 0), (.int .u8 0), (.int .u8 0), (.int .u8 0), (.int .u8 0), (.int .u8 0), (.int .u8 0), (.int .u8 0), (.int .u8 0), (.int .u8 0), (.int .u8 0), (.int .u8 0), (.int .u8 0), (.int .u8 0), (.int .u8 0), (.int .u8 0), (.int .u8 0), (.int .u8 0), (.int .u8 0), (.int .u8 0), (.int .u8 0), (.int .u8 0), (.int .u8 0), (.int .u8 0), (.int .u8 0), (.int .u8 0), (.int .u8 0), (.int .u8 0), (.int .u8 0), (.int .u8 0), (.int .u8 0), (.int .u8 0), (.int .u8 0), (.int .u8 0), (.int .u8 0), (.int .u8 0), (.int .u8 0), (.int .u8 0), (.int .u8 0), (.int .u8 0), (.int .u8 0), (.int .u8 0), (.int .u8 0), (.int .u8 0), (.int .u8 0), (.int .u8 0), (.int .u8 0), (.int .u8 0), (.int .u8 0), (.int .u8 0), (.int .u8 0), (.int .u8 0), (.int .u8 0), (.int .u8 0), (.int .u8 0), (.int .u8 0), (.int .u8 0), (.int .u8 0), (.int .u8 0), (.int .u8 0), (.int .u8 0), (.int .u8 0), (.int .u8 0), (.int .u8 0), (.int .u8 0), (.int .u8 0), (.int .u8 0), (.int .u8 0), (.int .u8 0), (.int .u8 0), (.int .u8 0), (.int .u8 0), (.int .u8 0), (.int .u8 0), (.int .u8 0), (.int .u8 0), (.int .u8 0), (.int .u8 0), (.int .u8 0), (.int .u8 0), (.int .u8 0), (.int .u8 0), (.int .u8 0), (.int .u8 0), (.int .u8 0), (.int .u8 0), (.int .u8 0), (.int .u8 0), (.int .u8 0), (.int .u8 0), (.int .u8 0), (.int .u8 0), (.int .u8 0), (.int .u8 0), (.int .u8 0), (.int .u8 0), (.int .u8 0), (.int .u8 0), (.int .u8 0), (.int .u8 0), (.int .u8 0), (.int .u8 0), (.int .u8 0), (.int .u8 0), (.int .u8 0), (.int .u8 0), (.int .u8 0), (.int .u8 0), (.int .u8 0), (.int .u8 0), (.int .u8 0), (.int .u8 0), (.int .u8 0), (.int .u8 0), (.int .u8 0), (.int .u8 0), (.int .u8 0), (.int .u8 0), (.int .u8 0), (.int .u8 0), (.int .u8 0), (.int .u8 0), (.int .u8 0), (.int .u8 0), (.int .u8 0), (.int .u8 0), (.int .u8 0), (.int .u8 0), (.int .u8 0), (.int .u8 0), (.int .u8 0), (.int .u8 0), (.int .u8 0), (.int .u8 0), (.int .u8 0), (.int .u8 0), (.int .u8 0), (.int .u8 0), (.int .u8 0), (.int .u8 0), (.int .u8 0), (.int .u8 0), (.int .u8 0), (.int .u8 0), (.int .u8 0), (.int .u8 0), (.int .u8 0), (.int .u8 0), (.int .u8 0), (.int .u8 0), (.int .u8 0), (.int .u8 0), (.int .u8 0), (.int .u8 0), (.int .u8 0), (.int .u8 0), (.int .u8 0), (.int .u8 0), (.int .u8 0), (.int .u8 0), (.int .u8 0), (.int .u8 0), (.int .u8 0), (.int .u8 0), (.int .u8 0), (.int .u8 0), (.int .u8 0), (.int .u8 0), (.int .u8 0), (.int .u8 0), (.int .u8 0), (.int .u8 0), (.int .u8 0), (.int .u8 0), (.int .u8 0), (.int .u8 0), (.int .u8 0), (.int .u8 0), (.int .u8 0), (.int .u8 0), (.int .u8 0), (.int .u8 0), (.int .u8 0), (.int .u8 0), (.int .u8 0), (.int .u8 0), (.int .u8 0), (.int .u8 0), (.int .u8 0), (.int .u8 0), (.int .u8 0), (.int .u8 0), (.int .u8 0), (.int .u8 0), (.int .u8 0), (.int .u8 0), (.int .u8 0), (.int .u8 0), (.int .u8 0), (.int .u8 0), (.int .u8 0), (.int .u8 0), (.int .u8 0), (.int .u8 0), (.int .u8 0), (.int .u8 0), (.int .u8 0), (.int .u8 0), (.int .u8 0), (.int .u8 0), (.int .u8 0), (.int .u8 0), (.int .u8 0), (.int .u8 0), (.int .u8 0), (.int .u8 0), (.int .u8 0), (.int .u8 0), (.int .u8 0), (.int .u8 0), (.int .u8 0), (.int .u8 0), (.int .u8 0), (.int .u8 0), (.int .u8 0), (.int .u8 0), (.int .u8 0), (.int .u8 0), (.int .u8 0), (.int .u8 0), (.int .u8 0), (.int .u8 0), (.int .u8 0), (.int .u8 0), (.int .u8 0), (.int .u8 0), (.int .u8 0), (.int .u8 0), (.int .u8 0), (.int .u8 0), (.int .u8 0), (.int .u8 0), (.int .u8 0), (.int .u8 0), (.int .u8 0), (.int .u8 0), (.int .u8 0), (.int .u8 0), (.int .u8 0), (.int .u8 0), (.int .u8 0), (.int .u8 0), (.int .u8 0), (.int .u8 0), (.int .u8 0), (.int .u8 0), (.int .u8 0), (.int .u8 0), (.int .u8 0), (.int .u8 0), (.int .u8 0), (.int .u8 0), (.int .u8 0), (.int .u8 0), (.int .u8 0), (.int .u8 0), (.int .u8 0), (.int .u8 0), (.int .u8 0), (.int .u8 0), (.int .u8 0), (.int .u8 0), (.int .u8 0), (.int .u8 0), (.int .u8 0), (.int .u8 0), (.int .u8 0), (.int .u8 0), (.int .u8 0), (.int .u8 0), (.int .u8 0), (.int .u8 0), (.int .u8 0), (.int .u8 0), (.int .u8 0), (.int .u8 0), (.int .u8 0), (.int .u8 0), (.int .u8 0), (.int .u8 0), (.int .u8 0), (.int .u8 0), (.int .u8 0), (.int .u8 0), (.int .u8 0), (.int .u8 0), (.int .u8 0), (.int .u8 0), (.int .u8 0), (.int .u8 0), (.int .u8 0), (.int .u8 0), (.int .u8 0), (.int .u8 0), (.int .u8 0), (.int .u8 0), (.int .u8 0), (.int .u8 0), (.int .u8 0), (.int .u8 0), (.int .u8 0), (.int .u8 0), (.int .u8 0), (.int .u8 0), (.int .u8 0), (.int .u8 0), (.int .u8 0), (.int .u8 0), (.int .u8 0), (.int .u8 0), (.int .u8 0), (.int .u8 0), (.int .u8 0), (.int .u8 0), (.int .u8 0), (.int .u8 0), (.int .u8 0), (.int .u8 0), (.int .u8 0), (.int .u8 0), (.int .u8 0), (.int .u8 0), (.int .u8 0), (.int .u8 0), (.int .u8 0), (.int .u8 0), (.int .u8 0), (.int .u8 0), (.int .u8 0), (.int .u8 0), (.int .u8 0), (.int .u8 0), (.int .u8 0), (.int .u8 0), (.int .u8 0), (.int .u8 0), (.int .u8 0), (.int .u8 0), (.int .u8 0), (.int .u8 0), (.int .u8 0), (.int .u8 0), (.int .u8 0), (.int .u8 0), (.int .u8 0), (.int .u8 0), (.int .u8 0), (.int .u8 0), (.int .u8 0), (.int .u8 0), (.int .u8 0), (.int .u8 0), (.int .u8 0), (.int .u8 0), (.int .u8 0), (.int .u8 0), (.int .u8 0), (.int .u8 0), (.int .u8 0), (.int .u8 0), (.int .u8 0), (.int .u8 0), (.int .u8 0), (.int .u8 0), (.int .u8 0), (.int .u8 0), (.int .u8 0), (.int .u8 0), (.int .u8 0), (.int .u8 0), (.int .u8 0), (.int .u8 0), (.int .u8 0), (.int .u8 0), (.int .u8 0), (.int .u8 0), (.int .u8 0), (.int .u8 0), (.int .u8 0), (.int .u8 0), (.int .u8 0), (.int .u8 0), (.int .u8 0), (.int .u8 0), (.int .u8 0), (.int .u8 0), (.int .u8 0), (.int .u8 0), (.int .u8 0), (.int .u8 0), (.int .u8 0), (.int .u8 0), (.int .u8 0), (.int .u8 0), (.int .u8 0), (.int .u8 0), (.int .u8 0), (.int .u8 0), (.int .u8 0), (.int .u8 0), (.int .u8 0), (.int .u8 0), (.int .u8 0), (.int .u8 0), (.int .u8 0), (.int .u8 0), (.int .u8 0), (.int .u8 0), (.int .u8 0), (.int .u8 0), (.int .u8 0), (.int .u8 0), (.int .u8 0), (.int .u8 0), (.int .u8 0), (.int .u8 0), (.int .u8 0), (.int .u8 0), (.int .u8 0), (.int .u8 0), (.int .u8 0), (.int .u8 0), (.int .u8 0), (.int .u8 0), (.int .u8 0), (.int .u8 0), (.int .u8 0), (.int .u8 0), (.int .u8 0), (.int .u8 0), (.int .u8 0), (.int .u8 0), (.int .u8 0), (.int .u8 0), (.int .u8 0), (.int .u8 0), (.int .u8 0), (.int .u8 0), (.int .u8 0), (.int .u8 0), (.int .u8 0), (.int .u8 0), (.int .u8 0), (.int .u8 0), (.int .u8 0), (.int .u8 0), (.int .u8 0), (.int .u8 0), (.int .u8 0), (.int .u8 0), (.int .u8 0), (.int .u8 0), (.int .u8 0), (.int .u8 0), (.int .u8 0), (.int .u8 0), (.int .u8 0), (.int .u8 0), (.int .u8 0), (.int .u8 0), (.int .u8 0), (.int .u8 0), (.int .u8 0), (.int .u8 0), (.int .u8 0), (.int .u8 0), (.int .u8 0), (.int .u8 0), (.int .u8 0), (.int .u8 0), (.int .u8 0), (.int .u8 0), (.int .u8 0), (.int .u8 0), (.int .u8 0), (.int .u8 0), (.int .u8 0), (.int .u8 0), (.int .u8 0), (.int .u8 0), (.int .u8 0), (.int .u8 0), (.int .u8 0), (.int .u8 0), (.int .u8 0), (.int .u8 0), (.int .u8 0), (.int .u8 0), (.int .u8 0), (.int .u8 0), (.int .u8 0), (.int .u8 0), (.int .u8 0), (.int .u8 0), (.int .u8 0), (.int .u8 0), (.int .u8 0), (.int .u8 0), (.int .u8 0), (.int .u8 0), (.int .u8 0), (.int .u8 0), (.int .u8 0), (.int .u8 0), (.int .u8 0), (.int .u8 0), (.int .u8 0), (.int .u8 0), (.int .u8 0), (.int .u8 0), (.int .u8 0), (.int .u8 0), (.int .u8 0), (.int .u8 0), (.int .u8 0), (.int .u8 0), (.int .u8 0), (.int .u8 0), (.int .u8 0), (.int .u8 0), (.int .u8 0), (.int .u8 0), (.int .u8 0), (.int .u8 0), (.int .u8 0), (.int .u8 0), (.int .u8 0), (.int .u8 0), (.int .u8 0), (.int .u8 0), (.int .u8 0), (.int .u8 0), (.int .u8 0), (.int .u8 0), (.int .u8 0), (.int .u8 0), (.int .u8 0), (.int .u8 0), (.int .u8 0), (.int .u8 0), (.int .u8 0), (.int .u8 0), (.int .u8 0), (.int .u8 0), (.int .u8 0), (.int .u8 0), (.int .u8 0), (.int .u8 0), (.int .u8 0), (.int .u8 0), (.int .u8 0), (.int .u8 0), (.int .u8 0), (.int .u8 0), (.int .u8 0), (.int .u8 0), (.int .u8 0), (.int .u8 0), (.int .u8 0), (.int .u8 0), (.int .u8 0), (.int .u8 0), (.int .u8 0), (.int .u8 0), (.int .u8 0), (.int .u8 0), (.int .u8 0), (.int .u8 0), (.int .u8 0), (.int .u8 0), (.int .u8 0), (.int .u8 0), (.int .u8 0), (.int .u8 0), (.int .u8 0), (.int .u8 0), (.int .u8 0), (.int .u8 0), (.int .u8 0), (.int .u8 0), (.int .u8 0), (.int .u8 0), (.int .u8 0), (.int .u8 0), (.int .u8 0), (.int .u8 0), (.int .u8 0), (.int .u8 0), (.int .u8 0), (.int .u8 0), (.int .u8 0), (.int .u8 0), (.int .u8 0), (.int .u8 0), (.int .u8 0), (.int .u8 0), (.int .u8 0), (.int .u8 0), (.int .u8 0), (.int .u8 0), (.int .u8 0), (.int .u8 0), (.int .u8 0), (.int .u8 0), (.int .u8 0), (.int .u8 0), (.int .u8 0), (.int .u8 0), (.int .u8 0), (.int .u8 0), (.int .u8 0), (.int .u8 0), (.int .u8 0), (.int .u8 0), (.int .u8 0), (.int .u8 0), (.int .u8 0), (.int .u8 0), (.int .u8 0), (.int .u8 0), (.int .u8 0), (.int .u8 0), (.int .u8 0), (.int .u8 0), (.int .u8 0), (.int .u8 0), (.int .u8 0), (.int .u8 0), (.int .u8 0), (.int .u8 0), (.int .u8 0), (.int .u8 0), (.int .u8 0), (.int .u8 0), (.int .u8 0), (.int .u8 0), (.int .u8 0), (.int .u8 0), (.int .u8 0), (.int .u8 0), (.int .u8 0), (.int .u8 0), (.int .u8 0), (.int .u8 0), (.int .u8 0), (.int .u8 0), (.int .u8 0), (.int .u8 0), (.int .u8 0), (.int .u8 0), (.int .u8 0), (.int .u8 0), (.int .u8 0), (.int .u8 0), (.int .u8 0), (.int .u8 0), (.int .u8 0), (.int .u8 0), (.int .u8 0), (.int .u8 0), (.int .u8 0), (.int .u8 0), (.int .u8 0), (.int .u8 0), (.int .u8 0), (.int .u8 0), (.int .u8 0), (.int .u8 0), (.int .u8 0), (.int .u8 0), (.int .u8 0), (.int .u8 0), (.int .u8 0), (.int .u8 0), (.int .u8 0), (.int .u8 0), (.int .u8 0), (.int .u8 0), (.int .u8 0), (.int .u8 0), (.int .u8 0), (.int .u8 0), (.int .u8 0), (.int .u8 0), (.int .u8 0), (.int .u8 0), (.int .u8 0), (.int .u8 0), (.int .u8 0), (.int .u8 0), (.int .u8 0), (.int .u8 0), (.int .u8 0), (.int .u8 0), (.int .u8 0), (.int .u8 0), (.int .u8 0), (.int .u8 0), (.int .u8 0), (.nils)]
@[simp] theorem zz86_one : zz86.all AV.one = true := by decide +kernel
@[simp] theorem zz86_len : zz86.length = 769 := by decide +kernel
def zz87 : List AV := [(.int .i64 0), (.int .i64 0), (.int .u8 0), (.int .u8 0), (.int .u8 0), (.int .u8 0), (.int .u8 0), (.int .u8 0), (.int .u8 0), (.int .u8 0), (.int .u8 0), (.int .u8 0), (.int .u8 0), (.int .u8 0), (.int .u8 0), (.int .u8 0), (.int .u8 0), (.int .u8 0), (.int .u8 0), (.int .u8 0), (.int .u8 0), (.int .u8 0), (.int .u8 0), (.int .u8 0), (.int .u8 0), (.int .u8 0), (.int .u8 0), (.int .u8 0), (.int .u8 0), (.int .u8 0), (.int .u8 0), (.int .u8 0), (.int .u8 0), (.int .u8 0), (.int .u8 0), (.int .u8 0), (.int .u8 0), (.int .u8 0), (.int .u8 0), (.int .u8 0), (.int .u8 0), (.int .u8 0), (.int .u8 0), (.int .u8 0), (.int .u8 0), (.int .u8 0), (.int .u8 0), (.int .u8 0), (.int .u8 0), (.int .u8 0), (.int .u8 0), (.int .u8 0), (.int .u8 0), (.int .u8 0), (.int .u8 0), (.int .u8 0), (.int .u8 0), (.int .u8 0), (.int .u8 0), (.int .u8 0), (.int .u8 0), (.int .u8 0), (.int .u8 0), (.int .u8 0), (.int .u8 0), (.int .u8 0), (.int .u8 0), (.int .u8 0), (.int .u8 0), (.int .u8 0), (.int .u8 0), (.int .u8 0), (.int .u8 0), (.int .u8 0), (.int .u8 0), (.int .u8 0), (.int .u8 0), (.int .u8 0), (.int .u8 0), (.int .u8 0), (.int .u8 0), (.int .u8 0), (.int .u8 0), (.int .u8 0), (.int .u8 0), (.int .u8 0), (.int .u8 0), (.int .u8 0), (.int .u8 0), (.int .u8 0), (.int .u8 0), (.int .u8 0), (.int .u8 0), (.int .u8 0), (.int .u8 0), (.int .u8 0), (.int .u8 0), (.int .u8 0), (.int .u8 0), (.int .u8 0), (.int .u8 0), (.int .u8 0), (.int .u8 0), (.int .u8 0), (.int .u8 0), (.int .u8 0), (.int .u8 0), (.int .u8 0), (.int .u8 0), (.int .u8 0), (.int .u8 0), (.int .u8 0), (.int .u8 0), (.int .u8 0), (.int .u8 0), (.int .u8 0), (.int .u8 0), (.int .u8 0), (.int .u8 0), (.int .u8 0), (.int .u8 0), (.int .u8 0), (.int .u8 0), (.int .u8 0), (.int .u8 0), (.int .u8 0), (.int .u8 0), (.int .u8 0), (.int .u8 0), (.int .u8 0), (.int .u8 0), (.int .u8 0), (.int .u8 0), (.int .u8 0), (.int .u8 0), (.int .u8 0), (.int .u8 0), (.int .u8 0), (.int .u8 0), (.int .u8 0), (.int .u8 0), (.int .u8 0), (.int .u8 0), (.int .u8 0), (.int .u8 0), (.int .u8 0), (.int .u8 0), (.int .u8 0), (.int .u8 0), (.int .u8 0), (.int .u8 0), (.int .u8 0), (.int .u8 0), (.int .u8 0), (.int .u8 0), (.int .u8 0), (.int .u8 0), (.int .u8 0), (.int .u8 0), (.int .u8 0), (.int .u8 0), (.int .u8 0), (.int .u8 0), (.int .u8 0), (.int .u8 0), (.int .u8 0), (.int .u8 0), (.int .u8 0), (.int .u8 0), (.int .u8 0), (.int .u8 0), (.int .u8 0), (.int .u8 0), (.int .u8 0), (.int .u8 0), (.int .u8 0), (.int .u8 0), (.int .u8 0), (.int .u8 0), (.int .u8 0), (.int .u8 0), (.int .u8 0), (.int .u8 0), (.int .u8 0), (.int .u8 0), (.int .u8 0), (.int .u8 0), (.int .u8 0), (.int .u8 0), (.int .u8 0), (.int .u8 0), (.int .u8 0), (.int .u8 0), (.int .u8 0), (.int .u8 0), (.int .u8 0), (.int .u8 0), (.int .u8 0), (.int .u8 0), (.int .u8 0), (.int .u8 0), (.int .u8 0), (.int .u8 0), (.int .u8 0), (.int .u8 0), (.int .u8 0), (.int .u8 0), (.int .u8 0), (.int .u8 0), (.int .u8 0), (.int .u8 0), (.int .u8 0), (.int .u8 0), (.int .u8 0), (.int .u8 0), (.int .u8 0), (.int .u8 0), (.int .u8 0), (.int .u8 0), (.int .u8 0), (.int .u8 0), (.int .u8 0), (.int .u8 0), (.int .u8 0), (.int .u8 0), (.int .u8 0), (.int .u8 0), (.int .u8 0), (.int .u8 0), (.int .u8 0), (.int .u8 0), (.int .u8 0), (.int .u8 0), (.int .u8 0), (.int .u8 0), (.int .u8 0), (.int .u8 0), (.int .u8 0), (.int .u8 0), (.int .u8 0), (.int .u8 0), (.int .u8 0), (.int .u8 0), (.int .u8 0), (.int .u8 0), (.int .u8 0), (.int .u8 0), (.int .u8 0), (.int .u8 0), (.int .u8 0), (.int .u8 0), (.int .u8 0), (.int .u8 0), (.int .u8 0), (.int .u8 0), (.int .u8 0), (.int .u8 0), (.int .u8 0), (.int .u8 0), (.int .u8 0), (.int .u8 0), (.int .u8 0), (.int .u8 0), (.int .u8 0), (.int .u8 0), (.int .u8 0), (.int .u8 0), (.int .u8 0), (.int .u8 0), (.int .u8 0), (.int .u8 0), (.int .u8 0), (.int .u8 0), (.int .u8 0), (.int .u8 0), (.int .u8 0), (.int .u8 0), (.int .u8 0), (.int .u8 0), (.int .u8 0), (.int .u8 0), (.int .u8 0), (.int .u8 0), (.int .u8 0), (.int .u8 0), (.int .u8 0), (.int .u8 0), (.int .u8 0), (.int .u8 0), (.int .u8 0), (.int .u8 0), (.int .u8 0), (.int .u8 0), (.int .u8 0), (.int .u8 0), (.int .u8 0), (.int .u8 0), (.int .u8 0), (.int .u8 0), (.int .u8 0), (.int .u8 0), (.int .u8 0), (.int .u8 0), (.int .u8 0), (.int .u8 0), (.int .u8 0), (.int .u8 0), (.int .u8 0), (.int .u8 0), (.int .u8 0), (.int .u8 0), (.int .u8 0), (.int .u8 0), (.int .u8 0), (.int .u8 0), (.int .u8 0), (.int .u8 0), (.int .u8 0), (.int .u8 0), (.int .u8 0), (.int .u8 0), (.int .u8 0), (.int .u8 0), (.int .u8 0), (.int .u8 0), (.int .u8 0), (.int .u8 0), (.int .u8 0), (.int .u8 0), (.int .u8 0), (.int .u8 0), (.int .u8 0), (.int .u8 0), (.int .u8 0), (.int .u8 0), (.int .u8 0), (.int .u8 0), (.int .u8 0), (.int .u8 0), (.int .u8 0), (.int .u8 0), (.int .u8 0), (.int .u8 0), (.int .u8 0), (.int .u8 0), (.int .u8 0), (.int .u8 0), (.int .u8 0), (.int .u8 0), (.int .u8 0), (.int .u8 0), (.int .u8 0), (.int .u8 0), (.int .u8 0), (.int .u8 0), (.int .u8 0), (.int .u8 0), (.int .u8 0), (.int .u8 0), (.int .u8 0), (.int .u8 0), (.int .u8 0), (.int .u8 0), (.int .u8 0), (.int .u8 0), (.int .u8 0), (.int .u8 0), (.int .u8 0), (.int .u8 0), (.int .u8 0), (.int .u8 0), (.int .u8 0), (.int .u8 0), (.int .u8 0), (.int .u8 0), (.int .u8 0), (.int .u8 0), (.int .u8 0), (.int .u8 0), (.int .u8 0), (.int .u8 0), (.int .u8 0), (.int .u8 0), (.int .u8 0), (.int .u8 0), (.int .u8 0), (.int .u8 0), (.int .u8 0), (.int .u8 0), (.int .u8 0), (.int .u8 0), (.int .u8 0), (.int .u8 0), (.int .u8 0), (.int .u8 0), (.int .u8 0), (.int .u8 0), (.int .u8 0), (.int .u8 0), (.int .u8 0), (.int .u8 0), (.int .u8 0), (.int .u8 0), (.int .u8 0), (.int .u8 0), (.int .u8 0), (.int .u8 0), (.int .u8 0), (.int .u8 0), (.int .u8 0), (.int .u8 0), (.int .u8 0), (.int .u8 0), (.int .u8 0), (.int .u8 0), (.int .u8 0), (.int .u8 0), (.int .u8 0), (.int .u8 0), (.int .u8 0), (.int .u8 0), (.int .u8 0), (.int .u8 0), (.int .u8 0), (.int .u8 0), (.int .u8 0), (.int .u8 0), (.int .u8 0), (.int .u8 0), (.int .u8 0), (.int .u8 0), (.int .u8 0), (.int .u8 0), (.int .u8 0), (.int .u8 0), (.int .u8 0), (.int .u8 0), (.int .u8 0), (.int .u8 0), (.int .u8 0), (.int .u8 0), (.int .u8 0), (.int .u8 0), (.int .u8 0), (.int .u8 0), (.int .u8 0), (.int .u8 0), (.int .u8 0), (.int .u8 0), (.int .u8 0), (.int .u8 0), (.int .u8 0), (.int .u8 0), (.int .u8 0), (.int .u8 0), (.int .u8 0), (.int .u8 0), (.int .u8 0), (.int .u8 0), (.int .u8 0), (.int .u8 0), (.int .u8 0), (.int .u8 0), (.int .u8 0), (.int .u8 0), (.int .u8 0), (.int .u8 0), (.int .u8 0), (.int .u8 0), (.int .u8 0), (.int .u8 0), (.int .u8 0), (.int .u8 0), (.int .u8 0), (.int .u8 0), (.int .u8 0), (.int .u8 0), (.int .u8 0), (.int .u8 0), (.int .u8 0), (.int .u8 0), (.int .u8 0), (.int .u8 0), (.int .u8 0), (.int .u8 0), (.int .u8 0), (.int .u8 0), (.int .u8 0), (.int .u8 0), (.int .u8 0), (.int .u8 0), (.int .u8 0), (.int .u8 0), (.int .u8 0), (.int .u8 0), (.int .u8 0), (.int .u8 0), (.int .u8 0), (.int .u8 0), (.int .u8 0), (.int .u8 0), (.int .u8 0), (.int .u8 0), (.int .u8 0), (.int .u8 0), (.int .u8 0), (.int .u8 0), (.int .u8 0), (.int .u8 0), (.int .u8 0), (.int .u8 0), (.int .u8 0), (.int .u8 0), (.int .u8 0), (.int .u8 0), (.int .u8 0), (.int .u8 0), (.int .u8 0), (.int .u8 0), (.int .u8 0), (.int .u8 0), (.int .u8 0), (.int .u8 0), (.int .u8 0), (.int .u8 0), (.int .u8 0), (.int .u8 0), (.int .u8 0), (.int .u8 0), (.int .u8 0), (.int .u8 0), (.int .u8 0), (.int .u8 0), (.int .u8 0), (.int .u8 0), (.int .u8 0), (.int .u8 0), (.int .u8 0), (.int .u8 0), (.int .u8 0), (.int .u8 0), (.int .u8 0), (.int .u8 0), (.int .u8 0), (.int .u8 0), (.int .u8 0), (.int .u8 0), (.int .u8 0), (.int .u8 0), (.int .u8 0), (.int .u8 0), (.int .u8 0), (.int .u8 0), (.int .u8 0), (.int .u8 0), (.int .u8 0), (.int .u8 0), (.int .u8 0), (.int .u8 0), (.int .u8 0), (.int .u8 0), (.int .u8 0), (.int .u8 0), (.int .u8 0), (.int .u8 0), (.int .u8 0), (.int .u8 0), (.int .u8 0), (.int .u8 0), (.int .u8 0), (.int .u8 0), (.int .u8 0), (.int .u8 0), (.int .u8 0), (.int .u8 0), (.int .u8 0), (.int .u8 0), (.int .u8 0), (.int .u8 0), (.int .u8 0), (.int .u8 0), (.int .u8 0), (.int .u8 0), (.int .u8 0), (.int .u8 0), (.int .u8 0), (.int .u8 0), (.int .u8 0), (.int .u8 0), (.int .u8 0), (.int .u8 0), (.int .u8 0), (.int .u8 0), (.int .u8 0), (.int .u8 0), (.int .u8 0), (.int .u8 0), (.int .u8 0), (.int .u8 0), (.int .u8 0), (.int .u8 0), (.int .u8 0), (.int .u8 0), (.int .u8 0), (.int .u8 0), (.int .u8 0), (.int .u8 0), (.int .u8 0), (.int .u8 0), (.int .u8 0), (.int .u8 0), (.int .u8 0), (.int .u8 0), (.int .u8 0), (.int .u8 0), (.int .u8 0), (.int .u8 0), (.int .u8 0), (.int .u8 0), (.int .u8 0), (.int .u8 0), (.int .u8 0), (.int .u8 0), (.int .u8 0), (.int .u8 0), (.int .u8 0), (.int .u8 0), (.int .u8 0), (.int .u8 0), (.int .u8 0), (.int .u8 0), (.int .u8 0), (.int .u8 0), (.int .u8 0), (.int .u8 0), (.int .u8 0), (.int .u8 0), (.int .u8 0), (.int .u8 0), (.int .u8 0), (.int .u8 0), (.int .u8 0), (.int .u8 0), (.int .u8 0), (.int .u8 0), (.int .u8 0), (.int .u8 0), (.int .u8 0), (.int .u8 0), (.int .u8 0), (.int .u8 0), (.int .u8 0), (.int .u8 0), (.int .u8 0), (.int .u8 0), (.int .u8 0), (.int .u8 0), (.int .u8 0), (.int .u8 0), (.int .u8 0), (.int .u8 0), (.int .u8 0), (.int .u8 0), (.int .u8 0), (.int .u8 0), (.int .u8 0), (.int .u8 0), (.int .u8 0), (.int .u8 0), (.int .u8 0), (.int .u8 0), (.int .u8 0), (.int .u8 0), (.int .u8 0), (.int .u8 0), (.int .u8 0), (.int .u8 0), (.int .u8 0), (.int .u8 0), (.int .u8 0), (.int .u8 0), (.int .u8 0), (.int .u8 0), (.int .u8 0), (.int .u8 0), (.int .u8 0), (.int .u8 0), (.int .u8 0), (.int .u8 0), (.int .u8 0), (.int .u8 0), (.int .u8 0), (.int .u8 0), (.int .u8 0), (.int .u8 0), (.int .u8 0), (.int .u8 0), (.int .u8 0), (.int .u8 0), (.int .u8 0), (.int .u8 0), (.int .u8 0), (.int .u8 0), (.int .u8 0), (.int .u8 0), (.int .u8 0), (.int .u8 0), (.int .u8 0), (.int .u8 0), (.int .u8 0), (.int .u8 0), (.int .u8 0), (.int .u8 0), (.int .u8 0), (.int .u8 0), (.int .u8 0), (.int .u8 0), (.int .u8 0), (.int .u8 0), (.int .u8 0), (.int .u8 0), (.int .u8 0), (.int .u8 0), (.int .u8 0), (.int .u8 0), (.int .u8 0), (.int .u8 0), (.int .u8 0), (.int .u8 0), (.int .u8 0), (.int .u8 0), (.int .u8 0), (.int .u8 0), (.int .u8 0), (.int .u8 0), (.int .u8 0), (.int .u8 0), (.int .u8 0), (.int .u8 0), (.int .u8 0), (.int .u8 0), (.int .u8 0), (.int .u8 0), (.int .u8 0), (.int .u8 0), (.int .u8 0), (.int .u8 0), (.int .u8 0), (.int .u8 0), (.int .u8 0), (.int .u8 0), (.int .u8 0), (.int .u8 0), (.int .u8 0), (.int .u8 0), (.int .u8 0), (.int .u8 0), (.int .u8 0), (.int .u8 0), (.int .u8 0), (.int .u8 0), (.int .u8 0), (.int .u8 0), (.int .u8 0), (.int .u8 0), (.int .u8 0), (.int .u8 0), (.int .u8 0), (.nils)]
@[simp] theorem zz87_one : zz87.all AV.one = true := by decide +kernel
@[simp] theorem zz87_len : zz87.length = 769 := by decide +kernel
@[simp] theorem ts2 : tsize Try.prog 2 = some 1 := by kernel_rfl
@[simp] theorem ta2 : tagg Try.prog 2 = some false := by kernel_rfl
@[simp] theorem az2 : azero Try.prog 2 = some ([(.int .i64 0)]) := by kernel_rfl
@[simp] theorem azv2 : azerov Try.prog 2 = some (.int .i64 0) := by kernel_rfl
@[simp] theorem ts3 : tsize Try.prog 3 = some 1 := by kernel_rfl
@[simp] theorem ta3 : tagg Try.prog 3 = some false := by kernel_rfl
@[simp] theorem az3 : azero Try.prog 3 = some ([(.int .i64 0)]) := by kernel_rfl
@[simp] theorem azv3 : azerov Try.prog 3 = some (.int .i64 0) := by kernel_rfl
@[simp] theorem ts4 : tsize Try.prog 4 = some 1 := by kernel_rfl
@[simp] theorem ta4 : tagg Try.prog 4 = some false := by kernel_rfl
@[simp] theorem az4 : azero Try.prog 4 = some ([(.bool false)]) := by kernel_rfl
@[simp] theorem azv4 : azerov Try.prog 4 = some (.bool false) := by kernel_rfl
@[simp] theorem ts5 : tsize Try.prog 5 = some 1 := by kernel_rfl
@[simp] theorem ta5 : tagg Try.prog 5 = some false := by kernel_rfl
@[simp] theorem az5 : azero Try.prog 5 = some ([(.int .u8 0)]) := by kernel_rfl
@[simp] theorem azv5 : azerov Try.prog 5 = some (.int .u8 0) := by kernel_rfl
@[simp] theorem ts9 : tsize Try.prog 9 = some 1 := by kernel_rfl
@[simp] theorem ta9 : tagg Try.prog 9 = some false := by kernel_rfl
@[simp] theorem az9 : azero Try.prog 9 = some ([(.str .empty)]) := by kernel_rfl
@[simp] theorem azv9 : azerov Try.prog 9 = some (.str .empty) := by kernel_rfl
@[simp] theorem ts12 : tsize Try.prog 12 = some 1 := by kernel_rfl
@[simp] theorem ta12 : tagg Try.prog 12 = some false := by kernel_rfl
@[simp] theorem az12 : azero Try.prog 12 = some ([(.int .u64 0)]) := by kernel_rfl
@[simp] theorem azv12 : azerov Try.prog 12 = some (.int .u64 0) := by kernel_rfl
@[simp] theorem ts13 : tsize Try.prog 13 = some 2 := by kernel_rfl
@[simp] theorem ta13 : tagg Try.prog 13 = some true := by kernel_rfl
@[simp] theorem az13 : azero Try.prog 13 = some ([(.str .empty), (.int .u64 0)]) := by kernel_rfl
@[simp] theorem azv13 : azerov Try.prog 13 = some (.agg ([(.str .empty), (.int .u64 0)])) := by kernel_rfl
@[simp] theorem af13_0 : afield Try.prog 13 0 = some (0, 9) := by kernel_rfl
@[simp] theorem af13_1 : afield Try.prog 13 1 = some (1, 12) := by kernel_rfl
@[simp] theorem ts21 : tsize Try.prog 21 = some 1 := by kernel_rfl
@[simp] theorem ta21 : tagg Try.prog 21 = some false := by kernel_rfl
@[simp] theorem az21 : azero Try.prog 21 = some ([(.int .i32 0)]) := by kernel_rfl
@[simp] theorem azv21 : azerov Try.prog 21 = some (.int .i32 0) := by kernel_rfl
@[simp] theorem ts22 : tsize Try.prog 22 = some 1 := by kernel_rfl
@[simp] theorem ta22 : tagg Try.prog 22 = some false := by kernel_rfl
@[simp] theorem az22 : azero Try.prog 22 = some ([(.nilp)]) := by kernel_rfl
@[simp] theorem azv22 : azerov Try.prog 22 = some (.nilp) := by kernel_rfl
@[simp] theorem ts23 : tsize Try.prog 23 = some 1 := by kernel_rfl
@[simp] theorem ta23 : tagg Try.prog 23 = some false := by kernel_rfl
@[simp] theorem az23 : azero Try.prog 23 = some ([(.int .i64 0)]) := by kernel_rfl
@[simp] theorem azv23 : azerov Try.prog 23 = some (.int .i64 0) := by kernel_rfl
@[simp] theorem ts26 : tsize Try.prog 26 = some 6 := by kernel_rfl
@[simp] theorem ta26 : tagg Try.prog 26 = some true := by kernel_rfl
@[simp] theorem az26 : azero Try.prog 26 = some ([(.int .i64 0), (.int .i64 0), (.int .i64 0), (.int .i64 0), (.int .i64 0), (.int .i64 0)]) := by kernel_rfl
@[simp] theorem azv26 : azerov Try.prog 26 = some (.agg ([(.int .i64 0), (.int .i64 0), (.int .i64 0), (.int .i64 0), (.int .i64 0), (.int .i64 0)])) := by kernel_rfl
@[simp] theorem af26_0 : afield Try.prog 26 0 = some (0, 3) := by kernel_rfl
@[simp] theorem af26_1 : afield Try.prog 26 1 = some (1, 3) := by kernel_rfl
@[simp] theorem af26_2 : afield Try.prog 26 2 = some (2, 3) := by kernel_rfl
@[simp] theorem af26_3 : afield Try.prog 26 3 = some (3, 3) := by kernel_rfl
@[simp] theorem af26_4 : afield Try.prog 26 4 = some (4, 3) := by kernel_rfl
@[simp] theorem af26_5 : afield Try.prog 26 5 = some (5, 3) := by kernel_rfl
@[simp] theorem ts27 : tsize Try.prog 27 = some 6 := by kernel_rfl
@[simp] theorem ta27 : tagg Try.prog 27 = some true := by kernel_rfl
@[simp] theorem az27 : azero Try.prog 27 = some ([(.int .i64 0), (.int .i64 0), (.int .i64 0), (.int .i64 0), (.int .i64 0), (.int .i64 0)]) := by kernel_rfl
@[simp] theorem azv27 : azerov Try.prog 27 = some (.agg ([(.int .i64 0), (.int .i64 0), (.int .i64 0), (.int .i64 0), (.int .i64 0), (.int .i64 0)])) := by kernel_rfl
@[simp] theorem af27_0 : afield Try.prog 27 0 = some (0, 3) := by kernel_rfl
@[simp] theorem af27_1 : afield Try.prog 27 1 = some (1, 3) := by kernel_rfl
@[simp] theorem af27_2 : afield Try.prog 27 2 = some (2, 3) := by kernel_rfl
@[simp] theorem af27_3 : afield Try.prog 27 3 = some (3, 3) := by kernel_rfl
@[simp] theorem af27_4 : afield Try.prog 27 4 = some (4, 3) := by kernel_rfl
@[simp] theorem af27_5 : afield Try.prog 27 5 = some (5, 3) := by kernel_rfl
@[simp] theorem ts28 : tsize Try.prog 28 = some 12 := by kernel_rfl
@[simp] theorem ta28 : tagg Try.prog 28 = some true := by kernel_rfl
@[simp] theorem az28 : azero Try.prog 28 = some ([(.int .i64 0), (.int .i64 0), (.int .i64 0), (.int .i64 0), (.int .i64 0), (.int .i64 0), (.int .i64 0), (.int .i64 0), (.int .i64 0), (.int .i64 0), (.int .i64 0), (.int .i64 0)]) := by kernel_rfl
@[simp] theorem azv28 : azerov Try.prog 28 = some (.agg ([(.int .i64 0), (.int .i64 0), (.int .i64 0), (.int .i64 0), (.int .i64 0), (.int .i64 0), (.int .i64 0), (.int .i64 0), (.int .i64 0), (.int .i64 0), (.int .i64 0), (.int .i64 0)])) := by kernel_rfl
@[simp] theorem ts32 : tsize Try.prog 32 = some 1 := by kernel_rfl
@[simp] theorem ta32 : tagg Try.prog 32 = some false := by kernel_rfl
@[simp] theorem az32 : azero Try.prog 32 = some ([(.nils)]) := by kernel_rfl
@[simp] theorem azv32 : azerov Try.prog 32 = some (.nils) := by kernel_rfl
theorem el32 : Elem Try.prog 32 9 1 16 := Elem.of (by kernel_rfl)
@[simp] theorem ts34 : tsize Try.prog 34 = some 1 := by kernel_rfl
@[simp] theorem ta34 : tagg Try.prog 34 = some false := by kernel_rfl
@[simp] theorem az34 : azero Try.prog 34 = some ([(.nils)]) := by kernel_rfl
@[simp] theorem azv34 : azerov Try.prog 34 = some (.nils) := by kernel_rfl
theorem el34 : Elem Try.prog 34 32 1 24 := Elem.of (by kernel_rfl)
@[simp] theorem ts35 : tsize Try.prog 35 = some 1 := by kernel_rfl
@[simp] theorem ta35 : tagg Try.prog 35 = some false := by kernel_rfl
@[simp] theorem az35 : azero Try.prog 35 = some ([(.nils)]) := by kernel_rfl
@[simp] theorem azv35 : azerov Try.prog 35 = some (.nils) := by kernel_rfl
theorem el35 : Elem Try.prog 35 3 1 8 := Elem.of (by kernel_rfl)
@[simp] theorem ts43 : tsize Try.prog 43 = some 1 := by kernel_rfl
@[simp] theorem ta43 : tagg Try.prog 43 = some false := by kernel_rfl
@[simp] theorem az43 : azero Try.prog 43 = some ([(.nils)]) := by kernel_rfl
@[simp] theorem azv43 : azerov Try.prog 43 = some (.nils) := by kernel_rfl
theorem el43 : Elem Try.prog 43 5 1 1 := Elem.of (by kernel_rfl)
@[simp] theorem ts50 : tsize Try.prog 50 = some 13 := by kernel_rfl
@[simp] theorem ta50 : tagg Try.prog 50 = some true := by kernel_rfl
@[simp] theorem az50 : azero Try.prog 50 = some ([(.int .i64 0), (.int .i64 0), (.int .i64 0), (.int .i64 0), (.int .i64 0), (.int .i64 0), (.int .i64 0), (.nils), (.bool false), (.bool false), (.nils), (.str .empty), (.nils)]) := by kernel_rfl
@[simp] theorem azv50 : azerov Try.prog 50 = some (.agg ([(.int .i64 0), (.int .i64 0), (.int .i64 0), (.int .i64 0), (.int .i64 0), (.int .i64 0), (.int .i64 0), (.nils), (.bool false), (.bool false), (.nils), (.str .empty), (.nils)])) := by kernel_rfl
@[simp] theorem af50_0 : afield Try.prog 50 0 = some (0, 27) := by kernel_rfl
@[simp] theorem af50_1 : afield Try.prog 50 1 = some (6, 3) := by kernel_rfl
@[simp] theorem af50_2 : afield Try.prog 50 2 = some (7, 35) := by kernel_rfl
@[simp] theorem af50_3 : afield Try.prog 50 3 = some (8, 4) := by kernel_rfl
@[simp] theorem af50_4 : afield Try.prog 50 4 = some (9, 4) := by kernel_rfl
@[simp] theorem af50_5 : afield Try.prog 50 5 = some (10, 35) := by kernel_rfl
@[simp] theorem af50_6 : afield Try.prog 50 6 = some (11, 9) := by kernel_rfl
@[simp] theorem af50_7 : afield Try.prog 50 7 = some (12, 32) := by kernel_rfl
@[simp] theorem ts51 : tsize Try.prog 51 = some 13 := by kernel_rfl
@[simp] theorem ta51 : tagg Try.prog 51 = some true := by kernel_rfl
@[simp] theorem az51 : azero Try.prog 51 = some ([(.int .i64 0), (.int .i64 0), (.int .i64 0), (.int .i64 0), (.int .i64 0), (.int .i64 0), (.int .i64 0), (.nils), (.bool false), (.bool false), (.nils), (.str .empty), (.nils)]) := by kernel_rfl
@[simp] theorem azv51 : azerov Try.prog 51 = some (.agg ([(.int .i64 0), (.int .i64 0), (.int .i64 0), (.int .i64 0), (.int .i64 0), (.int .i64 0), (.int .i64 0), (.nils), (.bool false), (.bool false), (.nils), (.str .empty), (.nils)])) := by kernel_rfl
@[simp] theorem af51_0 : afield Try.prog 51 0 = some (0, 27) := by kernel_rfl
@[simp] theorem af51_1 : afield Try.prog 51 1 = some (6, 3) := by kernel_rfl
@[simp] theorem af51_2 : afield Try.prog 51 2 = some (7, 35) := by kernel_rfl
@[simp] theorem af51_3 : afield Try.prog 51 3 = some (8, 4) := by kernel_rfl
@[simp] theorem af51_4 : afield Try.prog 51 4 = some (9, 4) := by kernel_rfl
@[simp] theorem af51_5 : afield Try.prog 51 5 = some (10, 35) := by kernel_rfl
@[simp] theorem af51_6 : afield Try.prog 51 6 = some (11, 9) := by kernel_rfl
@[simp] theorem af51_7 : afield Try.prog 51 7 = some (12, 32) := by kernel_rfl
@[simp] theorem ts59 : tsize Try.prog 59 = some 1 := by kernel_rfl
@[simp] theorem ta59 : tagg Try.prog 59 = some false := by kernel_rfl
@[simp] theorem az59 : azero Try.prog 59 = some ([(.nilp)]) := by kernel_rfl
@[simp] theorem azv59 : azerov Try.prog 59 = some (.nilp) := by kernel_rfl
@[simp] theorem ts64 : tsize Try.prog 64 = some 1 := by kernel_rfl
@[simp] theorem ta64 : tagg Try.prog 64 = some false := by kernel_rfl
@[simp] theorem az64 : azero Try.prog 64 = some ([(.nilp)]) := by kernel_rfl
@[simp] theorem azv64 : azerov Try.prog 64 = some (.nilp) := by kernel_rfl
@[simp] theorem ts65 : tsize Try.prog 65 = some 3 := by kernel_rfl
@[simp] theorem ta65 : tagg Try.prog 65 = some true := by kernel_rfl
@[simp] theorem az65 : azero Try.prog 65 = some ([(.nils), (.int .i64 0), (.int .i64 0)]) := by kernel_rfl
@[simp] theorem azv65 : azerov Try.prog 65 = some (.agg ([(.nils), (.int .i64 0), (.int .i64 0)])) := by kernel_rfl
@[simp] theorem af65_0 : afield Try.prog 65 0 = some (0, 43) := by kernel_rfl
@[simp] theorem af65_1 : afield Try.prog 65 1 = some (1, 3) := by kernel_rfl
@[simp] theorem af65_2 : afield Try.prog 65 2 = some (2, 3) := by kernel_rfl
@[simp] theorem ts66 : tsize Try.prog 66 = some 3 := by kernel_rfl
@[simp] theorem ta66 : tagg Try.prog 66 = some true := by kernel_rfl
@[simp] theorem az66 : azero Try.prog 66 = some ([(.nils), (.int .i64 0), (.int .i64 0)]) := by kernel_rfl
@[simp] theorem azv66 : azerov Try.prog 66 = some (.agg ([(.nils), (.int .i64 0), (.int .i64 0)])) := by kernel_rfl
@[simp] theorem af66_0 : afield Try.prog 66 0 = some (0, 43) := by kernel_rfl
@[simp] theorem af66_1 : afield Try.prog 66 1 = some (1, 3) := by kernel_rfl
@[simp] theorem af66_2 : afield Try.prog 66 2 = some (2, 3) := by kernel_rfl
@[simp] theorem ts67 : tsize Try.prog 67 = some 1 := by kernel_rfl
@[simp] theorem ta67 : tagg Try.prog 67 = some false := by kernel_rfl
@[simp] theorem az67 : azero Try.prog 67 = some ([(.nilp)]) := by kernel_rfl
@[simp] theorem azv67 : azerov Try.prog 67 = some (.nilp) := by kernel_rfl
@[simp] theorem ts72 : tsize Try.prog 72 = some 1 := by kernel_rfl
@[simp] theorem ta72 : tagg Try.prog 72 = some false := by kernel_rfl
@[simp] theorem az72 : azero Try.prog 72 = some ([(.int .u32 0)]) := by kernel_rfl
@[simp] theorem azv72 : azerov Try.prog 72 = some (.int .u32 0) := by kernel_rfl
@[simp] theorem ts74 : tsize Try.prog 74 = some 1 := by kernel_rfl
@[simp] theorem ta74 : tagg Try.prog 74 = some false := by kernel_rfl
@[simp] theorem az74 : azero Try.prog 74 = some ([(.int .u64 0)]) := by kernel_rfl
@[simp] theorem azv74 : azerov Try.prog 74 = some (.int .u64 0) := by kernel_rfl
@[simp] theorem ts75 : tsize Try.prog 75 = some 1 := by kernel_rfl
@[simp] theorem ta75 : tagg Try.prog 75 = some false := by kernel_rfl
@[simp] theorem az75 : azero Try.prog 75 = some ([(.int .u64 0)]) := by kernel_rfl
@[simp] theorem azv75 : azerov Try.prog 75 = some (.int .u64 0) := by kernel_rfl
@[simp] theorem ts76 : tsize Try.prog 76 = some 3 := by kernel_rfl
@[simp] theorem ta76 : tagg Try.prog 76 = some true := by kernel_rfl
@[simp] theorem az76 : azero Try.prog 76 = some ([(.nils), (.int .i64 0), (.int .i64 0)]) := by kernel_rfl
@[simp] theorem azv76 : azerov Try.prog 76 = some (.agg ([(.nils), (.int .i64 0), (.int .i64 0)])) := by kernel_rfl
@[simp] theorem af76_0 : afield Try.prog 76 0 = some (0, 43) := by kernel_rfl
@[simp] theorem af76_1 : afield Try.prog 76 1 = some (1, 3) := by kernel_rfl
@[simp] theorem af76_2 : afield Try.prog 76 2 = some (2, 23) := by kernel_rfl
@[simp] theorem ts77 : tsize Try.prog 77 = some 3 := by kernel_rfl
@[simp] theorem ta77 : tagg Try.prog 77 = some true := by kernel_rfl
@[simp] theorem az77 : azero Try.prog 77 = some ([(.nils), (.int .i64 0), (.int .i64 0)]) := by kernel_rfl
@[simp] theorem azv77 : azerov Try.prog 77 = some (.agg ([(.nils), (.int .i64 0), (.int .i64 0)])) := by kernel_rfl
@[simp] theorem af77_0 : afield Try.prog 77 0 = some (0, 43) := by kernel_rfl
@[simp] theorem af77_1 : afield Try.prog 77 1 = some (1, 3) := by kernel_rfl
@[simp] theorem af77_2 : afield Try.prog 77 2 = some (2, 23) := by kernel_rfl
@[simp] theorem ts80 : tsize Try.prog 80 = some 510 := by kernel_rfl
@[simp] theorem ta80 : tagg Try.prog 80 = some true := by kernel_rfl
@[simp] theorem az80 : azero Try.prog 80 = some (zz80) := by kernel_rfl
@[simp] theorem azv80 : azerov Try.prog 80 = some (.agg (zz80)) := by kernel_rfl
@[simp] theorem ts81 : tsize Try.prog 81 = some 256 := by kernel_rfl
@[simp] theorem ta81 : tagg Try.prog 81 = some true := by kernel_rfl
@[simp] theorem az81 : azero Try.prog 81 = some (zz81) := by kernel_rfl
@[simp] theorem azv81 : azerov Try.prog 81 = some (.agg (zz81)) := by kernel_rfl
@[simp] theorem ts82 : tsize Try.prog 82 = some 766 := by kernel_rfl
@[simp] theorem ta82 : tagg Try.prog 82 = some true := by kernel_rfl
@[simp] theorem az82 : azero Try.prog 82 = some (zz82) := by kernel_rfl
@[simp] theorem azv82 : azerov Try.prog 82 = some (.agg (zz82)) := by kernel_rfl
@[simp] theorem af82_0 : afield Try.prog 82 0 = some (0, 80) := by kernel_rfl
@[simp] theorem af82_1 : afield Try.prog 82 1 = some (510, 81) := by kernel_rfl
@[simp] theorem ts83 : tsize Try.prog 83 = some 766 := by kernel_rfl
@[simp] theorem ta83 : tagg Try.prog 83 = some true := by kernel_rfl
@[simp] theorem az83 : azero Try.prog 83 = some (zz83) := by kernel_rfl
@[simp] theorem azv83 : azerov Try.prog 83 = some (.agg (zz83)) := by kernel_rfl
@[simp] theorem af83_0 : afield Try.prog 83 0 = some (0, 80) := by kernel_rfl
@[simp] theorem af83_1 : afield Try.prog 83 1 = some (510, 81) := by kernel_rfl
@[simp] theorem ts85 : tsize Try.prog 85 = some 1 := by kernel_rfl
@[simp] theorem ta85 : tagg Try.prog 85 = some false := by kernel_rfl
@[simp] theorem az85 : azero Try.prog 85 = some ([(.nils)]) := by kernel_rfl
@[simp] theorem azv85 : azerov Try.prog 85 = some (.nils) := by kernel_rfl
theorem el85 : Elem Try.prog 85 43 1 24 := Elem.of (by kernel_rfl)
@[simp] theorem ts86 : tsize Try.prog 86 = some 769 := by kernel_rfl
@[simp] theorem ta86 : tagg Try.prog 86 = some true := by kernel_rfl
@[simp] theorem az86 : azero Try.prog 86 = some (zz86) := by kernel_rfl
@[simp] theorem azv86 : azerov Try.prog 86 = some (.agg (zz86)) := by kernel_rfl
@[simp] theorem af86_0 : afield Try.prog 86 0 = some (0, 3) := by kernel_rfl
@[simp] theorem af86_1 : afield Try.prog 86 1 = some (1, 3) := by kernel_rfl
@[simp] theorem af86_2 : afield Try.prog 86 2 = some (2, 83) := by kernel_rfl
@[simp] theorem af86_3 : afield Try.prog 86 3 = some (768, 85) := by kernel_rfl
@[simp] theorem ts87 : tsize Try.prog 87 = some 769 := by kernel_rfl
@[simp] theorem ta87 : tagg Try.prog 87 = some true := by kernel_rfl
@[simp] theorem az87 : azero Try.prog 87 = some (zz87) := by kernel_rfl
@[simp] theorem azv87 : azerov Try.prog 87 = some (.agg (zz87)) := by kernel_rfl
@[simp] theorem af87_0 : afield Try.prog 87 0 = some (0, 3) := by kernel_rfl
@[simp] theorem af87_1 : afield Try.prog 87 1 = some (1, 3) := by kernel_rfl
@[simp] theorem af87_2 : afield Try.prog 87 2 = some (2, 83) := by kernel_rfl
@[simp] theorem af87_3 : afield Try.prog 87 3 = some (768, 85) := by kernel_rfl
@[simp] theorem ts89 : tsize Try.prog 89 = some 1 := by kernel_rfl
@[simp] theorem ta89 : tagg Try.prog 89 = some false := by kernel_rfl
@[simp] theorem az89 : azero Try.prog 89 = some ([(.nilp)]) := by kernel_rfl
@[simp] theorem azv89 : azerov Try.prog 89 = some (.nilp) := by kernel_rfl
@[simp] theorem ts101 : tsize Try.prog 101 = some 1 := by kernel_rfl
@[simp] theorem ta101 : tagg Try.prog 101 = some false := by kernel_rfl
@[simp] theorem az101 : azero Try.prog 101 = some ([(.nilp)]) := by kernel_rfl
@[simp] theorem azv101 : azerov Try.prog 101 = some (.nilp) := by kernel_rfl
@[simp] theorem ng3 : nogo Try.f3 = false := by kernel_rfl
attribute [simp] Try.func3
@[simp] theorem ng4 : nogo Try.f4 = false := by kernel_rfl
attribute [simp] Try.func4
@[simp] theorem ng5 : nogo Try.f5 = false := by kernel_rfl
attribute [simp] Try.func5
@[simp] theorem ng6 : nogo Try.f6 = false := by kernel_rfl
attribute [simp] Try.func6
@[simp] theorem ng7 : nogo Try.f7 = false := by kernel_rfl
attribute [simp] Try.func7
@[simp] theorem ng8 : nogo Try.f8 = false := by kernel_rfl
attribute [simp] Try.func8
@[simp] theorem ng9 : nogo Try.f9 = false := by kernel_rfl
attribute [simp] Try.func9
@[simp] theorem ng10 : nogo Try.f10 = false := by kernel_rfl
attribute [simp] Try.func10
@[simp] theorem ng11 : nogo Try.f11 = false := by kernel_rfl
attribute [simp] Try.func11
@[simp] theorem ng12 : nogo Try.f12 = false := by kernel_rfl
attribute [simp] Try.func12
@[simp] theorem ng13 : nogo Try.f13 = false := by kernel_rfl
attribute [simp] Try.func13
@[simp] theorem ng14 : nogo Try.f14 = false := by kernel_rfl
attribute [simp] Try.func14
@[simp] theorem ng15 : nogo Try.f15 = false := by kernel_rfl
attribute [simp] Try.func15
@[simp] theorem ng16 : nogo Try.f16 = false := by kernel_rfl
attribute [simp] Try.func16
@[simp] theorem ng17 : nogo Try.f17 = false := by kernel_rfl
attribute [simp] Try.func17
@[simp] theorem ng18 : nogo Try.f18 = false := by kernel_rfl
attribute [simp] Try.func18
@[simp] theorem ng19 : nogo Try.f19 = false := by kernel_rfl
attribute [simp] Try.func19
@[simp] theorem ng20 : nogo Try.f20 = false := by kernel_rfl
attribute [simp] Try.func20
@[simp] theorem ng21 : nogo Try.f21 = false := by kernel_rfl
attribute [simp] Try.func21
@[simp] theorem ng22 : nogo Try.f22 = false := by kernel_rfl
attribute [simp] Try.func22
@[simp] theorem ng23 : nogo Try.f23 = false := by kernel_rfl
attribute [simp] Try.func23
@[simp] theorem ng24 : nogo Try.f24 = false := by kernel_rfl
attribute [simp] Try.func24
@[simp] theorem ng25 : nogo Try.f25 = false := by kernel_rfl
attribute [simp] Try.func25
@[simp] theorem ng26 : nogo Try.f26 = false := by kernel_rfl
attribute [simp] Try.func26
@[simp] theorem ng27 : nogo Try.f27 = false := by kernel_rfl
attribute [simp] Try.func27
@[simp] theorem ng28 : nogo Try.f28 = false := by kernel_rfl
attribute [simp] Try.func28
@[simp] theorem ng29 : nogo Try.f29 = false := by kernel_rfl
attribute [simp] Try.func29
@[simp] theorem ng30 : nogo Try.f30 = false := by kernel_rfl
attribute [simp] Try.func30
@[simp] theorem ng31 : nogo Try.f31 = false := by kernel_rfl
attribute [simp] Try.func31
@[simp] theorem ng32 : nogo Try.f32 = false := by kernel_rfl
attribute [simp] Try.func32
@[simp] theorem ng33 : nogo Try.f33 = false := by kernel_rfl
attribute [simp] Try.func33
@[simp] theorem ng34 : nogo Try.f34 = false := by kernel_rfl
attribute [simp] Try.func34
@[simp] theorem ng35 : nogo Try.f35 = false := by kernel_rfl
attribute [simp] Try.func35
@[simp] theorem ng36 : nogo Try.f36 = false := by kernel_rfl
attribute [simp] Try.func36
@[simp] theorem ng37 : nogo Try.f37 = false := by kernel_rfl
attribute [simp] Try.func37
@[simp] theorem ng38 : nogo Try.f38 = false := by kernel_rfl
attribute [simp] Try.func38
@[simp] theorem ng39 : nogo Try.f39 = false := by kernel_rfl
attribute [simp] Try.func39
@[simp] theorem ng40 : nogo Try.f40 = false := by kernel_rfl
attribute [simp] Try.func40
@[simp] theorem ng41 : nogo Try.f41 = false := by kernel_rfl
attribute [simp] Try.func41
@[simp] theorem ng42 : nogo Try.f42 = false := by kernel_rfl
attribute [simp] Try.func42
@[simp] theorem ng43 : nogo Try.f43 = false := by kernel_rfl
attribute [simp] Try.func43
@[simp] theorem ng44 : nogo Try.f44 = false := by kernel_rfl
attribute [simp] Try.func44
@[simp] theorem ng45 : nogo Try.f45 = false := by kernel_rfl
attribute [simp] Try.func45
@[simp] theorem ng46 : nogo Try.f46 = false := by kernel_rfl
attribute [simp] Try.func46
@[simp] theorem ng47 : nogo Try.f47 = false := by kernel_rfl
attribute [simp] Try.func47
end Go.Proofs.Ytangdhaihhgjkaa
/- Rows of bytes. -/
namespace Go.Proofs.Ytangdhaihhgjkaa
open Go Go.YtangdhaihhgjkaaAbs
set_option linter.unusedSimpArgs false
set_option linter.unusedVariables false

/-- A byte's cell. -/
def bb (b : UInt8) : AV := .int .u8 (b.toNat : Nat)
theorem rdl_byte {h : Heap} {cs : List AV} {xs : List UInt8} (r : RdL kByte h cs xs) : cs = xs.map bb := by
  obtain ⟨r1, r2⟩ := r
  have r1 : cs.length = xs.length * 1 := r1
  refine List.ext_getElem? fun j => ?_
  rw [List.getElem?_map]
  cases hx : xs[j]? with
  | none =>
    rw [List.getElem?_eq_none]
    · rfl
    · have := List.getElem?_eq_none_iff.1 hx
      omega
  | some x =>
    have : (cs.drop (j * 1)).take 1 = [.int .u8 (x.toNat : Nat)] := r2 j x hx
    rw [Nat.mul_one] at this
    have e := congrArg (·[0]?) this
    simp only [List.getElem?_take, List.getElem?_drop] at e
    simpa [bb] using e
theorem sla_bytes {h : Heap} {v : AV} {xs : List UInt8} (r : SlA kByte h v xs) : Sl 1 xs.length h v (xs.map bb) := by
  obtain ⟨c, c1, c2⟩ := r.sl
  rw [rdl_byte c2] at c1
  exact c1
theorem bb_get {l : List UInt8} {j : Nat} {x : UInt8} (h : l[j]? = some x) : (l.map bb)[j]? = some (bb x) := by rw [List.getElem?_map, h]; rfl
theorem getb {α : Type} {l : List α} {j : Nat} (h : j < l.length) : ∃ x, l[j]? = some x := ⟨l[j], by simp [h]⟩
theorem bb_one (l : List UInt8) : (l.map bb).all AV.one = true := by
  rw [List.all_map, List.all_eq_true]
  intro x _
  rfl
theorem abytes_bb : ∀ l : List UInt8, abytes (l.map bb) = some l
  | [] => rfl
  | b :: l => by
    show (match abytes (l.map bb) with
      | some r => some (UInt8.ofNat ((b.toNat : Int)).toNat :: r)
      | none => none) = _
    rw [abytes_bb l, Int.toNat_natCast, UInt8.ofNat_toNat]
/-- Bytes as a text. -/
theorem aconv_bs {P : Program} {h : Heap} {src dst e : TypeId} {n : Nat} {v : AV} {l : List UInt8} (r : Sl 1 n h v (l.map bb))
    (hs : P.underlying src = some (.slice e)) (hd : P.underlying dst = some .string) (he : P.underlying e = some (.int .u8)) : aconv P h src dst v = some (.str ⟨⟨l⟩⟩, h) := by
  have hl := r.length
  unfold aconv
  rw [hs, hd]
  rcases r with ⟨rfl, r2, rfl⟩ | ⟨rfl, r2, rfl⟩ | ⟨b, i, cap, ex, c, ro, rfl, r2, r3, r4, r5, r6, r7⟩
  · have : l = [] := by simpa using r2
    subst this
    simp only [he]
    rfl
  · have : l = [] := by simpa using r2
    subst this
    simp only [he]
    rfl
  · simp only [he]
    unfold Heap.row
    rw [r3]
    simp only
    rw [if_pos (by omega)]
    have r6' : (c.drop i).take n = l.map bb := by rw [← r6, Nat.mul_one]
    rw [r6', abytes_bb]
/-- A new slice of one byte. -/
theorem sl_new1 (h : Heap) (b : UInt8) (ex : Bool) : Sl 1 1 (h.new (.cells [.int .u8 (b.toNat : Nat)] false)) (.sl h.next 0 1 1 1 ex) ([b].map bb) :=
  .inr (.inr ⟨h.next, 0, 1, ex, [.int .u8 (b.toNat : Nat)], false, rfl, Nat.lt_succ_self _, get_new_self _ _, rfl, by simp, rfl, Nat.le_refl _⟩)
end Go.Proofs.Ytangdhaihhgjkaa
/- Rows of numbers and of texts, as arguments have them. -/
namespace Go.Proofs.Ytangdhaihhgjkaa
open Go Go.YtangdhaihhgjkaaAbs
set_option linter.unusedSimpArgs false
set_option linter.unusedVariables false

theorem rdl_map {α : Type} {K : Kind α} {f : α → AV} (hs : K.sz = 1) (hf : ∀ h cs x, K.rd h cs x → cs = [f x]) {h : Heap} {cs : List AV} {xs : List α} (r : RdL K h cs xs) : cs = xs.map f := by
  obtain ⟨r1, r2⟩ := r
  rw [hs, Nat.mul_one] at r1
  refine List.ext_getElem? fun j => ?_
  rw [List.getElem?_map]
  cases hx : xs[j]? with
  | none =>
    rw [List.getElem?_eq_none]
    · rfl
    · have := List.getElem?_eq_none_iff.1 hx
      omega
  | some x =>
    have := hf _ _ _ (r2 j x hx)
    rw [hs, Nat.mul_one] at this
    have e := congrArg (·[0]?) this
    simp only [List.getElem?_take, List.getElem?_drop] at e
    simpa using e
theorem sla_map {α : Type} {K : Kind α} {f : α → AV} (hs : K.sz = 1) (hf : ∀ h cs x, K.rd h cs x → cs = [f x]) {h : Heap} {v : AV} {xs : List α} (r : SlA K h v xs) : Sl 1 xs.length h v (xs.map f) ∧ ∀ x ∈ xs, ∃ h cs, K.rd h cs x := by
  obtain ⟨c, c1, c2⟩ := r.sl
  refine ⟨?_, fun x hx => ?_⟩
  · rw [rdl_map hs hf c2] at c1
    rw [hs] at c1
    exact c1
  · obtain ⟨j, hj⟩ := List.getElem?_of_mem hx
    exact ⟨_, _, c2.2 j x hj⟩
/-- Numbers. -/
def ii (n : Int) : AV := .int .i64 n
theorem sla_ints {h : Heap} {v : AV} {xs : List Int} (r : SlA (kInt .i64) h v xs) : Sl 1 xs.length h v (xs.map ii) ∧ ∀ x ∈ xs, -9223372036854775808 ≤ x ∧ x ≤ 9223372036854775807 := by
  obtain ⟨r1, r2⟩ := sla_map (K := kInt .i64) (f := ii) rfl (fun _ _ _ q => q.1) r
  exact ⟨r1, fun x hx => by obtain ⟨_, _, q⟩ := r2 x hx; exact wf64 q.2⟩
theorem ii_get {l : List Int} {j : Nat} {x : Int} (h : l[j]? = some x) : (l.map ii)[j]? = some (ii x) := by rw [List.getElem?_map, h]; rfl
theorem ii_one (l : List Int) : (l.map ii).all AV.one = true := by
  rw [List.all_map, List.all_eq_true]
  intro x _
  rfl
/-- Texts. -/
def ss (s : ByteArray) : AV := .str s
theorem sla_strs {h : Heap} {v : AV} {xs : List ByteArray} (r : SlA kStr h v xs) : Sl 1 xs.length h v (xs.map ss) ∧ ∀ x ∈ xs, x.size ≤ maxLen := by
  obtain ⟨r1, r2⟩ := sla_map (K := kStr) (f := ss) rfl (fun _ _ _ q => q.1) r
  exact ⟨r1, fun x hx => by obtain ⟨_, _, q⟩ := r2 x hx; exact q.2⟩
theorem ss_get {l : List ByteArray} {j : Nat} {x : ByteArray} (h : l[j]? = some x) : (l.map ss)[j]? = some (ss x) := by rw [List.getElem?_map, h]; rfl
theorem ss_one (l : List ByteArray) : (l.map ss).all AV.one = true := by
  rw [List.all_map, List.all_eq_true]
  intro x _
  rfl
end Go.Proofs.Ytangdhaihhgjkaa
/- fill: a list of numbers, one of them is taken out. -/
namespace Go.Proofs.Ytangdhaihhgjkaa
open Go Go.YtangdhaihhgjkaaAbs
set_option linter.unusedSimpArgs false
set_option linter.unusedVariables false
set_option maxRecDepth 4000

@[simp] theorem aop_clear1 {P : Program} {call : CallO} {t : Tr AV} {h : Heap} {d : Option Tmp} {ty : TypeId} {pos : String} {af : Array Edge} {g : Option (Nat × Bool)} (x : Operand) (ty1 : TypeId) : aop P call t h ⟨d, .call ⟨.builtin .clear, List.toArray [x], List.toArray [ty1]⟩, ty, pos, af, g⟩ = match P.underlying ty1 with
    | some (.slice e) => match ev t x with
      | .nils => some (.tup [], h)
      | .emp => some (.tup [], h)
      | .sl b i len _ _ _ => if len = 0 then some (.tup [], h) else match azero P e with
        | some z => if z.all AV.one then match alay h b i (List.replicate len z).flatten with
          | some h' => some (.tup [], h')
          | none => none else none
        | none => none
      | _ => none
    | _ => none := by
  show (match some x, P.underlying ty1 with
      | some x, some (.slice e) => match ev t x with
        | .nils => some (.tup [], h)
        | .emp => some (.tup [], h)
        | .sl b i len _ _ _ => if len = 0 then some (.tup [], h) else match azero P e with
          | some z => if z.all AV.one then match alay h b i (List.replicate len z).flatten with
            | some h' => some (.tup [], h')
            | none => none else none
          | none => none
        | _ => none
      | _, _ => none : Option (AV × Heap)) = _
  cases P.underlying ty1 with
  | none => rfl
  | some u => cases u <;> rfl
theorem ended1_ok (k : Nat) (h : Heap) (x id : Int) (cb : Nat) (g : h.get cb = some (.cells [.int .i64 id] false)) : acall Try.prog (k + 1) 23 [.int .i64 x, .ptr cb 0] h = some (.bool (decide (x = id)), h) := by
  rw [acall_text [] Try.func23 (by kernel_rfl)]
  refine afuncT_of rfl (by simp [Try.f23]) ?_
  have ld : aload Try.prog h 3 cb 0 = some (.int .i64 id) := ldc g ta3 rfl
  by_cases q : x = id
  · subst q
    simp [Try.f23, ld]
  · simp [Try.f23, ld, q]
theorem index_ok (k : Nat) (h : Heap) (v : AV) (l : List Int) (S : Sl 1 l.length h v (l.map ii)) (id : Int) (cb : Nat) (g : h.get cb = some (.cells [.int .i64 id] false)) (hl : l.length + 10 < k) (hm : l.length < 100000) :
    ∃ w h', acall Try.prog (k + 2) 37 [v, .fn 23 [.ptr cb 0]] h = some (w, h') ∧ h' = h ∧ ((w = .int .i64 (-1) ∧ ∀ j : Nat, l[j]? ≠ some id) ∨ ∃ j : Nat, w = .int .i64 (j : Nat) ∧ l[j]? = some id ∧ ∀ i : Nat, i < j → l[i]? ≠ some id) := by
  rw [acall_text [] Try.func37 (by kernel_rfl)]
  refine afuncT_ex rfl (by simp [Try.f37]) ?_
  have ll := S.len'
  simp [Try.f37, ll]
  refine W_loop (fun mm st => ∃ i : Nat, mm = l.length - i ∧ i ≤ l.length ∧ (∀ j, j < i → l[j]? ≠ some id) ∧ st.t.get 0 = some v ∧ st.t.get 1 = some (.fn 23 [.ptr cb 0]) ∧ st.t.get 7 = some (.int .i64 (l.length : Nat)) ∧ st.t.get 8 = some (.int .i64 (i : Nat)) ∧ st.h = h) l.length (by omega)
    ⟨0, by omega, by omega, (fun j hj => absurd hj (Nat.not_lt_zero _)), by simp, by simp, by simp, by simp, by simp⟩ ?_
  rintro mm ⟨t, h1⟩ ⟨i, rfl, hi, hno, q0, q1, q7, q8, e⟩
  simp only at q0 q1 q7 q8 e
  subst e
  by_cases hlt : i < l.length
  · obtain ⟨x, hx⟩ : ∃ x, l[i]? = some x := ⟨l[i], by simp⟩
    have ix := S.idx1 (P := Try.prog) Try.underlying35 ts3 (j := i) hlt .i64
    have ld : aload Try.prog h1 3 v.blk (v.off + i) = some (.int .i64 x) := S.ld ta3 (ii_get hx)
    have E := ended1_ok k h1 x id cb g
    by_cases q : x = id
    · subst q
      simp at E
      simp [q0, q1, q7, q8, isLt (show (i : Int) < (l.length : Int) by omega), ix, ld, E]
      exact ⟨i, rfl, hx, hno⟩
    · simp [q] at E
      simp [q0, q1, q7, q8, isLt (show (i : Int) < (l.length : Int) by omega), ix, ld, E, i64w ((i : Int) + 1) (by omega) (by omega)]
      refine ⟨l.length - (i + 1), by omega, i + 1, rfl, by omega, fun j hj => ?_, by simp⟩
      by_cases hji : j = i
      · rw [hji, hx]; exact fun z => q (Option.some.inj z)
      · exact hno j (by omega)
  · simp [q0, q1, q7, q8, isLe (show (l.length : Int) ≤ (i : Int) by omega)]
    intro j
    by_cases hj : j < i
    · exact hno j hj
    · rw [List.getElem?_eq_none (by omega)]; simp
theorem filter_take {l : List Int} {id x : Int} {j : Nat} (h : l[j]? = some x) : (l.take (j + 1)).filter (fun y => decide (y ≠ id)) = (l.take j).filter (fun y => decide (y ≠ id)) ++ (if x = id then [] else [x]) := by
  have : l.take j ++ [x] = l.take (j + 1) := by rw [List.take_add_one, h]; rfl
  rw [← this, List.filter_append]
  congr 1
  by_cases q : x = id <;> simp [q]
set_option maxHeartbeats 1000000 in
theorem delete_ok (k : Nat) (h : Heap) (v : AV) (l : List Int) (M : Mine 1 l.length h v (l.map ii)) (id : Int) (cb : Nat) (g : h.get cb = some (.cells [.int .i64 id] false)) (hc : ¬ Has v cb) (hcl : cb < h.next) (hl : l.length + 10 < k) (hm : l.length < 100000) :
    ∃ v' h', acall Try.prog (k + 3) 22 [v, .fn 23 [.ptr cb 0]] h = some (v', h') ∧ ∃ L, L = l.filter (fun y => decide (y ≠ id)) ∧ Mine 1 L.length h' v' (L.map ii) ∧ (∀ d, Has v' d → Has v d) ∧ Keep h.next (Has v) h h' := by
  rw [acall_text [] Try.func22 (by kernel_rfl)]
  refine afuncT_ex rfl (by simp [Try.f22]) ?_
  obtain ⟨w, h0, E1, e0, hw⟩ := index_ok (k) h v l M.sl id cb g hl hm
  rw [e0] at E1
  clear e0 h0
  have ll := M.sl.len'
  rcases hw with ⟨rfl, hno⟩ | ⟨j0, rfl, hj0, hno⟩
  · have e : l.filter (fun y => decide (y ≠ id)) = l := by
      rw [List.filter_eq_self]
      intro y hy
      obtain ⟨j, hj⟩ := List.getElem?_of_mem hy
      exact decide_eq_true fun q => hno j (by rw [hj, q])
    simp [Try.f22, E1]
    refine ⟨?_, Keep.refl _ _ _⟩
    have e2 : (l.filter fun y => !decide (y = id)) = l := by simpa using e
    rw [e2]
    exact M
  have hjl := (List.getElem?_eq_some_iff.1 hj0).1
  have hj1 : ¬ (j0 : Int) = -1 := by omega
  simp [Try.f22, E1, hj1, i64w ((j0 : Int) + 1) (by omega) (by omega)]
  have st0 : (l.take (j0 + 1)).filter (fun y => decide (y ≠ id)) = l.take j0 := by
    rw [filter_take hj0, if_pos rfl, List.append_nil, List.filter_eq_self]
    intro y hy
    obtain ⟨i, hi⟩ := List.getElem?_of_mem hy
    have hij : i < j0 := by have := (List.getElem?_eq_some_iff.1 hi).1; rw [List.length_take] at this; omega
    rw [List.getElem?_take, if_pos hij] at hi
    exact decide_eq_true fun q => hno i hij (by rw [hi, q])
  refine W_cutLoop 0 (fun st => ∃ (i : Nat) (X : List Int), st.t.get 0 = some v ∧ st.t.get 5 = some (.int .i64 (i : Nat)) ∧ X.length = l.length ∧ i < l.length ∧ X.take i = l.filter (fun y => decide (y ≠ id)) ∧ Mine 1 X.length st.h v (X.map ii) ∧ Keep h.next (Has v) h st.h) ?_ ?_
  · refine W_loop (fun mm st => ∃ (j i : Nat) (X : List Int), mm = l.length - j ∧ j ≤ l.length ∧ st.t.get 0 = some v ∧ st.t.get 1 = some (.fn 23 [.ptr cb 0]) ∧ st.t.get 5 = some (.int .i64 (i : Nat)) ∧ st.t.get 6 = some (.int .i64 (j : Nat)) ∧ X.length = l.length ∧ i < j ∧ X.take i = (l.take j).filter (fun y => decide (y ≠ id)) ∧ (∀ p, j ≤ p → X[p]? = l[p]?) ∧ Mine 1 X.length st.h v (X.map ii) ∧ Keep h.next (Has v) h st.h) (l.length - (j0 + 1)) (by omega)
      ⟨j0 + 1, j0, l, by omega, by omega, by simp, by simp, by simp, by simp, rfl, by omega, st0.symm, fun _ _ => rfl, M, Keep.refl _ _ _⟩ ?_
    rintro mm ⟨t, h1⟩ ⟨j, i, X, rfl, hj, q0, q1, q5, q6, hX, hij, hXi, hXp, M1, K1⟩
    simp only at q0 q1 q5 q6 M1 K1
    have l1 := M1.sl.len'
    rw [hX] at l1
    by_cases hlt : j < l.length
    · obtain ⟨x, hx⟩ : ∃ x, l[j]? = some x := ⟨l[j], by simp⟩
      have hXj : X[j]? = some x := by rw [hXp j (Nat.le_refl _), hx]
      have ix := M1.sl.idx1 (P := Try.prog) Try.underlying35 ts3 (j := j) (by omega) .i64
      have ld : aload Try.prog h1 3 v.blk (v.off + j) = some (.int .i64 x) := M1.sl.ld ta3 (ii_get hXj)
      have E := ended1_ok (k + 1) h1 x id cb (by rw [K1.2 cb hcl hc]; exact g)
      have ft := filter_take (id := id) hx
      by_cases q : x = id
      · subst q
        simp at E
        rw [if_pos rfl, List.append_nil] at ft
        simp [q0, q1, q5, q6, l1, isLt (show (j : Int) < (l.length : Int) by omega), ix, ld, E, i64w ((j : Int) + 1) (by omega) (by omega)]
        exact ⟨l.length - (j + 1), by omega, j + 1, rfl, by omega, i, rfl, by simp, X, hX, by omega, by simpa using hXi.trans ft.symm, fun p hp => hXp p (by omega), M1, K1⟩
      · simp [q] at E
        rw [if_neg q] at ft
        have ixi := M1.sl.idx1 (P := Try.prog) Try.underlying35 ts3 (j := i) (by omega) .i64
        obtain ⟨h2, a2, M2, K2, _⟩ := M1.lay1 (j := i) (x := ii x) (by omega) rfl
        rw [← List.map_set] at M2
        have a2 : alay h1 v.blk (v.off + i) [.int .i64 x] = some h2 := a2
        simp [q0, q1, q5, q6, l1, isLt (show (j : Int) < (l.length : Int) by omega), ix, ld, E, ixi, a2, i64w ((j : Int) + 1) (by omega) (by omega), i64w ((i : Int) + 1) (by omega) (by omega)]
        refine ⟨l.length - (j + 1), by omega, j + 1, rfl, by omega, i + 1, by simp, by simp, X.set i x, by simpa using hX, by omega, ?_, fun p hp => ?_, by rw [List.length_set]; exact M2, K1.trans (K2.weak K1.1 fun _ _ q => q)⟩
        · have e1 : (X.set i x).take (i + 1) = X.take i ++ [x] := by
            rw [List.take_add_one, List.getElem?_set_self (by omega), List.take_set_of_le (Nat.le_refl _)]; rfl
          rw [e1, hXi]
          simpa using ft.symm
        · rw [List.getElem?_set_ne (by omega)]; exact hXp p (by omega)
    · have e : j = l.length := by omega
      subst e
      rw [List.take_length] at hXi
      simp [q0, q1, q5, q6, l1]
      exact ⟨i, rfl, X, hX, hij, by simpa using hXi, M1, K1⟩
  rintro ⟨t, h1⟩ ⟨i, X, q0, q5, hX, hil, hXi, M1, K1⟩
  simp only at q0 q5 M1 K1
  obtain ⟨T, hT⟩ : ∃ T, X.length - i = T := ⟨_, rfl⟩
  obtain ⟨h2, a2, M2, K2, _⟩ := M1.lay (j := i) (vs := List.replicate T (.int .i64 0)) (by simp; omega) (by omega) (by simp)
  have s1 : ∃ cp ex, aslice Try.prog 35 v (some (.int .i64 (i : Nat))) none none = some (.sl v.blk (v.off + i) T cp 1 ex) := by
    rcases M1.sl with ⟨_, _, e⟩ | ⟨_, _, e⟩ | ⟨b, o, cap, ex, c, ro, rfl, _, _, _, _, _, hcap⟩
    · omega
    · omega
    · by_cases hi0 : i = 0
      · subst hi0
        exact ⟨cap, ex, by simp [aslice, Try.underlying35, asub, abnds, abound]; omega⟩
      · have h1 : (i : Int) ≤ (X.length : Int) := by omega
        have h2 : i < cap := by omega
        exact ⟨cap - i, ex, by simp [aslice, Try.underlying35, asub, abnds, abound, h1, h2, hi0]; omega⟩
  obtain ⟨cp, ex, s1⟩ := s1
  obtain ⟨v', s2, M3, e3⟩ := M2.to (P := Try.prog) (ty := 35) Try.underlying35 ts3 (k := .i64) (j := i) (by omega)
  have hz : ¬ T = 0 := by omega
  obtain ⟨Z, hZ⟩ : ∃ Z, List.replicate T (AV.int .i64 0) = Z := ⟨_, rfl⟩
  rw [hZ] at a2 M3
  have eL : (X.map ii).take i = (l.filter fun y => decide (y ≠ id)).map ii := by rw [← List.map_take, hXi]
  have lt : (l.filter fun y => decide (y ≠ id)).length = i := by rw [← hXi, List.length_take]; omega
  have M4 : Mine 1 (l.filter fun y => decide (y ≠ id)).length h2 v' ((l.filter fun y => decide (y ≠ id)).map ii) := by
    rw [lt, ← eL]
    have e5 : (((X.map ii).take i ++ Z) ++ (X.map ii).drop (i + Z.length)).take (i * 1) = (X.map ii).take i := by
      rw [Nat.mul_one, List.append_assoc, List.take_left' (by rw [List.length_take, List.length_map]; omega)]
    rw [e5] at M3
    exact M3
  generalize (l.filter fun y => decide (y ≠ id)) = F at *
  simp [q0, q5, s1, hz, flat1, hZ, a2, s2]
  exact ⟨M4, fun d hd => by unfold Has at hd ⊢; rw [← e3]; exact hd, K1.trans (K2.weak K1.1 fun _ _ q => q)⟩
end Go.Proofs.Ytangdhaihhgjkaa
/- The field of 256 elements, with no program in sight: products by doubling, powers of two, logarithms. -/
namespace Go.Proofs.Ytangdhaihhgjkaa

/-- Twice. -/
def xt (x : Nat) : Nat := if x < 128 then 2 * x else (2 * x) ^^^ 285
/-- Twice, so often. -/
def itx : Nat → Nat → Nat
  | 0, a => a
  | i + 1, a => xt (itx i a)
def sel (t : Bool) (x : Nat) : Nat := if t then x else 0
def mulN (a b : Nat) : Nat → Nat
  | 0 => 0
  | n + 1 => mulN a b n ^^^ sel (b.testBit n) (itx n a)
/-- The product. -/
def mul (a b : Nat) : Nat := mulN a b 8
/-- Powers of two. -/
def pw (i : Nat) : Nat := itx i 1
def expL : List Nat := [1, 2, 4, 8, 16, 32, 64, 128, 29, 58, 116, 232, 205, 135, 19, 38, 76, 152, 45, 90, 180, 117, 234, 201, 143, 3, 6, 12, 24, 48, 96, 192, 157, 39, 78, 156, 37, 74, 148, 53, 106, 212, 181, 119, 238, 193, 159, 35, 70, 140, 5, 10, 20, 40, 80, 160, 93, 186, 105, 210, 185, 111, 222, 161, 95, 190, 97, 194, 153, 47, 94, 188, 101, 202, 137, 15, 30, 60, 120, 240, 253, 231, 211, 187, 107, 214, 177, 127, 254, 225, 223, 163, 91, 182, 113, 226, 217, 175, 67, 134, 17, 34, 68, 136, 13, 26, 52, 104, 208, 189, 103, 206, 129, 31, 62, 124, 248, 237, 199, 147, 59, 118, 236, 197, 151, 51, 102, 204, 133, 23, 46, 92, 184, 109, 218, 169, 79, 158, 33, 66, 132, 21, 42, 84, 168, 77, 154, 41, 82, 164, 85, 170, 73, 146, 57, 114, 228, 213, 183, 115, 230, 209, 191, 99, 198, 145, 63, 126, 252, 229, 215, 179, 123, 246, 241, 255, 227, 219, 171, 75, 150, 49, 98, 196, 149, 55, 110, 220, 165, 87, 174, 65, 130, 25, 50, 100, 200, 141, 7, 14, 28, 56, 112, 224, 221, 167, 83, 166, 81, 162, 89, 178, 121, 242, 249, 239, 195, 155, 43, 86, 172, 69, 138, 9, 18, 36, 72, 144, 61, 122, 244, 245, 247, 243, 251, 235, 203, 139, 11, 22, 44, 88, 176, 125, 250, 233, 207, 131, 27, 54, 108, 216, 173, 71, 142, 1, 2, 4, 8, 16, 32, 64, 128, 29, 58, 116, 232, 205, 135, 19, 38, 76, 152, 45, 90, 180, 117, 234, 201, 143, 3, 6, 12, 24, 48, 96, 192, 157, 39, 78, 156, 37, 74, 148, 53, 106, 212, 181, 119, 238, 193, 159, 35, 70, 140, 5, 10, 20, 40, 80, 160, 93, 186, 105, 210, 185, 111, 222, 161, 95, 190, 97, 194, 153, 47, 94, 188, 101, 202, 137, 15, 30, 60, 120, 240, 253, 231, 211, 187, 107, 214, 177, 127, 254, 225, 223, 163, 91, 182, 113, 226, 217, 175, 67, 134, 17, 34, 68, 136, 13, 26, 52, 104, 208, 189, 103, 206, 129, 31, 62, 124, 248, 237, 199, 147, 59, 118, 236, 197, 151, 51, 102, 204, 133, 23, 46, 92, 184, 109, 218, 169, 79, 158, 33, 66, 132, 21, 42, 84, 168, 77, 154, 41, 82, 164, 85, 170, 73, 146, 57, 114, 228, 213, 183, 115, 230, 209, 191, 99, 198, 145, 63, 126, 252, 229, 215, 179, 123, 246, 241, 255, 227, 219, 171, 75, 150, 49, 98, 196, 149, 55, 110, 220, 165, 87, 174, 65, 130, 25, 50, 100, 200, 141, 7, 14, 28, 56, 112, 224, 221, 167, 83, 166, 81, 162, 89, 178, 121, 242, 249, 239, 195, 155, 43, 86, 172, 69, 138, 9, 18, 36, 72, 144, 61, 122, 244, 245, 247, 243, 251, 235, 203, 139, 11, 22, 44, 88, 176, 125, 250, 233, 207, 131, 27, 54, 108, 216, 173, 71, 142]
def logL : List Nat := [0, 0, 1, 25, 2, 50, 26, 198, 3, 223, 51, 238, 27, 104, 199, 75, 4, 100, 224, 14, 52, 141, 239, 129, 28, 193, 105, 248, 200, 8, 76, 113, 5, 138, 101, 47, 225, 36, 15, 33, 53, 147, 142, 218, 240, 18, 130, 69, 29, 181, 194, 125, 106, 39, 249, 185, 201, 154, 9, 120, 77, 228, 114, 166, 6, 191, 139, 98, 102, 221, 48, 253, 226, 152, 37, 179, 16, 145, 34, 136, 54, 208, 148, 206, 143, 150, 219, 189, 241, 210, 19, 92, 131, 56, 70, 64, 30, 66, 182, 163, 195, 72, 126, 110, 107, 58, 40, 84, 250, 133, 186, 61, 202, 94, 155, 159, 10, 21, 121, 43, 78, 212, 229, 172, 115, 243, 167, 87, 7, 112, 192, 247, 140, 128, 99, 13, 103, 74, 222, 237, 49, 197, 254, 24, 227, 165, 153, 119, 38, 184, 180, 124, 17, 68, 146, 217, 35, 32, 137, 46, 55, 63, 209, 91, 149, 188, 207, 205, 144, 135, 151, 178, 220, 252, 190, 97, 242, 86, 211, 171, 20, 42, 93, 158, 132, 60, 57, 83, 71, 109, 65, 162, 31, 45, 67, 216, 183, 123, 164, 118, 196, 23, 73, 236, 127, 12, 111, 246, 108, 161, 59, 82, 41, 157, 85, 170, 251, 96, 134, 177, 187, 204, 62, 90, 203, 89, 95, 176, 156, 169, 160, 81, 11, 245, 22, 235, 122, 117, 44, 215, 79, 174, 213, 233, 230, 231, 173, 232, 116, 214, 244, 234, 168, 80, 88, 175]
def lg (a : Nat) : Nat := logL.getD a 0

theorem xor_lt {x y : Nat} (hx : x < 256) (hy : y < 256) : x ^^^ y < 256 := Nat.xor_lt_two_pow (n := 8) hx hy
theorem xt_sel : ∀ x, x < 256 → xt x = (x <<< 1) ^^^ sel (x.testBit 7) 285 := by decide +kernel
theorem xt_lt : ∀ x, x < 256 → xt x < 256 := by decide +kernel
theorem sel_xor (t u : Bool) (x : Nat) : sel (t ^^ u) x = sel t x ^^^ sel u x := by cases t <;> cases u <;> simp [sel]
theorem sel_xor' (t : Bool) (x y : Nat) : sel t (x ^^^ y) = sel t x ^^^ sel t y := by cases t <;> simp [sel]
theorem xor4 (a b c d : Nat) : (a ^^^ b) ^^^ (c ^^^ d) = (a ^^^ c) ^^^ (b ^^^ d) := by
  rw [Nat.xor_assoc, Nat.xor_assoc, ← Nat.xor_assoc b, Nat.xor_comm b c, Nat.xor_assoc c]
theorem xt_xor {x y : Nat} (hx : x < 256) (hy : y < 256) : xt (x ^^^ y) = xt x ^^^ xt y := by
  rw [xt_sel _ (xor_lt hx hy), xt_sel _ hx, xt_sel _ hy, Nat.shiftLeft_xor_distrib, Nat.testBit_xor, sel_xor]
  exact xor4 _ _ _ _
theorem itx_lt {x : Nat} (hx : x < 256) : ∀ i, itx i x < 256
  | 0 => hx
  | i + 1 => xt_lt _ (itx_lt hx i)
theorem itx_xor {x y : Nat} (hx : x < 256) (hy : y < 256) : ∀ i, itx i (x ^^^ y) = itx i x ^^^ itx i y
  | 0 => rfl
  | i + 1 => by
    show xt (itx i (x ^^^ y)) = _
    rw [itx_xor hx hy i, xt_xor (itx_lt hx i) (itx_lt hy i)]
    rfl
theorem itx_add (i j a : Nat) : itx i (itx j a) = itx (i + j) a := by
  induction i with
  | zero => rw [Nat.zero_add]; rfl
  | succ i ih =>
    rw [Nat.add_right_comm]
    show xt (itx i (itx j a)) = xt (itx (i + j) a)
    rw [ih]
theorem sel_lt {t : Bool} {x : Nat} (hx : x < 256) : sel t x < 256 := by cases t <;> simp [sel]; exact hx
theorem mulN_lt {a : Nat} (ha : a < 256) (b : Nat) : ∀ n, mulN a b n < 256
  | 0 => Nat.zero_lt_succ _
  | n + 1 => xor_lt (mulN_lt ha b n) (sel_lt (itx_lt ha n))
theorem mul_lt {a : Nat} (ha : a < 256) (b : Nat) : mul a b < 256 := mulN_lt ha b 8
theorem mulN_xor (a b c : Nat) : ∀ n, mulN a (b ^^^ c) n = mulN a b n ^^^ mulN a c n
  | 0 => by simp [mulN]
  | n + 1 => by
    simp only [mulN]
    rw [mulN_xor a b c n, Nat.testBit_xor, sel_xor]
    exact xor4 _ _ _ _
/-- Products go over sums. -/
theorem mul_xor (a b c : Nat) : mul a (b ^^^ c) = mul a b ^^^ mul a c := mulN_xor a b c 8
theorem mulN_zero (b : Nat) : ∀ n, mulN 0 b n = 0
  | 0 => rfl
  | n + 1 => by
    simp only [mulN]
    rw [mulN_zero b n]
    have : itx n 0 = 0 := by
      induction n with
      | zero => rfl
      | succ n ih => show xt (itx n 0) = 0; rw [ih]; rfl
    rw [this]
    cases b.testBit n <;> rfl
theorem zero_mul (b : Nat) : mul 0 b = 0 := mulN_zero b 8
theorem mul_zero (a : Nat) : mul a 0 = 0 := by simp [mul, mulN, sel]
theorem mul_one (a : Nat) : mul a 1 = a := by
  have h0 : Nat.testBit 1 0 = true := by decide
  have h1 : Nat.testBit 1 1 = false := by decide
  have h2 : Nat.testBit 1 2 = false := by decide
  have h3 : Nat.testBit 1 3 = false := by decide
  have h4 : Nat.testBit 1 4 = false := by decide
  have h5 : Nat.testBit 1 5 = false := by decide
  have h6 : Nat.testBit 1 6 = false := by decide
  have h7 : Nat.testBit 1 7 = false := by decide
  simp only [mul, mulN, h0, h1, h2, h3, h4, h5, h6, h7, sel, itx]
  simp

/-- What goes over sums is known by what it does to single bits. -/
theorem ext_bits {f g : Nat → Nat} (hf : ∀ x y, x < 256 → y < 256 → f (x ^^^ y) = f x ^^^ f y) (hg : ∀ x y, x < 256 → y < 256 → g (x ^^^ y) = g x ^^^ g y) (h : ∀ i, i < 8 → f (2 ^ i) = g (2 ^ i)) : ∀ b, b < 256 → f b = g b := by
  have h0 : f 0 = g 0 := by
    have a := hf 0 0 (by decide) (by decide)
    have b := hg 0 0 (by decide) (by decide)
    rw [Nat.xor_self, Nat.xor_self] at a b
    rw [a, b]
  have key : ∀ n, n ≤ 8 → ∀ b, b < 2 ^ n → f b = g b := by
    intro n
    induction n with
    | zero =>
      intro _ b hb
      have : b = 0 := by simpa using hb
      subst this
      exact h0
    | succ n ih =>
      intro hn b hb
      have hp : 2 ^ n ≤ 128 := by
        have := Nat.pow_le_pow_right (n := 2) (by decide) (show n ≤ 7 by omega)
        simpa using this
      rcases Nat.lt_or_ge b (2 ^ n) with q | q
      · exact ih (by omega) b q
      · have hb' : b - 2 ^ n < 2 ^ n := by rw [Nat.pow_succ] at hb; omega
        have e : b = (b - 2 ^ n) ^^^ 2 ^ n := by
          apply Nat.eq_of_testBit_eq
          intro i
          have eb : b = 2 ^ n + (b - 2 ^ n) := by omega
          rw [Nat.testBit_xor, Nat.testBit_two_pow]
          conv => lhs; rw [eb]
          rcases Nat.lt_trichotomy i n with c | c | c
          · rw [Nat.testBit_two_pow_add_gt c]
            simp [show ¬ n = i by omega]
          · subst c
            rw [Nat.testBit_two_pow_add_eq]
            simp
          · have l1 : (2 ^ n + (b - 2 ^ n)).testBit i = false := Nat.testBit_lt_two_pow (by
              have := Nat.pow_le_pow_right (n := 2) (by decide) (show n + 1 ≤ i by omega)
              omega)
            have l2 : (b - 2 ^ n).testBit i = false := Nat.testBit_lt_two_pow (by
              have := Nat.pow_le_pow_right (n := 2) (by decide) (show n ≤ i by omega)
              omega)
            rw [l1, l2]
            simp [show ¬ n = i by omega]
        rw [e, hf _ _ (by omega) (by omega), hg _ _ (by omega) (by omega), ih (by omega) _ hb', h n (by omega)]
  exact key 8 (Nat.le_refl _)

theorem mul_xt_bits : ∀ a, a < 256 → ∀ i, i < 8 → mul a (xt (2 ^ i)) = xt (mul a (2 ^ i)) := by decide +kernel
theorem mul_xt {a b : Nat} (ha : a < 256) (hb : b < 256) : mul a (xt b) = xt (mul a b) := by
  refine ext_bits (f := fun b => mul a (xt b)) (g := fun b => xt (mul a b)) (fun x y hx hy => ?_) (fun x y hx hy => ?_) (mul_xt_bits a ha) b hb
  · show mul a (xt (x ^^^ y)) = _
    rw [xt_xor hx hy, mul_xor]
  · show xt (mul a (x ^^^ y)) = _
    rw [mul_xor, xt_xor (mul_lt ha _) (mul_lt ha _)]
theorem pw_lt (i : Nat) : pw i < 256 := itx_lt (by decide) i
theorem mul_pw {a : Nat} (ha : a < 256) : ∀ j, mul a (pw j) = itx j a
  | 0 => mul_one a
  | j + 1 => by
    show mul a (xt (pw j)) = xt (itx j a)
    rw [mul_xt ha (pw_lt j), mul_pw ha j]
theorem pw_mul (i j : Nat) : mul (pw i) (pw j) = pw (i + j) := by
  rw [mul_pw (pw_lt i)]
  unfold pw
  rw [itx_add, Nat.add_comm]
theorem pw_lg : ∀ a, a < 256 → a ≠ 0 → pw (lg a) = a := by decide +kernel
theorem lg_lt : ∀ a, a < 256 → lg a < 255 := by decide +kernel
theorem lg_pw : ∀ i, i < 255 → lg (pw i) = i := by decide +kernel
theorem expL_get : ∀ i, i < 510 → expL[i]? = some (pw i) := by decide +kernel
theorem logL_get : ∀ i, i < 256 → logL[i]? = some (lg i) := by decide +kernel
theorem pw_255 : pw 255 = 1 := by decide +kernel
theorem pw_round (i : Nat) : pw (i + 255) = pw i := by
  have := itx_add i 255 1
  unfold pw
  rw [← this]
  show itx i (pw 255) = _
  rw [pw_255]
theorem pw_mod (i : Nat) : pw (i % 255) = pw i := by
  have : ∀ q r, pw (r + 255 * q) = pw r := by
    intro q
    induction q with
    | zero => intro r; rfl
    | succ q ih => intro r; rw [Nat.mul_succ, ← Nat.add_assoc, pw_round, ih]
  conv => rhs; rw [← Nat.mod_add_div i 255]
  rw [this]
theorem pw_ne_small : ∀ i, i < 255 → pw i ≠ 0 := by decide +kernel
theorem pw_ne (i : Nat) : pw i ≠ 0 := by
  rw [← pw_mod]
  exact pw_ne_small _ (Nat.mod_lt _ (by decide))
theorem pw_inj {i j : Nat} (h : pw i = pw j) : i % 255 = j % 255 := by
  rw [← pw_mod i, ← pw_mod j] at h
  have := congrArg lg h
  rw [lg_pw _ (Nat.mod_lt _ (by decide)), lg_pw _ (Nat.mod_lt _ (by decide))] at this
  exact this
/-- An element is nought or a power of two. -/
theorem as_pw {a : Nat} (ha : a < 256) : a = 0 ∨ ∃ i, i < 255 ∧ a = pw i := by
  by_cases h : a = 0
  · exact .inl h
  · exact .inr ⟨lg a, lg_lt a ha, (pw_lg a ha h).symm⟩
theorem mul_comm {a b : Nat} (ha : a < 256) (hb : b < 256) : mul a b = mul b a := by
  rcases as_pw ha with rfl | ⟨i, _, rfl⟩
  · rw [zero_mul, mul_zero]
  · rcases as_pw hb with rfl | ⟨j, _, rfl⟩
    · rw [zero_mul, mul_zero]
    · rw [pw_mul, pw_mul, Nat.add_comm]
theorem mul_assoc {a b c : Nat} (ha : a < 256) (hb : b < 256) (hc : c < 256) : mul (mul a b) c = mul a (mul b c) := by
  rcases as_pw ha with rfl | ⟨i, _, rfl⟩
  · rw [zero_mul, zero_mul, zero_mul]
  · rcases as_pw hb with rfl | ⟨j, _, rfl⟩
    · rw [zero_mul, mul_zero, zero_mul]
    · rcases as_pw hc with rfl | ⟨l, _, rfl⟩
      · rw [mul_zero, mul_zero, mul_zero]
      · rw [pw_mul, pw_mul, pw_mul, pw_mul, Nat.add_assoc]
theorem xor_mul {a b c : Nat} (ha : a < 256) (hb : b < 256) (hc : c < 256) : mul (a ^^^ b) c = mul a c ^^^ mul b c := by
  rw [mul_comm (xor_lt ha hb) hc, mul_xor, mul_comm hc ha, mul_comm hc hb]
theorem mul_eq_zero {a b : Nat} (ha : a < 256) (hb : b < 256) : mul a b = 0 ↔ a = 0 ∨ b = 0 := by
  rcases as_pw ha with rfl | ⟨i, _, rfl⟩
  · simp [zero_mul]
  · rcases as_pw hb with rfl | ⟨j, _, rfl⟩
    · simp [mul_zero]
    · simp [pw_mul, pw_ne]
/-- The inverse; 0 of 0. -/
def inv (a : Nat) : Nat := if a = 0 then 0 else pw (255 - lg a)
theorem inv_lt (a : Nat) : inv a < 256 := by
  unfold inv
  split
  · decide
  · exact pw_lt _
theorem inv_ne {a : Nat} (h : a ≠ 0) : inv a ≠ 0 := by
  unfold inv
  rw [if_neg h]
  exact pw_ne _
theorem mul_inv {a : Nat} (ha : a < 256) (h : a ≠ 0) : mul a (inv a) = 1 := by
  unfold inv
  rw [if_neg h]
  conv => lhs; arg 1; rw [← pw_lg a ha h]
  rw [pw_mul, show lg a + (255 - lg a) = 255 by have := lg_lt a ha; omega, pw_255]
/-- Reckoned by logarithms. -/
theorem mul_log {a b : Nat} (ha : a < 256) (hb : b < 256) (h : a ≠ 0) (h' : b ≠ 0) : mul a b = pw (lg a + lg b) := by
  conv => lhs; rw [← pw_lg a ha h, ← pw_lg b hb h']
  rw [pw_mul]
/-- Powers. -/
def powN (a : Nat) : Nat → Nat
  | 0 => 1
  | n + 1 => mul (powN a n) a
theorem powN_pw (i : Nat) : ∀ n, powN (pw i) n = pw (i * n)
  | 0 => rfl
  | n + 1 => by
    show mul (powN (pw i) n) (pw i) = _
    rw [powN_pw i n, pw_mul, Nat.mul_succ]
theorem powN_lt {a : Nat} (ha : a < 256) : ∀ n, powN a n < 256
  | 0 => (by decide : 1 < 256)
  | n + 1 => by
    show mul (powN a n) a < 256
    exact mul_lt (powN_lt ha n) a
/-- Powers, as the code reckons them. -/
def powG (a : Nat) (n : Int) : Nat := if n < 0 then 0 else if n = 0 then 1 else if a = 0 then 0 else pw (lg a * (n.toNat % 255) % 255)
end Go.Proofs.Ytangdhaihhgjkaa
/- The field's laws over bytes. -/
namespace Go.Proofs.Ytangdhaihhgjkaa

def gm (a b : UInt8) : UInt8 := UInt8.ofNat (mul a.toNat b.toNat)
def gi (a : UInt8) : UInt8 := UInt8.ofNat (inv a.toNat)
theorem ofNat_toNat {n : Nat} (h : n < 256) : (UInt8.ofNat n).toNat = n := by
  rw [UInt8.toNat_ofNat']
  omega
theorem b_lt (a : UInt8) : a.toNat < 256 := by have := a.toNat_lt; omega
theorem gm_toNat (a b : UInt8) : (gm a b).toNat = mul a.toNat b.toNat := ofNat_toNat (mul_lt (b_lt a) _)
theorem gi_toNat (a : UInt8) : (gi a).toNat = inv a.toNat := ofNat_toNat (inv_lt _)
theorem b_ext {a b : UInt8} (h : a.toNat = b.toNat) : a = b := UInt8.toNat_inj.1 h
theorem b_zero {a : UInt8} : a = 0 ↔ a.toNat = 0 := ⟨fun h => by rw [h]; rfl, fun h => b_ext (by rw [h]; rfl)⟩
theorem gm_comm (a b : UInt8) : gm a b = gm b a := b_ext (by rw [gm_toNat, gm_toNat, mul_comm (b_lt a) (b_lt b)])
theorem gm_assoc (a b c : UInt8) : gm (gm a b) c = gm a (gm b c) := b_ext (by rw [gm_toNat, gm_toNat, gm_toNat, gm_toNat, mul_assoc (b_lt a) (b_lt b) (b_lt c)])
theorem gm_xor (a b c : UInt8) : gm a (b ^^^ c) = gm a b ^^^ gm a c := b_ext (by rw [gm_toNat, UInt8.toNat_xor, UInt8.toNat_xor, gm_toNat, gm_toNat, mul_xor])
theorem xor_gm (a b c : UInt8) : gm (a ^^^ b) c = gm a c ^^^ gm b c := by rw [gm_comm, gm_xor, gm_comm c a, gm_comm c b]
theorem gm_one (a : UInt8) : gm a 1 = a := b_ext (by rw [gm_toNat]; exact mul_one _)
theorem one_gm (a : UInt8) : gm 1 a = a := by rw [gm_comm, gm_one]
theorem gm_zero (a : UInt8) : gm a 0 = 0 := b_ext (by rw [gm_toNat]; exact mul_zero _)
theorem zero_gm (a : UInt8) : gm 0 a = 0 := by rw [gm_comm, gm_zero]
theorem gm_eq_zero (a b : UInt8) : gm a b = 0 ↔ a = 0 ∨ b = 0 := by rw [b_zero, gm_toNat, mul_eq_zero (b_lt a) (b_lt b), ← b_zero, ← b_zero]
theorem gm_gi {a : UInt8} (h : a ≠ 0) : gm a (gi a) = 1 := b_ext (by rw [gm_toNat, gi_toNat, mul_inv (b_lt a) (fun q => h (b_zero.2 q))]; rfl)
theorem gi_zero : gi 0 = 0 := by decide +kernel
theorem gi_ne {a : UInt8} (h : a ≠ 0) : gi a ≠ 0 := fun q => inv_ne (fun z => h (b_zero.2 z)) (by rw [← gi_toNat]; exact b_zero.1 q)
theorem gi_unique {a b : UInt8} (h : gm a b = 1) : b = gi a := by
  have ha : a ≠ 0 := fun q => by rw [q, zero_gm] at h; exact absurd h (by decide)
  have := congrArg (gm (gi a)) h
  rw [← gm_assoc, gm_comm (gi a) a, gm_gi ha, one_gm, gm_one] at this
  exact this

/-- A row's dot with another one. -/
def dot (a b : List UInt8) : UInt8 := (List.zipWith gm a b).foldl (· ^^^ ·) 0
theorem foldl_xor (l : List UInt8) (z : UInt8) : l.foldl (· ^^^ ·) z = z ^^^ l.foldl (· ^^^ ·) 0 := by
  induction l generalizing z with
  | nil => simp
  | cons x l ih =>
    rw [List.foldl_cons, List.foldl_cons, ih, ih (0 ^^^ x), UInt8.zero_xor, UInt8.xor_assoc]
theorem dot_nil (b : List UInt8) : dot [] b = 0 := rfl
theorem dot_nil' (a : List UInt8) : dot a [] = 0 := by unfold dot; rw [List.zipWith_nil_right]; rfl
theorem dot_cons (x y : UInt8) (a b : List UInt8) : dot (x :: a) (y :: b) = gm x y ^^^ dot a b := by
  unfold dot
  rw [List.zipWith_cons_cons, List.foldl_cons, foldl_xor, UInt8.zero_xor]
theorem dot_comm : ∀ a b : List UInt8, dot a b = dot b a
  | [], b => by rw [dot_nil, dot_nil']
  | x :: a, [] => by rw [dot_nil, dot_nil']
  | x :: a, y :: b => by rw [dot_cons, dot_cons, gm_comm, dot_comm a b]
theorem dot_append : ∀ (a b c d : List UInt8), a.length = b.length → dot (a ++ c) (b ++ d) = dot a b ^^^ dot c d
  | [], [], c, d, _ => by rw [List.nil_append, List.nil_append, dot_nil, UInt8.zero_xor]
  | x :: a, y :: b, c, d, h => by
    rw [List.cons_append, List.cons_append, dot_cons, dot_cons, dot_append a b c d (by simpa using h), UInt8.xor_assoc]
/-- Sums, place by place. -/
def addL (a b : List UInt8) : List UInt8 := List.zipWith (· ^^^ ·) a b
theorem xor4b (a b c d : UInt8) : (a ^^^ b) ^^^ (c ^^^ d) = (a ^^^ c) ^^^ (b ^^^ d) := by
  rw [UInt8.xor_assoc, UInt8.xor_assoc, ← UInt8.xor_assoc b, UInt8.xor_comm b c, UInt8.xor_assoc c]
theorem dot_add : ∀ (a b c : List UInt8), b.length = c.length → dot a (addL b c) = dot a b ^^^ dot a c
  | [], b, c, _ => by rw [dot_nil, dot_nil, dot_nil]; rfl
  | x :: a, [], [], _ => by rw [dot_nil', show addL ([] : List UInt8) [] = [] from rfl, dot_nil']; rfl
  | x :: a, y :: b, z :: c, h => by
    show dot (x :: a) ((y ^^^ z) :: addL b c) = _
    rw [dot_cons, dot_cons, dot_cons, gm_xor, dot_add a b c (by simpa using h), xor4b]
/-- Powers. -/
def gpow (a : UInt8) (n : Nat) : UInt8 := UInt8.ofNat (powN a.toNat n)
theorem gpow_toNat (a : UInt8) (n : Nat) : (gpow a n).toNat = powN a.toNat n := ofNat_toNat (powN_lt (b_lt a) n)
end Go.Proofs.Ytangdhaihhgjkaa
/- Rows over the field of 256: sums of rows, what they span, how many they are. -/
namespace Go.Proofs.Ytangdhaihhgjkaa
set_option linter.unusedSimpArgs false
set_option linter.unusedVariables false

abbrev Vc := List UInt8
abbrev Mt := List Vc
def smul (c : UInt8) (v : Vc) : Vc := v.map (gm c)
def zv (n : Nat) : Vc := List.replicate n 0
/-- The rows M, each so many times as u says. -/
def lc (n : Nat) : Vc → Mt → Vc
  | x :: u, r :: M => addL (smul x r) (lc n u M)
  | _, _ => zv n
def RowsN (n : Nat) (M : Mt) : Prop := ∀ r, r ∈ M → r.length = n
@[simp] theorem smul_len (c : UInt8) (v : Vc) : (smul c v).length = v.length := by simp [smul]
@[simp] theorem zv_len (n : Nat) : (zv n).length = n := by simp [zv]
theorem addL_len {a b : Vc} (h : a.length = b.length) : (addL a b).length = a.length := by simp [addL, h]
theorem addL_get (a b : Vc) (j : Nat) (h : a.length = b.length) : (addL a b)[j]?.getD 0 = a[j]?.getD 0 ^^^ b[j]?.getD 0 := by
  unfold addL
  rw [List.getElem?_zipWith]
  by_cases hj : j < a.length
  · rw [List.getElem?_eq_getElem hj, List.getElem?_eq_getElem (h ▸ hj)]; rfl
  · rw [List.getElem?_eq_none (by omega), List.getElem?_eq_none (by omega)]; rfl
theorem smul_get (c : UInt8) (v : Vc) (j : Nat) : (smul c v)[j]?.getD 0 = gm c (v[j]?.getD 0) := by
  unfold smul
  rw [List.getElem?_map]
  cases v[j]? with
  | none => simp [gm_zero]
  | some x => rfl
theorem zv_get (n j : Nat) : (zv n)[j]?.getD 0 = 0 := by
  unfold zv
  rw [List.getElem?_replicate]
  split <;> rfl
/-- Rows are the same if their entries are. -/
theorem vc_ext {a b : Vc} (h : a.length = b.length) (e : ∀ j, j < a.length → a[j]?.getD 0 = b[j]?.getD 0) : a = b := by
  refine List.ext_getElem h fun j h1 h2 => ?_
  have := e j h1
  rwa [List.getElem?_eq_getElem h1, List.getElem?_eq_getElem h2] at this
theorem lc_len {n : Nat} : ∀ {u : Vc} {M : Mt}, RowsN n M → (lc n u M).length = n
  | [], M, _ => by simp [lc]
  | x :: u, [], _ => by simp [lc]
  | x :: u, r :: M, h => by
    have hr := h r (List.mem_cons_self ..)
    have ih := lc_len (u := u) (M := M) fun s hs => h s (List.mem_cons_of_mem _ hs)
    simp only [lc]
    rw [addL_len (by rw [smul_len, hr, ih]), smul_len, hr]
theorem RowsN.tl {n : Nat} {r : Vc} {M : Mt} (h : RowsN n (r :: M)) : RowsN n M := fun s hs => h s (List.mem_cons_of_mem _ hs)
theorem RowsN.hd {n : Nat} {r : Vc} {M : Mt} (h : RowsN n (r :: M)) : r.length = n := h r (List.mem_cons_self ..)
def colM (M : Mt) (j : Nat) : Vc := M.map fun r => r[j]?.getD 0
theorem lc_get {n : Nat} (j : Nat) : ∀ {u : Vc} {M : Mt}, RowsN n M → (lc n u M)[j]?.getD 0 = dot u (colM M j)
  | [], M, _ => by simp [lc, dot_nil, zv_get]
  | x :: u, [], _ => by simp [lc, colM, dot_nil', zv_get]
  | x :: u, r :: M, h => by
    have ih := lc_get j (u := u) h.tl
    simp only [lc, colM, List.map_cons]
    rw [addL_get _ _ _ (by rw [smul_len, h.hd, lc_len h.tl]), smul_get, ih, dot_cons]
    rfl
theorem dot_smul (c : UInt8) : ∀ u w : Vc, dot (smul c u) w = gm c (dot u w)
  | [], w => by simp [smul, dot_nil, gm_zero]
  | x :: u, [] => by rw [dot_nil', dot_nil', gm_zero]
  | x :: u, y :: w => by
    have ih := dot_smul c u w
    have e : smul c (x :: u) = gm c x :: smul c u := rfl
    rw [e, dot_cons, dot_cons, ih, gm_xor, gm_assoc]
theorem dot_addL (u w a : Vc) (h : u.length = w.length) : dot (addL u w) a = dot u a ^^^ dot w a := by
  rw [dot_comm, dot_add a u w h, dot_comm a u, dot_comm a w]
theorem dot_zv : ∀ (n : Nat) (w : Vc), dot (zv n) w = 0
  | 0, w => rfl
  | n + 1, [] => dot_nil' _
  | n + 1, y :: w => by
    have : zv (n + 1) = 0 :: zv n := rfl
    rw [this, dot_cons, dot_zv n w, zero_gm]; rfl
section
variable {n : Nat} {M : Mt}
theorem lc_add (h : RowsN n M) {u w : Vc} (e : u.length = w.length) : lc n (addL u w) M = addL (lc n u M) (lc n w M) :=
  vc_ext (by rw [lc_len h, addL_len (by rw [lc_len h, lc_len h]), lc_len h]) fun j _ => by
    rw [lc_get j h, addL_get _ _ _ (by rw [lc_len h, lc_len h]), lc_get j h, lc_get j h, dot_addL _ _ _ e]
theorem lc_smul (h : RowsN n M) (c : UInt8) (u : Vc) : lc n (smul c u) M = smul c (lc n u M) :=
  vc_ext (by rw [smul_len, lc_len h, lc_len h]) fun j _ => by rw [lc_get j h, smul_get, lc_get j h, dot_smul]
theorem lc_zv (h : RowsN n M) (m : Nat) : lc n (zv m) M = zv n :=
  vc_ext (by rw [lc_len h, zv_len]) fun j _ => by rw [lc_get j h, dot_zv, zv_get]
/-- A times B. -/
def mtT (n : Nat) (A B : Mt) : Mt := A.map fun a => lc n a B
theorem mtT_rows (h : RowsN n M) (A : Mt) : RowsN n (mtT n A M) := fun r hr => by
  obtain ⟨a, _, rfl⟩ := List.mem_map.1 hr
  exact lc_len h
/-- .. may be parted. -/
theorem lc_assoc {m : Nat} (h : RowsN n M) : ∀ {u : Vc} {T : Mt}, RowsN m T → lc n (lc m u T) M = lc n u (mtT n T M)
  | [], T, _ => by simp only [lc]; exact lc_zv h m
  | x :: u, [], _ => by simp only [lc, mtT, List.map_nil]; exact lc_zv h m
  | x :: u, t :: T, hT => by
    have ih := lc_assoc h (u := u) hT.tl
    simp only [mtT, List.map_cons, lc] at ih ⊢
    rw [lc_add h (by rw [smul_len, hT.hd, lc_len hT.tl]), lc_smul h, ih]
theorem mtT_assoc {m : Nat} {A B : Mt} (h : RowsN n M) (hB : RowsN m B) : mtT n (mtT m A B) M = mtT n A (mtT n B M) := by
  unfold mtT
  rw [List.map_map]
  refine List.map_congr_left fun a _ => ?_
  exact lc_assoc h hB
end
/-- The rows of Identity. -/
def ev1 (n i : Nat) : Vc := (zv n).set i 1
def idM (n : Nat) : Mt := (List.range n).map (ev1 n)
@[simp] theorem ev1_len (n i : Nat) : (ev1 n i).length = n := by simp [ev1]
theorem ev1_get (n i j : Nat) (hj : j < n) : (ev1 n i)[j]?.getD 0 = if i = j then 1 else 0 := by
  unfold ev1
  by_cases h : i = j
  · subst h
    rw [List.getElem?_set_self (by simpa using hj), if_pos rfl]; rfl
  · rw [List.getElem?_set_ne h, zv_get, if_neg h]
theorem idM_rows (n : Nat) : RowsN n (idM n) := fun r hr => by
  obtain ⟨i, _, rfl⟩ := List.mem_map.1 hr
  simp
@[simp] theorem idM_len (n : Nat) : (idM n).length = n := by simp [idM]
theorem idM_get {n i : Nat} (h : i < n) : (idM n)[i]? = some (ev1 n i) := by simp [idM, h]
theorem dot_ev1 : ∀ (n i : Nat) (w : Vc), i < n → w.length ≤ n → dot (ev1 n i) w = w[i]?.getD 0
  | 0, i, w, h, _ => absurd h (Nat.not_lt_zero i)
  | n + 1, i, [], _, _ => by rw [dot_nil']; rfl
  | n + 1, 0, y :: w, _, _ => by
    have : ev1 (n + 1) 0 = 1 :: zv n := rfl
    rw [this, dot_cons, one_gm, dot_zv]; simp
  | n + 1, i + 1, y :: w, h, hw => by
    have e : ev1 (n + 1) (i + 1) = 0 :: ev1 n i := rfl
    rw [e, dot_cons, zero_gm, dot_ev1 n i w (by omega) (by simpa using hw)]
    simp
theorem colM_id (n j : Nat) (h : j < n) : colM (idM n) j = ev1 n j := by
  refine vc_ext (by simp [colM]) fun i hi => ?_
  have hi : i < n := by simpa [colM] using hi
  unfold colM
  rw [List.getElem?_map, idM_get hi, Option.map_some, Option.getD_some, ev1_get n i j h, ev1_get n j i hi]
  by_cases q : i = j
  · rw [if_pos q, if_pos q.symm]
  · rw [if_neg q, if_neg (Ne.symm q)]
/-- Identity changes nothing. -/
theorem lc_id {n : Nat} {u : Vc} (h : u.length = n) : lc n u (idM n) = u :=
  vc_ext (by rw [lc_len (idM_rows n), h]) fun j hj => by
    rw [lc_len (idM_rows n)] at hj
    rw [lc_get j (idM_rows n), colM_id n j hj, dot_comm, dot_ev1 n j u hj (by omega)]
theorem lc_ev1 {n m : Nat} {M : Mt} (h : RowsN n M) (hm : M.length = m) {i : Nat} {r : Vc} (hr : M[i]? = some r) : lc n (ev1 m i) M = r := by
  have hi := (List.getElem?_eq_some_iff.1 hr).1
  have hrl := h r (List.mem_of_getElem? hr)
  refine vc_ext (by rw [lc_len h, hrl]) fun j _ => ?_
  rw [lc_get j h, dot_ev1 m i _ (by omega) (by simp [colM, hm])]
  unfold colM
  rw [List.getElem?_map, hr]; rfl
theorem mtT_id {n : Nat} {A : Mt} (h : RowsN n A) : mtT n A (idM n) = A := by
  unfold mtT
  conv => rhs; rw [← List.map_id A]
  exact List.map_congr_left fun a ha => lc_id (h a ha)
theorem id_mtT {n m : Nat} {M : Mt} (h : RowsN n M) (hm : M.length = m) : mtT n (idM m) M = M := by
  refine List.ext_getElem? fun i => ?_
  unfold mtT
  rw [List.getElem?_map]
  by_cases hi : i < m
  · obtain ⟨r, hr⟩ : ∃ r, M[i]? = some r := ⟨M[i]'(by omega), by simp⟩
    rw [idM_get hi, hr, Option.map_some, lc_ev1 h hm hr]
  · rw [List.getElem?_eq_none (by simp; omega), List.getElem?_eq_none (by omega)]; rfl
/-- What rows span. -/
def Sp (n : Nat) (M : Mt) (v : Vc) : Prop := ∃ u, u.length = M.length ∧ v = lc n u M
section
variable {n : Nat} {M X : Mt}
theorem Sp.mem (h : RowsN n M) {r : Vc} (hr : r ∈ M) : Sp n M r := by
  obtain ⟨i, hi⟩ := List.getElem?_of_mem hr
  exact ⟨ev1 M.length i, by simp, (lc_ev1 h rfl hi).symm⟩
theorem Sp.zero (h : RowsN n M) : Sp n M (zv n) := ⟨zv M.length, by simp, (lc_zv h _).symm⟩
theorem Sp.add (h : RowsN n M) {v w : Vc} (hv : Sp n M v) (hw : Sp n M w) : Sp n M (addL v w) := by
  obtain ⟨u, e1, rfl⟩ := hv
  obtain ⟨t, e2, rfl⟩ := hw
  exact ⟨addL u t, by rw [addL_len (by omega), e1], (lc_add h (by omega)).symm⟩
theorem Sp.smul (h : RowsN n M) (c : UInt8) {v : Vc} (hv : Sp n M v) : Sp n M (smul c v) := by
  obtain ⟨u, e1, rfl⟩ := hv
  exact ⟨Go.Proofs.Ytangdhaihhgjkaa.smul c u, by rw [smul_len, e1], (lc_smul h c u).symm⟩
theorem Sp.lc (h : RowsN n M) : ∀ {u : Vc} {T : Mt}, (∀ t, t ∈ T → Sp n M t) → Sp n M (lc n u T)
  | [], T, _ => Sp.zero h
  | x :: u, [], _ => Sp.zero h
  | x :: u, t :: T, hT => Sp.add h (Sp.smul h x (hT t (List.mem_cons_self ..))) (Sp.lc h fun s hs => hT s (List.mem_cons_of_mem _ hs))
theorem Sp.trans (h : RowsN n M) (hX : ∀ r, r ∈ X → Sp n M r) {v : Vc} (hv : Sp n X v) : Sp n M v := by
  obtain ⟨u, _, rfl⟩ := hv
  exact Sp.lc h hX
theorem addL_self : ∀ v : Vc, addL v v = zv v.length
  | [] => rfl
  | x :: v => by
    have : addL (x :: v) (x :: v) = (x ^^^ x) :: addL v v := rfl
    rw [this, addL_self v, UInt8.xor_self]; rfl
theorem addL_zv {v : Vc} {n : Nat} (h : v.length = n) : addL v (zv n) = v :=
  vc_ext (by rw [addL_len (by simpa using h)]) fun j _ => by rw [addL_get _ _ _ (by simpa using h), zv_get, UInt8.xor_zero]
theorem addL_assoc {a b c : Vc} (h1 : a.length = b.length) (h2 : b.length = c.length) : addL (addL a b) c = addL a (addL b c) :=
  vc_ext (by rw [addL_len (by rw [addL_len h1]; omega), addL_len h1, addL_len (by rw [addL_len h2]; omega)]) fun j _ => by
    rw [addL_get _ _ _ (by rw [addL_len h1]; omega), addL_get _ _ _ h1, addL_get _ _ _ (by rw [addL_len h2]; omega), addL_get _ _ _ h2, UInt8.xor_assoc]
theorem addL_cancel {a b : Vc} (h : a.length = b.length) : addL (addL a b) b = a := by
  rw [addL_assoc h rfl, addL_self, addL_zv h]
theorem smul_smul (c d : UInt8) (v : Vc) : smul c (smul d v) = smul (gm c d) v := by
  unfold smul
  rw [List.map_map]
  refine List.map_congr_left fun x _ => ?_
  exact (gm_assoc c d x).symm
theorem smul_one (v : Vc) : smul 1 v = v := by
  unfold smul
  conv => rhs; rw [← List.map_id v]
  exact List.map_congr_left fun x _ => one_gm x
end
/-! How many rows: the pigeon holes. -/
theorem nodup_sub {α : Type} [DecidableEq α] : ∀ {l m : List α}, l.Nodup → (∀ x, x ∈ l → x ∈ m) → l.length ≤ m.length
  | [], m, _, _ => Nat.zero_le _
  | x :: l, m, h, hs => by
    have hx : x ∈ m := hs x (List.mem_cons_self ..)
    have hn := List.nodup_cons.1 h
    have ih := nodup_sub (m := m.erase x) hn.2 fun y hy => (List.mem_erase_of_ne (fun q => hn.1 (by rw [← q]; exact hy))).2 (hs y (List.mem_cons_of_mem _ hy))
    rw [List.length_erase_of_mem hx] at ih
    have := List.length_pos_of_mem hx
    rw [List.length_cons]
    omega
def allB : List UInt8 := (List.range 256).map UInt8.ofNat
def allV : Nat → List Vc
  | 0 => [[]]
  | a + 1 => (allV a).flatMap fun v => allB.map (· :: v)
theorem allB_mem (x : UInt8) : x ∈ allB := List.mem_map.2 ⟨x.toNat, List.mem_range.2 (b_lt x), by simp⟩
theorem allB_nodup : allB.Nodup := by
  unfold allB
  refine List.Pairwise.map _ (R := fun a b => a ≠ b ∧ a < 256 ∧ b < 256) (fun a b h q => ?_) ?_
  · have := congrArg UInt8.toNat q
    rw [ofNat_toNat h.2.1, ofNat_toNat h.2.2] at this
    exact h.1 this
  · have : (List.range 256).Pairwise (· < ·) := List.pairwise_lt_range
    refine List.Pairwise.imp_of_mem (fun {a b} ha hb h => ⟨Nat.ne_of_lt h, List.mem_range.1 ha, List.mem_range.1 hb⟩) this
theorem allV_mem : ∀ {a : Nat} {v : Vc}, v ∈ allV a ↔ v.length = a
  | 0, v => by simp [allV]
  | a + 1, v => by
    simp only [allV, List.mem_flatMap, List.mem_map]
    constructor
    · rintro ⟨w, hw, x, _, rfl⟩
      rw [List.length_cons, allV_mem.1 hw]
    · intro h
      match v, h with
      | x :: w, h => exact ⟨w, allV_mem.2 (by simpa using h), x, allB_mem x, rfl⟩
theorem allV_len : ∀ a : Nat, (allV a).length = 256 ^ a
  | 0 => rfl
  | a + 1 => by
    have : ∀ l : List Vc, (l.flatMap fun v => allB.map (· :: v)).length = l.length * 256 := fun l => by
      induction l with
      | nil => rfl
      | cons v l ih => rw [List.flatMap_cons, List.length_append, ih, List.length_map, List.length_cons, Nat.succ_mul, show allB.length = 256 from by simp [allB], Nat.add_comm]
    rw [allV, this, allV_len a, Nat.pow_succ]
theorem allV_nodup : ∀ a : Nat, (allV a).Nodup
  | 0 => by simp [allV]
  | a + 1 => by
    have key : ∀ l : List Vc, l.Nodup → (l.flatMap fun v => allB.map (· :: v)).Nodup := fun l => by
      induction l with
      | nil => intro _; exact List.nodup_nil
      | cons v l ih =>
        intro h
        have hn := List.nodup_cons.1 h
        rw [List.flatMap_cons, List.nodup_append]
        refine ⟨?_, ih hn.2, fun x hx y hy q => ?_⟩
        · refine List.Pairwise.map _ (R := (· ≠ ·)) (fun a b hne q => hne (List.cons.inj q).1) allB_nodup
        · obtain ⟨c, _, rfl⟩ := List.mem_map.1 hx
          obtain ⟨w, hw, z⟩ := List.mem_flatMap.1 hy
          obtain ⟨d, _, rfl⟩ := List.mem_map.1 z
          have := (List.cons.inj q).2
          subst this
          exact hn.1 hw
    exact key _ (allV_nodup a)
/-- So many places hold no more. -/
theorem dim_le {a b : Nat} (f : Vc → Vc) (hf : ∀ v, v.length = a → (f v).length = b) (inj : ∀ v w, v.length = a → w.length = a → f v = f w → v = w) : a ≤ b := by
  have h1 : ((allV a).map f).Nodup := by
    refine List.Pairwise.map f (R := fun v w => v ≠ w ∧ v.length = a ∧ w.length = a) (fun v w h q => h.1 (inj v w h.2.1 h.2.2 q)) ?_
    exact List.Pairwise.imp_of_mem (fun {v w} hv hw h => ⟨h, allV_mem.1 hv, allV_mem.1 hw⟩) (allV_nodup a)
  have h2 := nodup_sub h1 (m := allV b) fun x hx => by
    obtain ⟨v, hv, rfl⟩ := List.mem_map.1 hx
    exact allV_mem.2 (hf v (allV_mem.1 hv))
  rw [List.length_map, allV_len, allV_len] at h2
  exact (Nat.pow_le_pow_iff_right (by decide)).1 h2
/-- Rows that are apart: what is made of them tells how. -/
def Ind (n : Nat) (M : Mt) : Prop := ∀ v w : Vc, v.length = M.length → w.length = M.length → lc n v M = lc n w M → v = w
theorem Ind.le {n : Nat} {M X : Mt} (I : Ind n M) (hX : RowsN n X) (h : ∀ r, r ∈ M → Sp n X r) : M.length ≤ X.length := by
  -- how each row is made
  have : ∀ L : Mt, (∀ r, r ∈ L → Sp n X r) → ∃ T : Mt, RowsN X.length T ∧ T.length = L.length ∧ mtT n T X = L := by
    intro L
    induction L with
    | nil => exact fun _ => ⟨[], (fun r hr => by cases hr), rfl, rfl⟩
    | cons r L ih =>
      intro hL
      obtain ⟨T, h1, h2, h3⟩ := ih fun s hs => hL s (List.mem_cons_of_mem _ hs)
      obtain ⟨u, e1, e2⟩ := hL r (List.mem_cons_self ..)
      exact ⟨u :: T, fun s hs => (List.mem_cons.1 hs).elim (fun q => by rw [q]; exact e1) (h1 s), by simp [h2], by rw [← h3, e2]; rfl⟩
  obtain ⟨T, h1, h2, h3⟩ := this M h
  refine dim_le (fun u => lc X.length u T) (fun v _ => lc_len h1) fun v w hv hw e => I v w hv hw ?_
  rw [← h3, ← lc_assoc hX h1, ← lc_assoc hX h1, e]
end Go.Proofs.Ytangdhaihhgjkaa
/- Elimination over the field of 256: what it does to rows; rank, inverse. -/
namespace Go.Proofs.Ytangdhaihhgjkaa
set_option linter.unusedSimpArgs false
set_option linter.unusedVariables false

def rowA (A : Mt) (i : Nat) : Vc := (A[i]?).getD []
def atA (A : Mt) (i j : Nat) : UInt8 := (rowA A i)[j]?.getD 0
def findP (A : Mt) (c : Nat) : Nat → Nat → Option Nat
  | 0, _ => none
  | f + 1, i => if atA A i c ≠ 0 then some i else findP A c f (i + 1)
def swpA (A : Mt) (i j : Nat) : Mt := (A.set i (rowA A j)).set j (rowA A i)
def scaleA (A : Mt) (r c : Nat) : Mt := A.set r (smul (gi (atA A r c)) (rowA A r))
def clrR (A : Mt) (r c i : Nat) : Vc := if i = r then rowA A r else addL (rowA A i) (smul (atA A i c) (rowA A r))
def clrA (A : Mt) (r c : Nat) : Mt := (List.range A.length).map (clrR A r c)
def stepA (s : Mt × Nat) (c : Nat) : Mt × Nat := match findP s.1 c (s.1.length - s.2) s.2 with
  | none => s
  | some p => (clrA (scaleA (swpA s.1 s.2 p) s.2 c) s.2 c, s.2 + 1)
def redA (A : Mt) (n : Nat) : Mt × Nat := (List.range n).foldl stepA (A, 0)

theorem rowA_get {A : Mt} {i : Nat} {r : Vc} (h : A[i]? = some r) : rowA A i = r := by unfold rowA; rw [h]; rfl
theorem rowA_mem {A : Mt} {i : Nat} (h : i < A.length) : A[i]? = some (rowA A i) ∧ rowA A i ∈ A := by
  obtain ⟨r, hr⟩ : ∃ r, A[i]? = some r := ⟨A[i], by simp⟩
  rw [rowA_get hr]
  exact ⟨hr, List.mem_of_getElem? hr⟩
theorem rowA_set {A : Mt} {i j : Nat} {v : Vc} (h : i < A.length) : rowA (A.set i v) j = if i = j then v else rowA A j := by
  unfold rowA
  by_cases q : i = j
  · subst q; rw [if_pos rfl, List.getElem?_set_self h]; rfl
  · rw [if_neg q, List.getElem?_set_ne q]
theorem findP_some {A : Mt} {c p : Nat} : ∀ {f i : Nat}, findP A c f i = some p → i ≤ p ∧ p < i + f ∧ atA A p c ≠ 0
  | 0, i, h => by cases h
  | f + 1, i, h => by
    simp only [findP] at h
    split at h
    · rename_i q; cases h; exact ⟨Nat.le_refl _, by omega, q⟩
    · obtain ⟨a, b, d⟩ := findP_some h; exact ⟨by omega, by omega, d⟩
theorem findP_none {A : Mt} {c : Nat} : ∀ {f i : Nat}, findP A c f i = none → ∀ j, i ≤ j → j < i + f → atA A j c = 0
  | 0, i, h, j, h1, h2 => by omega
  | f + 1, i, h, j, h1, h2 => by
    simp only [findP] at h
    split at h
    · cases h
    · rename_i q
      by_cases hj : j = i
      · subst hj; exact Classical.byContradiction q
      · exact findP_none h j (by omega) (by omega)
@[simp] theorem swpA_len (A : Mt) (i j : Nat) : (swpA A i j).length = A.length := by simp [swpA]
@[simp] theorem scaleA_len (A : Mt) (r c : Nat) : (scaleA A r c).length = A.length := by simp [scaleA]
@[simp] theorem clrA_len (A : Mt) (r c : Nat) : (clrA A r c).length = A.length := by simp [clrA]
theorem swpA_row {A : Mt} {i j k : Nat} (hi : i < A.length) (hj : j < A.length) : rowA (swpA A i j) k = if k = j then rowA A i else if k = i then rowA A j else rowA A k := by
  unfold swpA
  rw [rowA_set (by rw [List.length_set]; exact hj), rowA_set hi]
  by_cases h1 : j = k
  · rw [if_pos h1, if_pos h1.symm]
  · rw [if_neg h1, if_neg (Ne.symm h1)]
    by_cases h2 : i = k
    · rw [if_pos h2, if_pos h2.symm]
    · rw [if_neg h2, if_neg (Ne.symm h2)]
theorem clrA_row {A : Mt} {r c k : Nat} (hk : k < A.length) : rowA (clrA A r c) k = clrR A r c k := by
  unfold clrA rowA
  rw [List.getElem?_map, List.getElem?_range hk]; rfl
theorem rows_mem {n : Nat} {A : Mt} (h : ∀ k, k < A.length → (rowA A k).length = n) : RowsN n A := fun r hr => by
  obtain ⟨k, hk⟩ := List.getElem?_of_mem hr
  rw [← rowA_get hk]
  exact h k (List.getElem?_eq_some_iff.1 hk).1
theorem RowsN.row {n : Nat} {A : Mt} (h : RowsN n A) {k : Nat} (hk : k < A.length) : (rowA A k).length = n := h _ (rowA_mem hk).2
/-- Rows that span the same. -/
structure Eqv (n : Nat) (A B : Mt) : Prop where
  ra : RowsN n A
  rb : RowsN n B
  ab : ∀ r, r ∈ B → Sp n A r
  ba : ∀ r, r ∈ A → Sp n B r
theorem Eqv.refl {n : Nat} {A : Mt} (h : RowsN n A) : Eqv n A A := ⟨h, h, fun _ hr => Sp.mem h hr, fun _ hr => Sp.mem h hr⟩
theorem Eqv.trans {n : Nat} {A B C : Mt} (e : Eqv n A B) (f : Eqv n B C) : Eqv n A C := ⟨e.ra, f.rb, fun r hr => Sp.trans e.ra e.ab (f.ab r hr), fun r hr => Sp.trans f.rb f.ba (e.ba r hr)⟩
theorem Eqv.of {n : Nat} {A B : Mt} (hA : RowsN n A) (hB : RowsN n B) (h1 : ∀ k, k < B.length → Sp n A (rowA B k)) (h2 : ∀ k, k < A.length → Sp n B (rowA A k)) : Eqv n A B :=
  ⟨hA, hB, fun r hr => by
    obtain ⟨k, hk⟩ := List.getElem?_of_mem hr
    rw [← rowA_get hk]
    exact h1 k (List.getElem?_eq_some_iff.1 hk).1, fun r hr => by
    obtain ⟨k, hk⟩ := List.getElem?_of_mem hr
    rw [← rowA_get hk]
    exact h2 k (List.getElem?_eq_some_iff.1 hk).1⟩
section
variable {n : Nat} {A : Mt}
theorem swpA_rows (h : RowsN n A) {i j : Nat} (hi : i < A.length) (hj : j < A.length) : RowsN n (swpA A i j) := rows_mem fun k hk => by
  rw [swpA_len] at hk
  rw [swpA_row hi hj]
  split
  · exact h.row hi
  · split
    · exact h.row hj
    · exact h.row hk
theorem scaleA_row {r c k : Nat} (hr : r < A.length) : rowA (scaleA A r c) k = if r = k then smul (gi (atA A r c)) (rowA A r) else rowA A k := rowA_set hr
theorem scaleA_rows (h : RowsN n A) {r c : Nat} (hr : r < A.length) : RowsN n (scaleA A r c) := rows_mem fun k hk => by
  rw [scaleA_len] at hk
  rw [scaleA_row hr]
  split
  · rw [smul_len]; exact h.row hr
  · exact h.row hk
theorem clrA_rows (h : RowsN n A) {r c : Nat} (hr : r < A.length) : RowsN n (clrA A r c) := rows_mem fun k hk => by
  rw [clrA_len] at hk
  rw [clrA_row hk]
  unfold clrR
  split
  · exact h.row hr
  · rw [addL_len (by rw [smul_len, h.row hk, h.row hr])]; exact h.row hk
theorem swpA_eqv (h : RowsN n A) {i j : Nat} (hi : i < A.length) (hj : j < A.length) : Eqv n A (swpA A i j) := by
  have hB := swpA_rows h hi hj
  refine Eqv.of h hB (fun k hk => ?_) fun k hk => ?_
  · rw [swpA_len] at hk
    rw [swpA_row hi hj]
    split
    · exact Sp.mem h (rowA_mem hi).2
    · split
      · exact Sp.mem h (rowA_mem hj).2
      · exact Sp.mem h (rowA_mem hk).2
  · have hm : ∀ l, l < A.length → Sp n (swpA A i j) (rowA (swpA A i j) l) := fun l hl => Sp.mem hB (rowA_mem (by rw [swpA_len]; exact hl)).2
    by_cases h1 : k = i
    · have := hm j hj
      rw [swpA_row hi hj, if_pos rfl] at this
      rw [h1]; exact this
    · by_cases h2 : k = j
      · have := hm i hi
        rw [swpA_row hi hj] at this
        split at this
        · rename_i q
          have e : rowA A k = rowA A i := by rw [h2, q]
          rw [e]; exact this
        · rw [if_pos rfl] at this; rw [h2]; exact this
      · have := hm k hk
        rw [swpA_row hi hj, if_neg h2, if_neg h1] at this
        exact this
theorem scaleA_eqv (h : RowsN n A) {r c : Nat} (hr : r < A.length) (hx : atA A r c ≠ 0) : Eqv n A (scaleA A r c) := by
  have hB := scaleA_rows h (c := c) hr
  refine Eqv.of h hB (fun k hk => ?_) fun k hk => ?_
  · rw [scaleA_len] at hk
    rw [scaleA_row hr]
    split
    · exact Sp.smul h _ (Sp.mem h (rowA_mem hr).2)
    · exact Sp.mem h (rowA_mem hk).2
  · have hm := Sp.mem hB (rowA_mem (i := k) (by rw [scaleA_len]; exact hk)).2
    rw [scaleA_row hr] at hm
    split at hm
    · rename_i q
      subst q
      have := Sp.smul hB (atA A r c) hm
      rw [smul_smul, gm_gi hx, smul_one] at this
      exact this
    · exact hm
theorem clrA_eqv (h : RowsN n A) {r c : Nat} (hr : r < A.length) : Eqv n A (clrA A r c) := by
  have hB := clrA_rows h (c := c) hr
  have hp : Sp n (clrA A r c) (rowA A r) := by
    have := Sp.mem hB (rowA_mem (i := r) (by rw [clrA_len]; exact hr)).2
    rw [clrA_row hr] at this
    unfold clrR at this
    rwa [if_pos rfl] at this
  refine Eqv.of h hB (fun k hk => ?_) fun k hk => ?_
  · rw [clrA_len] at hk
    rw [clrA_row hk]
    unfold clrR
    split
    · exact Sp.mem h (rowA_mem hr).2
    · exact Sp.add h (Sp.mem h (rowA_mem hk).2) (Sp.smul h _ (Sp.mem h (rowA_mem hr).2))
  · by_cases q : k = r
    · rw [q]; exact hp
    · have hm := Sp.mem hB (rowA_mem (i := k) (by rw [clrA_len]; exact hk)).2
      rw [clrA_row hk] at hm
      unfold clrR at hm
      rw [if_neg q] at hm
      have := Sp.add hB hm (Sp.smul hB (atA A k c) hp)
      rwa [addL_cancel (by rw [smul_len, h.row hk, h.row hr])] at this
end
/-- What has been cleared: the pivots' columns. -/
structure Pv (A : Mt) (ps : List Nat) (c : Nat) : Prop where
  sub : ps.Sublist (List.range c)
  le : ps.length ≤ A.length
  one : ∀ j p, ps[j]? = some p → ∀ i, i < A.length → atA A i p = if i = j then 1 else 0
  zero : ∀ i col, ps.length ≤ i → i < A.length → col < c → atA A i col = 0
theorem stepA_ok {n : Nat} {A : Mt} (h : RowsN n A) {ps : List Nat} {c : Nat} (P : Pv A ps c) :
    ∃ ps', Pv (stepA (A, ps.length) c).1 ps' (c + 1) ∧ ps'.length = (stepA (A, ps.length) c).2 ∧ Eqv n A (stepA (A, ps.length) c).1 ∧ (stepA (A, ps.length) c).1.length = A.length := by
  unfold stepA
  simp only
  cases hf : findP A c (A.length - ps.length) ps.length with
  | none =>
    dsimp only
    refine ⟨ps, ⟨P.sub.trans ?_, P.le, P.one, fun i col h1 h2 h3 => ?_⟩, rfl, Eqv.refl h, rfl⟩
    · rw [List.range_succ]; exact List.sublist_append_left _ _
    · by_cases hc : col = c
      · subst hc; exact findP_none hf i h1 (by omega)
      · exact P.zero i col h1 h2 (by omega)
  | some p =>
    dsimp only
    obtain ⟨p1, p2, p3⟩ := findP_some hf
    have hle := P.le
    have hp : p < A.length := by omega
    have hr : ps.length < A.length := by omega
    have hlt : ∀ q, q ∈ ps → q < c := fun q hq => List.mem_range.1 (P.sub.subset hq)
    generalize hR : ps.length = r at *
    have hB := swpA_rows h hr hp
    obtain ⟨B, eB⟩ : ∃ B, swpA A r p = B := ⟨_, rfl⟩
    have lB : B.length = A.length := by rw [← eB]; simp
    have rB : ∀ k, rowA B k = if k = p then rowA A r else if k = r then rowA A p else rowA A k := fun k => by rw [← eB]; exact swpA_row hr hp
    have e1 := swpA_eqv h hr hp
    rw [eB] at hB e1 ⊢
    have xB : atA B r c ≠ 0 := by
      unfold atA
      rw [rB]
      split
      · rename_i q; rw [q]; exact p3
      · rw [if_pos rfl]; exact p3
    have hC := scaleA_rows hB (c := c) (r := r) (by omega)
    have e2 := scaleA_eqv hB (c := c) (r := r) (by omega) xB
    obtain ⟨C, eC⟩ : ∃ C, scaleA B r c = C := ⟨_, rfl⟩
    have lC : C.length = A.length := by rw [← eC, scaleA_len, lB]
    have rC : ∀ k, rowA C k = if r = k then smul (gi (atA B r c)) (rowA B r) else rowA B k := fun k => by rw [← eC]; exact scaleA_row (by omega)
    rw [eC] at hC e2 ⊢
    have hD := clrA_rows hC (c := c) (r := r) (by omega)
    have e3 := clrA_eqv hC (c := c) (r := r) (by omega)
    -- entries
    have aB : ∀ k col, r ≤ k → k < A.length → col < c → atA B k col = 0 := fun k col h1 h2 h3 => by
      unfold atA
      rw [rB]
      split
      · exact P.zero r col (by omega) hr h3
      · split
        · exact P.zero p col (by omega) hp h3
        · exact P.zero k col (by omega) h2 h3
    have aB1 : ∀ k col, k < r → atA B k col = atA A k col := fun k col h1 => by
      unfold atA
      rw [rB, if_neg (by omega), if_neg (by omega)]
    have aCr : ∀ col, atA C r col = gm (gi (atA B r c)) (atA B r col) := fun col => by
      unfold atA
      rw [rC, if_pos rfl, smul_get]; rfl
    have aC : ∀ k col, k ≠ r → atA C k col = atA B k col := fun k col hk => by
      unfold atA
      rw [rC, if_neg (Ne.symm hk)]
    have aDr : ∀ col, atA (clrA C r c) r col = atA C r col := fun col => by
      unfold atA
      rw [clrA_row (by omega)]
      unfold clrR
      rw [if_pos rfl]
    have aD : ∀ k col, k < A.length → k ≠ r → atA (clrA C r c) k col = atA C k col ^^^ gm (atA C k c) (atA C r col) := fun k col h1 h2 => by
      have : atA (clrA C r c) k col = (addL (rowA C k) (smul (atA C k c) (rowA C r)))[col]?.getD 0 := by
        unfold atA
        rw [clrA_row (by omega)]
        unfold clrR
        rw [if_neg h2]
        rfl
      rw [this, addL_get _ _ _ (by rw [smul_len, hC.row (by omega), hC.row (by omega)]), smul_get]
      rfl
    have c1 : atA C r c = 1 := by rw [aCr, gm_comm, gm_gi xB]
    refine ⟨ps ++ [c], ⟨?_, ?_, fun j q hq i hi => ?_, fun i col h1 h2 h3 => ?_⟩, by rw [List.length_append, hR]; rfl, e1.trans (e2.trans e3), by rw [clrA_len, lC]⟩
    · rw [List.range_succ]; exact List.Sublist.append P.sub (List.Sublist.refl _)
    · rw [List.length_append, clrA_len, lC, hR]; simp; omega
    · rw [clrA_len, lC] at hi
      by_cases hj : j < r
      · rw [List.getElem?_append_left (by omega)] at hq
        have hqc := hlt q (List.mem_of_getElem? hq)
        have cr0 : atA C r q = 0 := by rw [aCr, aB r q (Nat.le_refl _) hr hqc, gm_zero]
        by_cases hir : i = r
        · subst hir
          rw [aDr, cr0, if_neg (by omega)]
        · rw [aD i q hi hir, cr0, gm_zero, UInt8.xor_zero, aC i q hir]
          by_cases hlt' : i < r
          · rw [aB1 i q hlt', P.one j q hq i hi]
          · rw [aB i q (by omega) hi hqc, if_neg (by omega)]
      · have hjr : j = r := by
          have := (List.getElem?_eq_some_iff.1 hq).1
          rw [List.length_append, hR] at this
          simp at this
          omega
        subst hjr
        rw [List.getElem?_append_right (by omega), hR, Nat.sub_self] at hq
        have hq : c = q := by simpa using hq
        subst hq
        by_cases hir : i = j
        · subst hir; rw [aDr, c1, if_pos rfl]
        · rw [aD i c hi hir, c1, gm_one, UInt8.xor_self, if_neg hir]
    · rw [List.length_append, hR] at h1
      simp at h1
      rw [clrA_len, lC] at h2
      rw [aD i col h2 (by omega)]
      by_cases hc : col = c
      · subst hc; rw [c1, gm_one, UInt8.xor_self]
      · rw [aC i col (by omega), aB i col (by omega) h2 (by omega), aCr, aB r col (Nat.le_refl _) hr (by omega), gm_zero, gm_zero]; rfl
theorem redA_ok {n : Nat} {A : Mt} (h : RowsN n A) : ∀ c : Nat, ∃ ps, Pv (redA A c).1 ps c ∧ ps.length = (redA A c).2 ∧ Eqv n A (redA A c).1 ∧ (redA A c).1.length = A.length
  | 0 => ⟨[], ⟨List.nil_sublist _, Nat.zero_le _, (fun j p hp => by cases hp), fun i col _ _ h => absurd h (Nat.not_lt_zero _)⟩, rfl, Eqv.refl h, rfl⟩
  | c + 1 => by
    obtain ⟨ps, P, l, E, hl⟩ := redA_ok h c
    have e : redA A (c + 1) = stepA (redA A c) c := by
      unfold redA
      rw [List.range_succ, List.foldl_append]; rfl
    have e2 : redA A c = ((redA A c).1, ps.length) := by rw [l]
    rw [e, e2]
    obtain ⟨ps', P', l', E', hl'⟩ := stepA_ok E.rb P
    exact ⟨ps', P', l', E.trans E', by rw [hl', hl]⟩
end Go.Proofs.Ytangdhaihhgjkaa
/- Rows of bytes in the heap: read, and one's own. matrix.Right and the document's. -/
namespace Go.Proofs.Ytangdhaihhgjkaa
open Go Go.YtangdhaihhgjkaaAbs
set_option linter.unusedSimpArgs false
set_option linter.unusedVariables false
set_option maxRecDepth 4000

/-- Rows that can be read. -/
structure Rd (h : Heap) (v : AV) (rs : List AV) (M : Mt) : Prop where
  sl : Sl 1 M.length h v rs
  row : ∀ (i : Nat) (r : AV) (L : Vc), rs[i]? = some r → M[i]? = some L → Sl 1 L.length h r (L.map bb)
section
variable {h h' : Heap} {v : AV} {rs : List AV} {M : Mt}
theorem Rd.len (R : Rd h v rs M) : rs.length = M.length := by have := R.sl.length; omega
theorem Rd.ext (R : Rd h v rs M) (K : Keep h.next nob h h') : Rd h' v rs M := ⟨R.sl.ext K, fun i r L hr hL => (R.row i r L hr hL).ext K⟩
theorem Rd.get (R : Rd h v rs M) {i : Nat} (hi : i < M.length) : ∃ r, rs[i]? = some r ∧ Sl 1 (rowA M i).length h r ((rowA M i).map bb) := by
  have := R.len
  obtain ⟨r, hr⟩ : ∃ r, rs[i]? = some r := ⟨rs[i]'(by omega), by simp⟩
  exact ⟨r, hr, R.row i r _ hr (rowA_mem hi).1⟩
end
/-- Right: so many rows and columns, all of one length. -/
def rightM (M : Mt) : Bool := decide (1 ≤ M.length ∧ M.length ≤ 12 ∧ 1 ≤ (rowA M 0).length ∧ (rowA M 0).length ≤ 12) && M.all fun r => decide (r.length = (rowA M 0).length)
theorem rightM_iff {M : Mt} : rightM M = true ↔ (1 ≤ M.length ∧ M.length ≤ 12 ∧ 1 ≤ (rowA M 0).length ∧ (rowA M 0).length ≤ 12) ∧ RowsN (rowA M 0).length M := by
  unfold rightM RowsN
  simp
end Go.Proofs.Ytangdhaihhgjkaa
/- Rank and inverse, in plain words. -/
namespace Go.Proofs.Ytangdhaihhgjkaa
set_option linter.unusedSimpArgs false
set_option linter.unusedVariables false

def rankA (n : Nat) (M : Mt) : Nat := (redA M n).2
theorem sub_range {ps : List Nat} {n : Nat} (h : ps.Sublist (List.range n)) : ps.length ≤ n := by simpa using h.length_le
theorem rankA_le {n : Nat} {M : Mt} (h : RowsN n M) : rankA n M ≤ n ∧ rankA n M ≤ M.length := by
  obtain ⟨ps, P, l, E, hl⟩ := redA_ok h n
  have := P.le
  rw [hl] at this
  unfold rankA
  rw [← l]
  exact ⟨sub_range P.sub, this⟩
/-- Rows that span the same, apart. -/
theorem rank_top {n : Nat} {M : Mt} (h : RowsN n M) : ∃ top : Mt, RowsN n top ∧ top.length = rankA n M ∧ Ind n top ∧ (∀ r, r ∈ M → Sp n top r) ∧ ∀ r, r ∈ top → Sp n M r := by
  obtain ⟨ps, P, l, E, hl⟩ := redA_ok h n
  have hle := P.le
  have ht : RowsN n ((redA M n).1.take ps.length) := fun r hr => E.rb r (List.mem_of_mem_take hr)
  have tl : ((redA M n).1.take ps.length).length = ps.length := by rw [List.length_take]; omega
  refine ⟨(redA M n).1.take ps.length, ht, by rw [tl, l]; rfl, fun v w hv hw e => ?_, fun r hr => ?_, fun r hr => E.ab r (List.mem_of_mem_take hr)⟩
  · rw [tl] at hv hw
    refine vc_ext (by omega) fun j hj => ?_
    obtain ⟨p, hp⟩ : ∃ p, ps[j]? = some p := ⟨ps[j]'(by omega), by simp⟩
    have hpn : p < n := List.mem_range.1 (P.sub.subset (List.mem_of_getElem? hp))
    have col : colM ((redA M n).1.take ps.length) p = ev1 ps.length j := by
      refine vc_ext (by simp [colM]; omega) fun i hi => ?_
      have hi : i < ps.length := by simp [colM] at hi; omega
      rw [ev1_get _ _ _ hi]
      have := P.one j p hp i (by omega)
      unfold atA rowA at this
      unfold colM
      rw [List.getElem?_map, List.getElem?_take, if_pos hi]
      obtain ⟨r, hr⟩ : ∃ r, (redA M n).1[i]? = some r := ⟨(redA M n).1[i]'(by omega), by simp⟩
      rw [hr] at this ⊢
      rw [Option.map_some, Option.getD_some]
      rw [Option.getD_some] at this
      rw [this]
      by_cases q : i = j
      · rw [if_pos q, if_pos q.symm]
      · rw [if_neg q, if_neg (Ne.symm q)]
    have := congrArg (fun x : Vc => x[p]?.getD 0) e
    simp only [lc_get p ht, col] at this
    rw [dot_comm v, dot_comm w, dot_ev1 _ j v (by omega) (by omega), dot_ev1 _ j w (by omega) (by omega)] at this
    exact this
  · refine Sp.trans ht (fun s hs => ?_) (E.ba r hr)
    obtain ⟨i, hi⟩ := List.getElem?_of_mem hs
    have hil := (List.getElem?_eq_some_iff.1 hi).1
    by_cases hr' : i < ps.length
    · exact Sp.mem ht (List.mem_iff_getElem?.2 ⟨i, by rw [List.getElem?_take, if_pos hr']; exact hi⟩)
    · have e : s = zv n := by
        have hsl := E.rb s hs
        refine vc_ext (by rw [hsl, zv_len]) fun col hc => ?_
        have := P.zero i col (by omega) hil (by omega)
        unfold atA at this
        rw [rowA_get hi] at this
        rw [this, zv_get]
      rw [e]
      exact Sp.zero ht
theorem rank_le_of {n : Nat} {M X : Mt} (h : RowsN n M) (hX : RowsN n X) (hs : ∀ r, r ∈ M → Sp n X r) : rankA n M ≤ X.length := by
  obtain ⟨top, h1, h2, h3, h4, h5⟩ := rank_top h
  rw [← h2]
  exact h3.le hX fun r hr => Sp.trans hX hs (h5 r hr)
theorem le_rank {n : Nat} {M X : Mt} (h : RowsN n M) (I : Ind n X) (hs : ∀ r, r ∈ X → Sp n M r) : X.length ≤ rankA n M := by
  obtain ⟨top, h1, h2, h3, h4, h5⟩ := rank_top h
  rw [← h2]
  exact I.le h1 fun r hr => Sp.trans h1 h4 (hs r hr)
/-- A product's rank is no greater than either one's. -/
theorem rank_mul {n m : Nat} {A B : Mt} (hA : RowsN m A) (hB : RowsN n B) (hl : B.length = m) : rankA n (mtT n A B) ≤ rankA m A ∧ rankA n (mtT n A B) ≤ rankA n B := by
  have hAB := mtT_rows hB A
  constructor
  · obtain ⟨top, h1, h2, h3, h4, h5⟩ := rank_top hA
    have hX := mtT_rows hB top
    have := rank_le_of hAB hX fun r hr => by
      obtain ⟨a, ha, rfl⟩ := List.mem_map.1 hr
      obtain ⟨u, e1, rfl⟩ := h4 a ha
      exact ⟨u, by simp [mtT, e1], lc_assoc hB h1⟩
    simpa [mtT, h2] using this
  · obtain ⟨top, h1, h2, h3, h4, h5⟩ := rank_top hB
    rw [← h2]
    exact rank_le_of hAB h1 fun r hr => by
      obtain ⟨a, ha, rfl⟩ := List.mem_map.1 hr
      exact Sp.lc h1 h4
/-- Where nothing but nought makes nought, the rank is whole. -/
theorem rank_full {n : Nat} {M : Mt} (h : RowsN n M) (hk : ∀ w : Vc, w.length = M.length → lc n w M = zv n → w = zv M.length) : rankA n M = M.length := by
  refine Nat.le_antisymm (rankA_le h).2 (le_rank h (X := M) (fun v w hv hw e => ?_) fun r hr => Sp.mem h hr)
  have := hk (addL v w) (by rw [addL_len (by omega)]; exact hv) (by rw [lc_add h (by omega), e, addL_self, lc_len h])
  have e2 : addL (addL v w) w = w := by
    rw [this]
    refine vc_ext (by rw [addL_len (by simp [hw])]; simp [hw]) fun j _ => by rw [addL_get _ _ _ (by simp [hw]), zv_get, UInt8.zero_xor]
  rw [addL_cancel (by omega)] at e2
  exact e2
theorem ind_id (n : Nat) : Ind n (idM n) := fun v w hv hw e => by
  rw [idM_len] at hv hw
  rwa [lc_id hv, lc_id hw] at e

/-! The inverse. -/
def joinA (A B : Mt) : Mt := List.zipWith (· ++ ·) A B
theorem take_addL (n : Nat) (a b : Vc) : (addL a b).take n = addL (a.take n) (b.take n) := by unfold addL; rw [List.take_zipWith]
theorem drop_addL (n : Nat) (a b : Vc) : (addL a b).drop n = addL (a.drop n) (b.drop n) := by unfold addL; rw [List.drop_zipWith]
theorem take_smul (n : Nat) (c : UInt8) (a : Vc) : (smul c a).take n = smul c (a.take n) := by unfold smul; rw [List.map_take]
theorem drop_smul (n : Nat) (c : UInt8) (a : Vc) : (smul c a).drop n = smul c (a.drop n) := by unfold smul; rw [List.map_drop]
theorem lc_take {n m : Nat} : ∀ {u : Vc} {E : Mt}, (lc (n + m) u E).take n = lc n u (E.map (·.take n))
  | [], E => by simp [lc, zv]
  | x :: u, [] => by simp [lc, zv]
  | x :: u, r :: E => by simp only [lc, List.map_cons]; rw [take_addL, take_smul, lc_take]
theorem lc_drop {n m : Nat} : ∀ {u : Vc} {E : Mt}, (lc (n + m) u E).drop n = lc m u (E.map (·.drop n))
  | [], E => by simp [lc, zv]
  | x :: u, [] => by simp [lc, zv]
  | x :: u, r :: E => by simp only [lc, List.map_cons]; rw [drop_addL, drop_smul, lc_drop]
theorem joinA_len {A B : Mt} (h : A.length = B.length) : (joinA A B).length = A.length := by simp [joinA, h]
theorem joinA_get {A B : Mt} {i : Nat} {a b : Vc} (ha : A[i]? = some a) (hb : B[i]? = some b) : (joinA A B)[i]? = some (a ++ b) := by
  unfold joinA
  rw [List.getElem?_zipWith, ha, hb]
theorem joinA_rows {n m : Nat} {A B : Mt} (h : A.length = B.length) (hA : RowsN n A) (hB : RowsN m B) : RowsN (n + m) (joinA A B) := fun r hr => by
  obtain ⟨i, hi⟩ := List.getElem?_of_mem hr
  have hil := (List.getElem?_eq_some_iff.1 hi).1
  rw [joinA_len h] at hil
  obtain ⟨a, ha⟩ : ∃ a, A[i]? = some a := ⟨A[i], by simp⟩
  obtain ⟨b, hb⟩ : ∃ b, B[i]? = some b := ⟨B[i]'(by omega), by simp⟩
  rw [joinA_get ha hb] at hi
  cases hi
  rw [List.length_append, hA a (List.mem_of_getElem? ha), hB b (List.mem_of_getElem? hb)]
theorem joinA_take {n : Nat} {A B : Mt} (h : A.length = B.length) (hA : RowsN n A) : (joinA A B).map (·.take n) = A := by
  refine List.ext_getElem? fun i => ?_
  rw [List.getElem?_map]
  by_cases hi : i < A.length
  · obtain ⟨a, ha⟩ : ∃ a, A[i]? = some a := ⟨A[i], by simp⟩
    obtain ⟨b, hb⟩ : ∃ b, B[i]? = some b := ⟨B[i]'(by omega), by simp⟩
    rw [joinA_get ha hb, ha, Option.map_some, List.take_left' (hA a (List.mem_of_getElem? ha))]
  · rw [List.getElem?_eq_none (by rw [joinA_len h]; omega), List.getElem?_eq_none (by omega)]; rfl
theorem joinA_drop {n : Nat} {A B : Mt} (h : A.length = B.length) (hA : RowsN n A) : (joinA A B).map (·.drop n) = B := by
  refine List.ext_getElem? fun i => ?_
  rw [List.getElem?_map]
  by_cases hi : i < A.length
  · obtain ⟨a, ha⟩ : ∃ a, A[i]? = some a := ⟨A[i], by simp⟩
    obtain ⟨b, hb⟩ : ∃ b, B[i]? = some b := ⟨B[i]'(by omega), by simp⟩
    rw [joinA_get ha hb, hb, Option.map_some, List.drop_left' (hA a (List.mem_of_getElem? ha))]
  · rw [List.getElem?_eq_none (by rw [joinA_len h]; omega), List.getElem?_eq_none (by omega)]; rfl
/-- What stands behind the columns changes nothing in them. -/
theorem atA_take {n : Nat} {A : Mt} {i c : Nat} (hc : c < n) : atA (A.map (·.take n)) i c = atA A i c := by
  unfold atA rowA
  rw [List.getElem?_map]
  cases A[i]? with
  | none => rfl
  | some r => simp [List.getElem?_take, hc]
theorem rowA_take (n : Nat) (A : Mt) (i : Nat) : rowA (A.map (·.take n)) i = (rowA A i).take n := by
  unfold rowA
  rw [List.getElem?_map]
  cases A[i]? with
  | none => simp
  | some r => rfl
theorem findP_take {n : Nat} {A : Mt} {c : Nat} (hc : c < n) : ∀ f i : Nat, findP (A.map (·.take n)) c f i = findP A c f i
  | 0, i => rfl
  | f + 1, i => by simp only [findP, atA_take hc, findP_take hc f (i + 1)]
theorem stepA_take {n : Nat} {A : Mt} {r c : Nat} (hc : c < n) : stepA (A.map (·.take n), r) c = (((stepA (A, r) c).1.map (·.take n)), (stepA (A, r) c).2) := by
  unfold stepA
  simp only [findP_take hc, List.length_map]
  cases findP A c (A.length - r) r with
  | none => rfl
  | some p =>
    dsimp only
    congr 1
    have e1 : swpA (A.map (·.take n)) r p = (swpA A r p).map (·.take n) := by
      unfold swpA
      rw [rowA_take, rowA_take, List.map_set, List.map_set]
    rw [e1]
    generalize swpA A r p = B
    have e2 : scaleA (B.map (·.take n)) r c = (scaleA B r c).map (·.take n) := by
      unfold scaleA
      rw [rowA_take, atA_take hc, ← take_smul, List.map_set]
    rw [e2]
    generalize scaleA B r c = C
    unfold clrA
    rw [List.length_map, List.map_map]
    refine List.map_congr_left fun i _ => ?_
    show clrR (C.map (·.take n)) r c i = (clrR C r c i).take n
    unfold clrR
    rw [rowA_take, rowA_take, atA_take hc]
    split
    · rfl
    · rw [take_addL, take_smul]
theorem redA_take {n : Nat} {A : Mt} : ∀ c : Nat, c ≤ n → redA (A.map (·.take n)) c = (((redA A c).1.map (·.take n)), (redA A c).2)
  | 0, _ => rfl
  | c + 1, h => by
    have e : ∀ X : Mt, redA X (c + 1) = stepA (redA X c) c := fun X => by
      unfold redA
      rw [List.range_succ, List.foldl_append]; rfl
    rw [e, e, redA_take c (by omega), stepA_take (by omega)]
def invA (M : Mt) : Mt × Bool := if (redA (joinA M (idM M.length)) M.length).2 < M.length then ([], false) else ((redA (joinA M (idM M.length)) M.length).1.map (·.drop M.length), true)
theorem invA_rank {n : Nat} {M : Mt} (h : RowsN n M) (hn : M.length = n) : (redA (joinA M (idM n)) n).2 = rankA n M := by
  have := redA_take (n := n) (A := joinA M (idM n)) n (Nat.le_refl _)
  rw [joinA_take (by simp [hn]) h] at this
  unfold rankA
  rw [this]
theorem eq_range : ∀ {ps : List Nat} {n : Nat}, ps.Sublist (List.range n) → ps.length = n → ps = List.range n := fun h hl => h.eq_of_length (by simpa using hl)
/-- The inverse gives Identity from both sides. -/
theorem invA_ok {n : Nat} {M : Mt} (h : RowsN n M) (hn : M.length = n) (hr : rankA n M = n) : ∃ B, invA M = (B, true) ∧ RowsN n B ∧ B.length = n ∧ mtT n B M = idM n ∧ mtT n M B = idM n := by
  have hlen : M.length = (idM n).length := by simp [hn]
  have hE := joinA_rows hlen h (idM_rows n)
  have eT := joinA_take hlen h
  have eD := joinA_drop hlen h
  have el := joinA_len hlen
  obtain ⟨ps, P, l, E, hl⟩ := redA_ok hE n
  have hcount := invA_rank h hn
  unfold invA
  rw [hn, if_neg (by omega)]
  refine ⟨_, rfl, ?_⟩
  generalize hR : (redA (joinA M (idM n)) n).1 = R at *
  have hRl : R.length = n := by rw [hl, el, hn]
  have hps : ps = List.range n := eq_range P.sub (by rw [l, hcount, hr])
  have hRT : R.map (·.take n) = idM n := by
    refine List.ext_getElem? fun i => ?_
    rw [List.getElem?_map]
    by_cases hi : i < n
    · obtain ⟨a, ha⟩ : ∃ a, R[i]? = some a := ⟨R[i]'(by omega), by simp⟩
      have hal := E.rb a (List.mem_of_getElem? ha)
      rw [ha, Option.map_some, idM_get hi]
      congr 1
      refine vc_ext (by simp; omega) fun j hj => ?_
      have hj : j < n := by simp at hj; omega
      have := P.one j j (by rw [hps]; simp [hj]) i (by omega)
      unfold atA at this
      rw [rowA_get ha] at this
      rw [List.getElem?_take, if_pos hj, this, ev1_get n i j hj]
    · rw [List.getElem?_eq_none (by omega), List.getElem?_eq_none (by simp; omega)]; rfl
  have hB : RowsN n (R.map (·.drop n)) := fun r hr' => by
    obtain ⟨a, ha, rfl⟩ := List.mem_map.1 hr'
    rw [List.length_drop, E.rb a ha]; omega
  refine ⟨hB, by simp [hRl], ?_, ?_⟩
  · refine List.ext_getElem? fun i => ?_
    unfold mtT
    rw [List.map_map, List.getElem?_map]
    by_cases hi : i < n
    · obtain ⟨a, ha⟩ : ∃ a, R[i]? = some a := ⟨R[i]'(by omega), by simp⟩
      obtain ⟨t, t1, t2⟩ := E.ab a (List.mem_of_getElem? ha)
      rw [el, hn] at t1
      have hRi : (R.map (·.take n))[i]? = some (a.take n) := by rw [List.getElem?_map, ha]; rfl
      rw [hRT, idM_get hi] at hRi
      have hRi := Option.some.inj hRi
      have d : a.drop n = t := by rw [t2, lc_drop, eD, lc_id t1]
      have tk : a.take n = lc n t M := by rw [t2, lc_take, eT]
      rw [ha, Option.map_some, idM_get hi]
      congr 1
      show lc n (a.drop n) M = ev1 n i
      rw [d, ← tk, ← hRi]
    · rw [List.getElem?_eq_none (by omega), List.getElem?_eq_none (by simp; omega)]; rfl
  · refine List.ext_getElem? fun i => ?_
    unfold mtT
    rw [List.getElem?_map]
    by_cases hi : i < n
    · obtain ⟨m, hm⟩ : ∃ m, M[i]? = some m := ⟨M[i]'(by omega), by simp⟩
      have hj := joinA_get hm (idM_get hi)
      obtain ⟨u, u1, u2⟩ := E.ba _ (List.mem_of_getElem? hj)
      rw [hRl] at u1
      have hml := h m (List.mem_of_getElem? hm)
      have tk : m = u := by
        have := congrArg (List.take n) u2
        rwa [List.take_left' hml, lc_take, hRT, lc_id u1] at this
      have d : ev1 n i = lc n u (R.map (·.drop n)) := by
        have := congrArg (List.drop n) u2
        rwa [List.drop_left' hml, lc_drop] at this
      rw [hm, Option.map_some, idM_get hi, d, tk]
    · rw [List.getElem?_eq_none (by omega), List.getElem?_eq_none (by simp; omega)]; rfl
theorem invA_no {n : Nat} {M : Mt} (h : RowsN n M) (hn : M.length = n) (hr : rankA n M ≠ n) : invA M = ([], false) := by
  have := invA_rank h hn
  have := (rankA_le h).1
  unfold invA
  rw [hn, if_pos (by omega)]
/-- The inverse comes back. -/
theorem invA_back {n : Nat} {M B : Mt} (h : RowsN n M) (hn : M.length = n) (hB : RowsN n B) (hl : B.length = n) (h1 : mtT n B M = idM n) (h2 : mtT n M B = idM n) : rankA n B = n ∧ invA B = (M, true) := by
  have hr : rankA n B = n := by
    refine Nat.le_antisymm (rankA_le hB).1 ?_
    have := le_rank hB (ind_id n) fun r hr => by
      rw [← h2] at hr
      obtain ⟨a, ha, rfl⟩ := List.mem_map.1 hr
      exact Sp.lc hB fun t ht => Sp.mem hB ht
    simpa using this
  obtain ⟨X, e, hX, hXl, x1, x2⟩ := invA_ok hB hl hr
  have : X = M := by
    have a := mtT_assoc (n := n) (m := n) (A := X) (B := B) h hB
    rw [x1, h1, mtT_id hX, id_mtT h hn] at a
    exact a.symm
  rw [this] at e
  exact ⟨hr, e⟩
end Go.Proofs.Ytangdhaihhgjkaa
/- Rows of bytes that are one's own. matrix.Identity, copied. -/
namespace Go.Proofs.Ytangdhaihhgjkaa
open Go Go.YtangdhaihhgjkaaAbs
set_option linter.unusedSimpArgs false
set_option linter.unusedVariables false
set_option maxRecDepth 4000

def fb (b : UInt8) : List AV := [bb b]
theorem cat_fb (L : Vc) : cat fb L = L.map bb := by
  induction L with
  | nil => rfl
  | cons x L ih => rw [cat_cons, ih]; rfl
theorem zv_bb (n : Nat) : (zv n).map bb = List.replicate n (.int .u8 0) := by unfold zv; rw [List.map_replicate]; rfl
section
variable {h h' h1 : Heap} {v : AV} {rs : List AV} {M : Mt}
theorem rows_rd (R : RowsO fb 1 h v rs M) : Rd h v rs M := ⟨by have := R.own.sl; rwa [R.len] at this, fun i r L hr hL => by have := (R.each i r L hr hL).sl; rwa [cat_fb] at this⟩
/-- A row is written where it stands. -/
theorem rows_put {α : Type} {f : α → List AV} {sz : Nat} {Ls : List (List α)} (R : RowsO f sz h v rs Ls) (A : Apart (v :: rs)) {j : Nat} {r : AV} {L' : List α} (hr : rs[j]? = some r) (K1 : Keep h.next (Has r) h h1) (M : Mine sz L'.length h1 r (cat f L')) : RowsO f sz h1 v rs (Ls.set j L') := by
  have hjl := (List.getElem?_eq_some_iff.1 hr).1
  have nvr : ∀ {k : Nat} {u : AV} {d : Nat}, (v :: rs)[k]? = some u → k ≠ j + 1 → Has u d → ¬ Has r d := fun {k u d} hk hkj hu hv => hkj (A.get (i := k) (j := j + 1) (v := u) (w := r) hk (by simpa using hr) hu hv)
  refine ⟨R.own.keep K1 fun d hd q => nvr (k := 0) rfl (by omega) hd q, by rw [List.length_set]; exact R.len, fun i u L hu hL => ?_⟩
  by_cases hij : i = j
  · subst hij
    rw [hr] at hu
    cases hu
    rw [List.getElem?_set_self (by rw [← R.len]; exact hjl)] at hL
    cases hL
    exact M
  · rw [List.getElem?_set_ne (Ne.symm hij)] at hL
    exact (R.each i u L hu hL).keep K1 fun d hd q => nvr (k := i + 1) (by simpa using hu) (by omega) hd q
/-- New rows. -/
def Nw (h h' : Heap) (v : AV) (M : Mt) : Prop := ∃ rs, RowsO fb 1 h' v rs M ∧ Apart (v :: rs) ∧ (∀ d, d ∈ blks (v :: rs) → h.next ≤ d) ∧ Keep h.next nob h h'
theorem Nw.ext (N : Nw h h' v M) (K : Keep h'.next nob h' h1) : Nw h h1 v M := by
  obtain ⟨rs, R, A, f, K0⟩ := N
  exact ⟨rs, R.ext K, A, f, K0.trans (K.weak K0.1 fun _ _ q => q)⟩
theorem Nw.rd (N : Nw h h' v M) : ∃ rs, Rd h' v rs M := by
  obtain ⟨rs, R, _⟩ := N
  exact ⟨rs, rows_rd R⟩
theorem Nw.kb (N : Nw h h' v M) : Keep h.next nob h h' := by
  obtain ⟨_, _, _, _, K⟩ := N
  exact K
/-- A row that one has is written, or a new one put into its place. -/
theorem Nw.set (N : Nw h h' v M) {j : Nat} (hj : j < M.length) {r' : AV} {L' : Vc} (K1 : Keep h'.next nob h' h1) (Mr : Mine 1 L'.length h1 r' (L'.map bb)) (Fr : ∀ d, Has r' d → h'.next ≤ d) : ∃ h2, alay h1 v.blk (v.off + j) [r'] = some h2 ∧ Nw h h2 v (M.set j L') ∧ ∃ rs, RowsO fb 1 h2 v rs (M.set j L') ∧ rs[j]? = some r' := by
  obtain ⟨rs, R, A, f, K0⟩ := N
  have hjl : j < rs.length := by rw [R.len]; exact hj
  obtain ⟨r, hr⟩ : ∃ r, rs[j]? = some r := ⟨rs[j], by simp [hjl]⟩
  obtain ⟨h2, a1, a2, a3, a4, a5⟩ := R.set A (L' := L') hr (K1.weak (Nat.le_refl _) fun _ _ q => q.elim) (by rw [cat_fb]; exact Mr) (fun d hd => .inr (Fr d hd))
  have bl : ∀ d, d ∈ blks (v :: rs.set j r') → Has r' d ∨ d ∈ blks (v :: rs) := fun d hd => by
    have := blks_set (l := v :: rs) (i := j + 1) (v' := r') (c := d) (by simpa using hd)
    exact this
  refine ⟨h2, a1, ⟨rs.set j r', a2, ?_, fun d hd => ?_, ?_⟩, rs.set j r', a2, by rw [List.getElem?_set_self hjl]⟩
  · have := A.set (i := j + 1) (v := r) (v' := r') (by simpa using hr) fun c hc => .inr fun q => by
      have := R.lt q
      have := Fr c hc
      omega
    simpa using this
  · rcases bl d hd with q | q
    · exact Nat.le_trans K0.1 (Fr d q)
    · exact f d q
  · refine K0.trans ⟨a3.1, fun d hd _ => a3.2 d (Nat.lt_of_lt_of_le hd K0.1) fun q => ?_⟩
    have : d ∈ blks (v :: rs) := q.elim (fun q => mem_blks.2 ⟨r, List.mem_cons.2 (.inr (List.mem_of_getElem? hr)), q⟩) fun q => mem_blks.2 ⟨v, by simp, q⟩
    have := f d this
    omega
theorem Nw.put (N : Nw h h' v M) {rs : List AV} (hR : RowsO fb 1 h' v rs M) {j : Nat} {r : AV} (hr : rs[j]? = some r) {i : Nat} {L : Vc} (hL : M[j]? = some L) (hi : i < L.length) (x : UInt8) : ∃ h2, alay h' r.blk (r.off + i) [.int .u8 (x.toNat : Nat)] = some h2 ∧ Nw h h2 v (M.set j (L.set i x)) := by
  obtain ⟨rs', R, A, f, K0⟩ := N
  have e : rs' = rs := by
    have a := R.own.sl
    have b := hR.own.sl
    have l : rs'.length = rs.length := by rw [R.len, hR.len]
    rcases a with ⟨p1, p2, _⟩ | ⟨p1, p2, _⟩ | ⟨b1, i1, c1, x1, y1, z1, p1, p2, p3, p4, p5, p6, p7⟩
    · rw [p2] at l ⊢; exact (List.eq_nil_of_length_eq_zero l.symm).symm
    · rw [p2] at l ⊢; exact (List.eq_nil_of_length_eq_zero l.symm).symm
    · rcases b with ⟨q1, q2, _⟩ | ⟨q1, q2, _⟩ | ⟨b2, i2, c2, x2, y2, z2, q1, q2, q3, q4, q5, q6, q7⟩
      · rw [p1] at q1; cases q1
      · rw [p1] at q1; cases q1
      · rw [p1] at q1
        simp only [AV.sl.injEq] at q1
        obtain ⟨u1, u2, _⟩ := q1
        rw [← u1, p3] at q3
        cases q3
        rw [← p6, ← q6, u2, l]
  subst e
  have Mr := R.each j r L hr hL
  rw [cat_fb] at Mr
  obtain ⟨h2, a1, a2, a3, a4⟩ := Mr.lay1 (j := i) (x := .int .u8 (x.toNat : Nat)) hi rfl
  have e2 : (L.map bb).set i (.int .u8 (x.toNat : Nat)) = (L.set i x).map bb := by rw [List.map_set]; rfl
  rw [e2] at a2
  have R2 := rows_put R A (L' := L.set i x) hr a3 (by rw [cat_fb, List.length_set]; exact a2)
  refine ⟨h2, a1, rs', R2, A, f, K0.trans ⟨a3.1, fun d hd _ => a3.2 d (Nat.lt_of_lt_of_le hd K0.1) fun q => ?_⟩⟩
  have := f d (mem_blks.2 ⟨r, List.mem_cons.2 (.inr (List.mem_of_getElem? hr)), q⟩)
  omega
end
/-- Rows that are to be: so many nil ones. -/
theorem rows_nil (h : Heap) (n : Nat) : Nw h (h.new (.cells (List.replicate n .nils) false)) (.sl h.next 0 n n 1 true) (List.replicate n []) := by
  refine ⟨List.replicate n .nils, ⟨?_, by simp, fun i r L hr hL => ?_⟩, ?_, fun d hd => ?_, Keep.new (Nat.le_refl _) _⟩
  · have := Mine.new (sz := 1) (n := n) (m := n) h (List.replicate n AV.nils) (by simp) (Nat.le_refl _) (by simp) true
    simpa using this
  · have e1 := List.eq_of_mem_replicate (List.mem_of_getElem? hr)
    have e2 := List.eq_of_mem_replicate (List.mem_of_getElem? hL)
    subst e1 e2
    exact Mine.nil 1 _
  · have : ∀ m, blks (List.replicate m AV.nils) = [] := fun m => by
      induction m with
      | zero => rfl
      | succ m ih => rw [List.replicate_succ, blks_cons, ih]; rfl
    unfold Apart
    rw [blks_cons, this]
    simp
  · have : ∀ m, blks (List.replicate m AV.nils) = [] := fun m => by
      induction m with
      | zero => rfl
      | succ m ih => rw [List.replicate_succ, blks_cons, ih]; rfl
    rw [blks_cons, this] at hd
    simp at hd
    omega
end Go.Proofs.Ytangdhaihhgjkaa
/- matrix.Identity, slices.Clone, copied. -/
namespace Go.Proofs.Ytangdhaihhgjkaa
open Go Go.YtangdhaihhgjkaaAbs
set_option linter.unusedSimpArgs false
set_option linter.unusedVariables false
set_option maxRecDepth 4000

/-- Rows so far, and nil ones. -/
def sofar (n j : Nat) (M : Mt) : Mt := M.take j ++ List.replicate (n - j) []
theorem sofar_len {n j : Nat} {M : Mt} (h : M.length = n) (hj : j ≤ n) : (sofar n j M).length = n := by
  unfold sofar
  rw [List.length_append, List.length_take, List.length_replicate]; omega
theorem sofar_set {n j : Nat} {M : Mt} {r : Vc} (h : M.length = n) (hr : M[j]? = some r) : (sofar n j M).set j r = sofar n (j + 1) M := by
  have hj := (List.getElem?_eq_some_iff.1 hr).1
  refine List.ext_getElem? fun i => ?_
  unfold sofar
  by_cases hij : j = i
  · subst hij
    rw [List.getElem?_set_self (by rw [List.length_append, List.length_take, List.length_replicate]; omega), List.getElem?_append_left (by rw [List.length_take]; omega), List.getElem?_take, if_pos (by omega), hr]
  · rw [List.getElem?_set_ne hij]
    by_cases hi : i < j
    · rw [List.getElem?_append_left (by rw [List.length_take]; omega), List.getElem?_append_left (by rw [List.length_take]; omega), List.getElem?_take, List.getElem?_take, if_pos hi, if_pos (by omega)]
    · rw [List.getElem?_append_right (by rw [List.length_take]; omega), List.getElem?_append_right (by rw [List.length_take]; omega), List.getElem?_replicate, List.getElem?_replicate, List.length_take, List.length_take]
      by_cases hn : i < n
      · rw [if_pos (by omega), if_pos (by omega)]
      · rw [if_neg (by omega), if_neg (by omega)]
theorem sofar_0 (n : Nat) (M : Mt) : sofar n 0 M = List.replicate n [] := by simp [sofar]
theorem sofar_all {n : Nat} {M : Mt} (h : M.length = n) : sofar n n M = M := by simp [sofar, ← h]
theorem new_row (h : Heap) (l : Vc) (n : Nat) (hn : l.length = n) : Mine 1 n (h.new (.cells (l.map bb) false)) (.sl h.next 0 n n 1 true) (l.map bb) := by
  have := Mine.new (sz := 1) (n := n) (m := n) h (l.map bb) (by simp [hn]) (Nat.le_refl _) (by have := bb_one l; rw [List.all_eq_true] at this ⊢; exact fun x hx => this x (List.mem_of_mem_take hx)) true
  rw [Nat.mul_one, List.take_of_length_le (by simp [hn])] at this
  exact this

set_option maxHeartbeats 1000000 in
theorem identity_ok (k : Nat) (hk : 30 < k) (h : Heap) (n : Nat) (h1 : 1 ≤ n) (h2 : n ≤ 12) :
    ∃ v' h', acall Try.prog (k + 1) 46 [.int .i64 (n : Nat)] h = some (v', h') ∧ Nw h h' v' (idM n) := by
  rw [acall_text [] Try.func46 (by kernel_rfl)]
  refine afuncT_ex rfl (by simp [Try.f46]) ?_
  have N0 := rows_nil h n
  have lv : ∀ (k : Heap) (e : TypeId), vlen' k (.sl h.next 0 n n 1 true) (some (.slice e)) = some (.int .i64 (n : Nat)) := fun k e => rfl
  simp [Try.f46, isLe (show (1 : Int) ≤ (n : Int) by omega), isLe (show (n : Int) ≤ 12 by omega), aalloc_make (P := Try.prog) el85 (z := [.nils]) az43 rfl rfl n n (Nat.le_refl _) (by omega), flat1, afill, lv]
  obtain ⟨mv, hmv⟩ : ∃ mv, AV.sl h.next 0 n n 1 true = mv := ⟨_, rfl⟩
  rw [hmv] at N0 ⊢
  refine W_cutLoop 0 (fun st => st.t.get 3 = some mv ∧ Nw h st.h mv (idM n)) ?_ ?_
  · refine W_loop (fun m st => ∃ j, m = n - j ∧ j ≤ n ∧ st.t.get 0 = some (.int .i64 (n : Nat)) ∧ st.t.get 3 = some mv ∧ st.t.get 14 = some (.int .i64 (n : Nat)) ∧ st.t.get 15 = some (.int .i64 (j : Nat)) ∧ Nw h st.h mv (sofar n j (idM n))) n (by omega)
      ⟨0, by omega, by omega, by simp, by simp, by simp, by simp, by rw [sofar_0]; exact N0⟩ ?_
    rintro m ⟨t, h3⟩ ⟨j, rfl, hj, q0, q3, q14, q15, N⟩
    simp only at q0 q3 q14 q15 N
    by_cases hlt : j < n
    · have sl := sofar_len (M := idM n) (j := j) (idM_len n) hj
      obtain ⟨h4, a4, N4, rs4, R4, hr4⟩ := N.set (j := j) (by omega) (Keep.new (Nat.le_refl _) (.cells ((zv n).map bb) false)) (L' := zv n) (r' := .sl h3.next 0 n n 1 true) (by rw [zv_len]; exact new_row h3 (zv n) n (zv_len n)) (fun d hd => by cases hd; exact Nat.le_refl _)
      have ixv := R4.own.sl.idx1 (P := Try.prog) Try.underlying85 ts43 (j := j) (by rw [R4.len, List.length_set]; omega) .i64
      have ldv := R4.own.sl.ld (P := Try.prog) ta43 hr4
      obtain ⟨h5, a5, N5⟩ := N4.put R4 hr4 (L := zv n) (by rw [List.getElem?_set_self (by omega)]) (i := j) (by simp; omega) 1
      have ixr : aindex Try.prog 43 (.sl h3.next 0 n n 1 true) (.int .i64 (j : Nat)) = some (.ptr h3.next j) := by
        have := (R4.each j _ (zv n) hr4 (by rw [List.getElem?_set_self (by omega)])).sl.idx1 (P := Try.prog) Try.underlying43 ts5 (j := j) (by simp; omega) .i64
        simpa [AV.blk, AV.off] using this
      have a5 : alay h4 h3.next j [.int .u8 1] = some h5 := by rw [← a5]; simp [AV.blk, AV.off]
      rw [List.set_set, sofar_set (idM_len n) (show (idM n)[j]? = some ((zv n).set j 1) from idM_get hlt)] at N5
      rw [zv_bb] at a4
      have hr4' := row1_one (show (AV.sl h3.next 0 n n 1 true).one = true from rfl)
      simp [q0, q3, q14, q15, isLt (show (j : Int) < (n : Int) by omega), aalloc_make (P := Try.prog) el43 (z := [.int .u8 0]) az5 rfl rfl n n (Nat.le_refl _) (by omega), flat1, afill, ixv, a4, ldv, ixr, a5, i64w ((j : Int) + 1) (by omega) (by omega)]
      exact ⟨n - (j + 1), by omega, j + 1, rfl, by omega, by simp, N5⟩
    · have e : j = n := by omega
      subst e
      rw [sofar_all (idM_len j)] at N
      simp [q0, q3, q14, q15]
      exact N
  · rintro ⟨t, h3⟩ ⟨q3, N⟩
    simp only at q3 N
    simp [q3]
    exact N

end Go.Proofs.Ytangdhaihhgjkaa
/- Contracts of the field's functions. -/
namespace Go.Proofs.Ytangdhaihhgjkaa
open Go Go.YtangdhaihhgjkaaAbs
set_option linter.unusedSimpArgs false
set_option linter.unusedVariables false
set_option maxRecDepth 4000

theorem i64s {n : Int} (h : -9223372036854775808 ≤ n) (h' : n ≤ 9223372036854775807) : fwrap .i64 n = n := i64w n h h'
/-- A byte. -/
def bv (n : Nat) : AV := .int .u8 (n : Nat)
@[simp] theorem bv_one (n : Nat) : (bv n).one = true := rfl
theorem fwrap_u8 {n : Nat} (h : n < 256) : fwrap .u8 (n : Int) = (n : Int) := by
  simp [fwrap] <;> omega
/-- The cells of the field's tables. -/
def fieldC : List AV := (expL ++ logL).map bv
theorem expL_len : expL.length = 510 := by decide +kernel
theorem logL_len : logL.length = 256 := by decide +kernel
theorem fieldC_len : fieldC.length = 766 := by simp [fieldC, expL_len, logL_len]
theorem fieldC_exp {i : Nat} (h : i < 510) : fieldC[i]? = some (bv (pw i)) := by
  unfold fieldC
  rw [List.getElem?_map, List.getElem?_append_left (by rw [expL_len]; exact h), expL_get i h]
  rfl
theorem fieldC_log {a : Nat} (h : a < 256) : fieldC[510 + a]? = some (bv (lg a)) := by
  unfold fieldC
  rw [List.getElem?_map, List.getElem?_append_right (by rw [expL_len]; omega), expL_len, show 510 + a - 510 = a by omega, logL_get a h]
  rfl
theorem fieldC_one : fieldC.all AV.one = true := by
  unfold fieldC
  rw [List.all_map, List.all_eq_true]
  intro x _
  rfl

/-- A pointer to the tables. -/
def Fld (h : Heap) (v : AV) : Prop := ∃ b o c ro, v = .ptr b o ∧ b < h.next ∧ h.get b = some (.cells c ro) ∧ ∀ j, j < 766 → c[o + j]? = fieldC[j]?
theorem Fld.exp {h : Heap} {b o : Nat} {c : List AV} (hc : ∀ j, j < 766 → c[o + j]? = fieldC[j]?) {i : Nat} (hi : i < 510) : c[o + i]? = some (bv (pw i)) := by rw [hc i (by omega), fieldC_exp hi]
theorem Fld.log {h : Heap} {b o : Nat} {c : List AV} (hc : ∀ j, j < 766 → c[o + j]? = fieldC[j]?) {a : Nat} (ha : a < 256) : c[o + (510 + a)]? = some (bv (lg a)) := by rw [hc _ (by omega), fieldC_log ha]
theorem Fld.keep {h h' : Heap} {v : AV} {m : Nat} {F : Nat → Prop} (f : Fld h v) (K : Keep m F h h') (hv : ∀ b o, v = .ptr b o → b < m ∧ ¬ F b) : Fld h' v := by
  obtain ⟨b, o, c, ro, rfl, h0, h1, h2⟩ := f
  obtain ⟨k1, k2⟩ := hv b o rfl
  exact ⟨b, o, c, ro, rfl, Nat.lt_of_lt_of_le h0 K.1, by rw [K.2 b k1 k2]; exact h1, h2⟩
theorem Fld.ext {h h' : Heap} {v : AV} (f : Fld h v) (K : Keep h.next nob h h') : Fld h' v := by
  refine f.keep K ?_
  obtain ⟨b, o, c, ro, rfl, h0, _⟩ := f
  intro _ _ q
  cases q
  exact ⟨h0, id⟩

theorem inv_ok (k : Nat) (h : Heap) (v : AV) (f : Fld h v) (x : Nat) (hx : x < 256) :
    acall Try.prog (k + 1) 47 [v, .int .u8 (x : Nat)] h = some (.int .u8 (inv x : Nat), h) := by
  rw [acall_text [] Try.func47 (by kernel_rfl)]
  refine afuncT_of rfl (by simp [Try.f47]) ?_
  obtain ⟨b, o, c, ro, rfl, _, hb, hc⟩ := f
  by_cases h1 : x = 0
  · simp [Try.f47, h1, inv]
  · have l1 := lg_lt x hx
    have e1 := Fld.log (h := h) (b := b) hc hx
    have e3 := Fld.exp (h := h) (b := b) hc (i := 255 - lg x) (by omega)
    rw [← Nat.add_assoc] at e1
    have hx' : (x : Int) < 256 := by omega
    have hz' : (255 : Int) - (lg x : Int) < 510 := by omega
    have hz0 : 0 ≤ (255 : Int) - (lg x : Int) := by omega
    have hz1 : (lg x : Int) ≤ 255 := by omega
    have hz2 : ((255 : Int) - (lg x : Int)).toNat = 255 - lg x := by omega
    simp [Try.f47, h1, aindex, aload, Heap.row, hb, hx', hz', hz0, hz1, hz2, e1, e3, bv, i64w _ (show -9223372036854775808 ≤ (lg x : Int) by omega) (by omega), i64w ((255 : Int) - (lg x : Int)) (by omega) (by omega), inv]

/-! The tables are made. -/
def logs : Nat → List Nat
  | 0 => List.replicate 256 0
  | i + 1 => if i < 255 then (logs i).set (pw i) i else logs i
theorem logs_len : ∀ i, (logs i).length = 256
  | 0 => by simp [logs]
  | i + 1 => by
    simp only [logs]
    split
    · rw [List.length_set, logs_len i]
    · exact logs_len i
theorem logs_all : logs 510 = logL := by decide +kernel
def made (i : Nat) : List Nat := (expL.take i ++ List.replicate (510 - i) 0) ++ logs i
theorem made_len {i : Nat} (h : i ≤ 510) : (made i).length = 766 := by
  unfold made
  rw [List.length_append, List.length_append, List.length_take, List.length_replicate, logs_len, expL_len]
  omega
theorem made_exp {i : Nat} (h : i < 510) : (made i).set i (pw i) = (expL.take (i + 1) ++ List.replicate (510 - (i + 1)) 0) ++ logs i := by
  unfold made
  have l1 : (expL.take i).length = i := by rw [List.length_take, expL_len]; omega
  rw [List.set_append_left _ _ (by rw [List.length_append, List.length_replicate, l1]; omega), List.set_append_right _ _ (by rw [l1]; exact Nat.le_refl _), l1, Nat.sub_self, List.take_add_one, expL_get i h]
  congr 1
  rw [show 510 - i = (510 - (i + 1)) + 1 by omega, List.replicate_succ]
  simp
theorem made_succ {i : Nat} (h : i < 510) : made (i + 1) = if i < 255 then ((made i).set i (pw i)).set (510 + pw i) i else (made i).set i (pw i) := by
  rw [made_exp h]
  have l1 : (expL.take (i + 1) ++ List.replicate (510 - (i + 1)) 0).length = 510 := by rw [List.length_append, List.length_take, List.length_replicate, expL_len]; omega
  unfold made
  rw [logs]
  split
  · rw [List.set_append_right _ _ (by omega), l1, show 510 + pw i - 510 = pw i by omega]
  · rfl
theorem made_all : (made 510).map bv = fieldC := by
  unfold made fieldC
  rw [logs_all, show expL.take 510 = expL from List.take_of_length_le (by rw [expL_len]; exact Nat.le_refl _)]
  simp
theorem made_one (i : Nat) : ((made i).map bv).all AV.one = true := by
  rw [List.all_map, List.all_eq_true]
  intro x _
  rfl
theorem xor285 {x : Nat} (h : x < 512) : fwrap .i64 (((x % modulus .i64) ^^^ (285 % modulus .i64) : Nat) : Int) = ((x ^^^ 285 : Nat) : Int) := by
  have : x ^^^ 285 < 512 := Nat.xor_lt_two_pow (n := 9) h (by decide)
  have e1 : x % modulus .i64 = x := Nat.mod_eq_of_lt (by simp only [modulus]; omega)
  have e2 : 285 % modulus .i64 = 285 := by decide
  rw [e1, e2, i64w _ (by omega) (by omega)]

set_option maxHeartbeats 1000000 in
theorem make_ok (k : Nat) (hk : 600 < k) (h : Heap) : ∃ v h', acall Try.prog (k + 1) 43 [] h = some (v, h') ∧ v = .agg fieldC ∧ Keep h.next nob h h' := by
  rw [acall_text [] Try.func43 (by kernel_rfl)]
  refine afuncT_ex rfl (by simp [Try.f43]) ?_
  have hz : zz83 = (made 0).map bv := by
    unfold made zz83
    rw [logs, List.take_zero, List.nil_append, List.replicate_append_replicate, List.map_replicate]
    rfl
  simp [Try.f43, hz]
  refine W_cutLoop 0 (fun st => st.t.get 0 = some (.ptr h.next 0) ∧ st.t.get 1 = some (.ptr (h.next + 1) 0) ∧ st.h.get h.next = some (.cells ((made 0).map bv) false) ∧ st.h.get (h.next + 1) = some (.cells fieldC false) ∧ h.next + 1 < st.h.next ∧ Keep h.next nob h st.h) ?_ ?_
  · refine W_loop (fun m st => ∃ i, m = 510 - i ∧ i ≤ 510 ∧ st.t.get 0 = some (.ptr h.next 0) ∧ st.t.get 1 = some (.ptr (h.next + 1) 0) ∧ st.t.get 2 = some (.int .i64 (pw i : Nat)) ∧ st.t.get 4 = some (.int .i64 (i : Nat)) ∧
      st.h.get h.next = some (.cells ((made 0).map bv) false) ∧ st.h.get (h.next + 1) = some (.cells ((made i).map bv) false) ∧ h.next + 1 < st.h.next ∧ Keep h.next nob h st.h) 510 (by omega) ⟨0, by simp [pw, itx, Keep.trans (Keep.new (Nat.le_refl _) _) (Keep.new (Nat.le_succ _) _), Heap.get_new]⟩ ?_
    rintro m ⟨t, h1⟩ ⟨i, rfl, hi, q0, q1, q2, q4, b1, b2, hn, hk1⟩
    simp only at q0 q1 q2 q4 b1 b2 hn hk1
    by_cases hlt : i < 510
    · have hp := pw_lt i
      have hlen := made_len (i := i) (by omega)
      have w1 := fwrap_u8 hp
      have a1 := isLt (show (i : Int) < 510 by omega)
      have a2 : ((pw i : Nat) : Int) < 256 := by omega
      have g1 : ∀ u, layAt ((made i).map bv) i [.int .u8 (u : Nat)] = some (((made i).set i u).map bv) := fun u => by
        rw [layAt_set (by rw [List.length_map, hlen]; omega), List.map_set]; rfl
      have l1 : alay h1 (h.next + 1) i [.int .u8 (pw i : Nat)] = some (h1.set (h.next + 1) (.cells (((made i).set i (pw i)).map bv) false)) := by
        unfold alay
        rw [b2]
        simp only
        rw [g1]
      have g2 : (h1.set (h.next + 1) (.cells (((made i).set i (pw i)).map bv) false)).get (h.next + 1) = some (.cells (((made i).set i (pw i)).map bv) false) := get_set_self _ _ _
      have k2 : Keep h.next nob h (h1.set (h.next + 1) (.cells (((made i).set i (pw i)).map bv) false)) := hk1.trans (Keep.set (.inr (Nat.le_succ _)) _)
      have b3 : (h1.set (h.next + 1) (.cells (((made i).set i (pw i)).map bv) false)).get h.next = some (.cells ((made 0).map bv) false) := by rw [get_set_ne (by omega)]; exact b1
      have ms := made_succ hlt
      have hx2 : pw (i + 1) = xt (pw i) := rfl
      have hlen2 : ((made i).set i (pw i)).length = 766 := by rw [List.length_set]; exact hlen
      obtain ⟨d, hd⟩ : ∃ d, d = pw i * 2 := ⟨_, rfl⟩
      have sh : fwrap .i64 (((pw i : Nat) : Int) * 2) = (d : Nat) := by rw [i64w _ (by omega) (by omega), hd]; omega
      have w3 := i64w ((i : Int) + 1) (by omega) (by omega)
      have hxt : xt (pw i) = if pw i < 128 then d else d ^^^ 285 := by rw [hd, Nat.mul_comm]; rfl
      have hxd := xor285 (x := d) (by omega)
      generalize (made i).set i (pw i) = M at *
      generalize hM : h1.set (h.next + 1) (.cells (M.map bv) false) = h2 at *
      have hn2 : h.next + 1 < h2.next := by rw [← hM]; exact hn
      by_cases c1 : i < 255
      · rw [if_pos c1] at ms
        have l2 : alay h2 (h.next + 1) (510 + pw i) [.int .u8 (i : Nat)] = some (h2.set (h.next + 1) (.cells ((M.set (510 + pw i) i).map bv) false)) := by
          unfold alay
          rw [g2]
          simp only
          rw [layAt_set (by rw [List.length_map, hlen2]; omega), List.map_set]
          rfl
        have c1' := isLt (show (i : Int) < 255 by omega)
        have w2 := fwrap_u8 (n := i) (by omega)
        have l3 : (h2.set (h.next + 1) (.cells ((M.set (510 + pw i) i).map bv) false)).get (h.next + 1) = some (.cells ((M.set (510 + pw i) i).map bv) false) := get_set_self _ _ _
        have l4 : (h2.set (h.next + 1) (.cells ((M.set (510 + pw i) i).map bv) false)).get h.next = some (.cells ((made 0).map bv) false) := by rw [get_set_ne (by omega)]; exact b3
        have l5 : Keep h.next nob h (h2.set (h.next + 1) (.cells ((M.set (510 + pw i) i).map bv) false)) := k2.trans (Keep.set (.inr (Nat.le_succ _)) _)
        have l6 : h.next + 1 < (h2.set (h.next + 1) (.cells ((M.set (510 + pw i) i).map bv) false)).next := hn2
        rw [← ms] at l2 l3 l4 l5 l6
        generalize h2.set (h.next + 1) (.cells ((made (i + 1)).map bv) false) = h3 at *
        by_cases c2 : pw i < 128
        · rw [if_pos c2] at hxt
          have c2' : ¬ (255 : Int) < (d : Int) := by omega
          have c3' : (d : Int) ≤ 255 := by omega
          simp [q0, q1, q2, q4, a1, w1, aindex, AV.row1, AV.row, AV.one, l1, c1', a2, w2, l2, sh, c2', c3', w3]
          exact ⟨510 - (i + 1), by omega, i + 1, rfl, by omega, by rw [hx2, hxt], by omega, l4, l3, l6, l5⟩
        · rw [if_neg c2] at hxt
          have c2' : (255 : Int) < (d : Int) := by omega
          have c3' : ¬ (d : Int) ≤ 255 := by omega
          simp [q0, q1, q2, q4, a1, w1, aindex, AV.row1, AV.row, AV.one, l1, c1', a2, w2, l2, sh, c2', c3', w3, hxd]
          exact ⟨510 - (i + 1), by omega, i + 1, rfl, by omega, by rw [hx2, hxt], by omega, l4, l3, l6, l5⟩
      · rw [if_neg c1] at ms
        have c1' := isLe (show (255 : Int) ≤ (i : Int) by omega)
        rw [← ms] at g2
        by_cases c2 : pw i < 128
        · rw [if_pos c2] at hxt
          have c2' : ¬ (255 : Int) < (d : Int) := by omega
          have c3' : (d : Int) ≤ 255 := by omega
          simp [q0, q1, q2, q4, a1, w1, aindex, AV.row1, AV.row, AV.one, l1, c1', sh, c2', c3', w3]
          exact ⟨510 - (i + 1), by omega, i + 1, rfl, by omega, by rw [hx2, hxt], by omega, b3, g2, hn2, k2⟩
        · rw [if_neg c2] at hxt
          have c2' : (255 : Int) < (d : Int) := by omega
          have c3' : ¬ (d : Int) ≤ 255 := by omega
          simp [q0, q1, q2, q4, a1, w1, aindex, AV.row1, AV.row, AV.one, l1, c1', sh, c2', c3', w3, hxd]
          exact ⟨510 - (i + 1), by omega, i + 1, rfl, by omega, by rw [hx2, hxt], by omega, b3, g2, hn2, k2⟩
    · have : i = 510 := by omega
      subst this
      rw [made_all] at b2
      simp [q4, q0, q1, b1, b2, hn, hk1]
  rintro ⟨t, h1⟩ ⟨q0, q1, b1, b2, hn, hk1⟩
  simp only at q0 q1 b1 b2 hn hk1
  have hl : fieldC.length ≤ 766 := by rw [fieldC_len]; exact Nat.le_refl _
  have ht : fieldC.take 766 = fieldC := List.take_of_length_le hl
  have ho : fieldC.all AV.one = true := fieldC_one
  have lay : alay h1 h.next 0 fieldC = some (h1.set h.next (.cells fieldC false)) := by
    unfold alay
    rw [b1]
    simp only
    rw [layAt_all _ _ _ (by rw [List.length_map, made_len (by omega), fieldC_len]; omega)]
    have : ((made 0).map bv).drop (0 + fieldC.length) = [] := List.drop_of_length_le (by rw [List.length_map, made_len (by omega), fieldC_len]; omega)
    rw [this]
    simp
  have row : (AV.agg fieldC).row1 = some fieldC := by simp [AV.row1, AV.row, fieldC_one]
  simp [q0, q1, aload, Heap.row, b2, fieldC_len, ht, row, lay]
  exact hk1.trans (Keep.set (.inr (Nat.le_refl _)) _)
end Go.Proofs.Ytangdhaihhgjkaa
/- Contracts of the field's other functions, and of the document's own. -/
namespace Go.Proofs.Ytangdhaihhgjkaa
open Go Go.YtangdhaihhgjkaaAbs
set_option linter.unusedSimpArgs false
set_option linter.unusedVariables false
set_option maxRecDepth 4000

theorem xor_u8 (a b : UInt8) : fwrap .u8 (((a.toNat % modulus .u8) ^^^ (b.toNat % modulus .u8) : Nat) : Int) = (((a ^^^ b).toNat : Nat) : Int) := by
  have e1 : a.toNat % modulus .u8 = a.toNat := Nat.mod_eq_of_lt (b_lt a)
  have e2 : b.toNat % modulus .u8 = b.toNat := Nat.mod_eq_of_lt (b_lt b)
  rw [e1, e2, ← UInt8.toNat_xor, fwrap_u8 (b_lt _)]
theorem fwrap_b (a : UInt8) : fwrap .u8 (a.toNat : Int) = (a.toNat : Nat) := fwrap_u8 (b_lt a)
theorem fwrap_b64 (a : UInt8) : fwrap .i64 (a.toNat : Int) = (a.toNat : Nat) := i64w _ (by omega) (by have := b_lt a; omega)
theorem invB_ok (k : Nat) (h : Heap) (v : AV) (f : Fld h v) (x : UInt8) :
    acall Try.prog (k + 1) 47 [v, .int .u8 (x.toNat : Nat)] h = some (.int .u8 ((gi x).toNat : Nat), h) := by
  rw [inv_ok k h v f _ (b_lt x), gi_toNat]
def dotN (a b : List UInt8) (j : Nat) : UInt8 := ((List.zipWith gm a b).take j).foldl (· ^^^ ·) 0
theorem dotN_succ {a b : List UInt8} {j : Nat} {x y : UInt8} (hx : a[j]? = some x) (hy : b[j]? = some y) : dotN a b (j + 1) = dotN a b j ^^^ gm x y := by
  unfold dotN
  rw [List.take_add_one, List.getElem?_zipWith, hx, hy, List.foldl_append]
  rfl
theorem dotN_all {a b : List UInt8} {j : Nat} (h : j = min a.length b.length) : dotN a b j = dot a b := by
  unfold dotN dot
  rw [List.take_of_length_le (by rw [List.length_zipWith]; omega)]

theorem b_same {x y : UInt8} (h : x = y) : (((x.toNat : Nat) : Int) = ((y.toNat : Nat) : Int)) = True ∧ (x.toNat = y.toNat) = True ∧ (x = y) = True := ⟨eq_true (by rw [h]), eq_true (by rw [h]), eq_true h⟩
theorem b_is0 {x : UInt8} (h : x = 0) : (((x.toNat : Nat) : Int) = 0) = True ∧ (x.toNat = 0) = True ∧ (x = 0) = True := ⟨eq_true (by rw [h]; rfl), eq_true (by rw [h]; rfl), eq_true h⟩
theorem b_is1 {x : UInt8} (h : x = 1) : (((x.toNat : Nat) : Int) = 1) = True ∧ (x.toNat = 1) = True ∧ (x = 1) = True := ⟨eq_true (by rw [h]; rfl), eq_true (by rw [h]; rfl), eq_true h⟩
theorem b_not0 {x : UInt8} (h : x ≠ 0) : (((x.toNat : Nat) : Int) = 0) = False ∧ (x.toNat = 0) = False ∧ (x = 0) = False := ⟨eq_false (fun q => h (b_zero.2 (by omega))), eq_false (fun q => h (b_zero.2 q)), eq_false h⟩
end Go.Proofs.Ytangdhaihhgjkaa
/- matrix.add, matrix.reduce. -/
namespace Go.Proofs.Ytangdhaihhgjkaa
open Go Go.YtangdhaihhgjkaaAbs
set_option linter.unusedSimpArgs false
set_option linter.unusedVariables false
set_option maxRecDepth 4000

/-- The first j of one, the others of the other. -/
def mixL {α : Type} (X Y : List α) (j : Nat) : List α := X.take j ++ Y.drop j
theorem mixL_len {α : Type} {X Y : List α} (h : X.length = Y.length) (j : Nat) : (mixL X Y j).length = Y.length := by
  unfold mixL
  rw [List.length_append, List.length_take, List.length_drop]; omega
theorem mixL_get {α : Type} {X Y : List α} (h : X.length = Y.length) {i j : Nat} (hj : j ≤ i) : (mixL X Y j)[i]? = Y[i]? := by
  unfold mixL
  by_cases hl : j ≤ X.length
  · rw [List.getElem?_append_right (by rw [List.length_take]; omega), List.getElem?_drop, List.length_take]
    congr 1; omega
  · rw [List.getElem?_eq_none (by rw [List.length_append, List.length_take, List.length_drop]; omega), List.getElem?_eq_none (by omega)]
theorem mixL_set {α : Type} {X Y : List α} (h : X.length = Y.length) {j : Nat} {x : α} (hx : X[j]? = some x) : (mixL X Y j).set j x = mixL X Y (j + 1) := by
  have hj := (List.getElem?_eq_some_iff.1 hx).1
  refine List.ext_getElem? fun i => ?_
  unfold mixL
  by_cases hij : j = i
  · subst hij
    rw [List.getElem?_set_self (by rw [List.length_append, List.length_take, List.length_drop]; omega), List.getElem?_append_left (by rw [List.length_take]; omega), List.getElem?_take, if_pos (by omega), hx]
  · rw [List.getElem?_set_ne hij]
    by_cases hi : i < j
    · rw [List.getElem?_append_left (by rw [List.length_take]; omega), List.getElem?_append_left (by rw [List.length_take]; omega), List.getElem?_take, List.getElem?_take, if_pos hi, if_pos (by omega)]
    · rw [List.getElem?_append_right (by rw [List.length_take]; omega), List.getElem?_append_right (by rw [List.length_take]; omega), List.getElem?_drop, List.getElem?_drop, List.length_take, List.length_take]
      congr 1; omega
theorem mixL_0 {α : Type} (X Y : List α) : mixL X Y 0 = Y := by simp [mixL]
theorem mixL_all {α : Type} {X Y : List α} (h : X.length = Y.length) : mixL X Y X.length = X := by
  unfold mixL
  rw [List.take_length, List.drop_eq_nil_of_le (by omega), List.append_nil]
theorem addL_at {a b : Vc} {j : Nat} {x y : UInt8} (hx : a[j]? = some x) (hy : b[j]? = some y) : (addL a b)[j]? = some (x ^^^ y) := by
  unfold addL
  rw [List.getElem?_zipWith, hx, hy]
theorem smul_at {c : UInt8} {a : Vc} {j : Nat} {x : UInt8} (hx : a[j]? = some x) : (smul c a)[j]? = some (gm c x) := by
  unfold smul
  rw [List.getElem?_map, hx]; rfl
/-- Apart from a block. -/
def Off (fv : AV) (F : Nat → Prop) : Prop := ∀ b o, fv = .ptr b o → ¬ F b
theorem fld_keep {h h' : Heap} {fv : AV} {F : Nat → Prop} (f : Fld h fv) (K : Keep h.next F h h') (hF : Off fv F) : Fld h' fv := by
  obtain ⟨b, o, c, ro, rfl, h1, h2, h3⟩ := f
  exact ⟨b, o, c, ro, rfl, Nat.lt_of_lt_of_le h1 K.1, by rw [K.2 b h1 (hF b o rfl)]; exact h2, h3⟩

/-- Rows that are worked on. -/
structure Wk (h0 h : Heap) (F : List Nat) (v : AV) (rs : List AV) (A : Mt) : Prop where
  rows : RowsO fb 1 h v rs A
  ap : Apart (v :: rs)
  inn : ∀ d, d ∈ blks (v :: rs) → d ∈ F
  kp : Keep h0.next (fun d => d ∈ F) h0 h
  lt : ∀ d, d ∈ F → d < h0.next
section
variable {h0 h h1 : Heap} {F : List Nat} {v : AV} {rs : List AV} {A : Mt}
theorem Wk.mine (W : Wk h0 h F v rs A) {j : Nat} (hj : j < A.length) : ∃ r, rs[j]? = some r ∧ Mine 1 (rowA A j).length h r ((rowA A j).map bb) := by
  obtain ⟨r, h1, h2⟩ := W.rows.row (rowA_mem hj).1
  rw [cat_fb] at h2
  exact ⟨r, h1, h2⟩
theorem Wk.put (W : Wk h0 h F v rs A) {j : Nat} {r : AV} (hr : rs[j]? = some r) {L : Vc} (K1 : Keep h.next (Has r) h h1) (Mr : Mine 1 L.length h1 r (L.map bb)) : Wk h0 h1 F v rs (A.set j L) := by
  refine ⟨rows_put W.rows W.ap hr K1 (by rw [cat_fb]; exact Mr), W.ap, W.inn, W.kp.trans (K1.weak W.kp.1 fun d _ hd => W.inn d (mem_blks.2 ⟨r, List.mem_cons.2 (.inr (List.mem_of_getElem? hr)), hd⟩)), W.lt⟩
theorem Wk.ext (W : Wk h0 h F v rs A) (K : Keep h.next nob h h1) : Wk h0 h1 F v rs A :=
  ⟨W.rows.ext K, W.ap, W.inn, W.kp.trans (K.weak W.kp.1 fun _ _ q => q.elim), W.lt⟩
theorem Wk.ne (W : Wk h0 h F v rs A) {i j : Nat} {r s : AV} (hi : rs[i]? = some r) (hj : rs[j]? = some s) (hij : i ≠ j) {d : Nat} (hd : Has r d) : ¬ Has s d := fun q => by
  have := W.ap.get (i := i + 1) (j := j + 1) (v := r) (w := s) (by simpa using hi) (by simpa using hj) hd q
  omega
theorem blks_perm {l m : List AV} (p : l.Perm m) : (blks l).Perm (blks m) := by unfold blks; exact p.filterMap _
theorem Wk.swap (W : Wk h0 h F v rs A) {i j : Nat} {x y : AV} (hi : rs[i]? = some x) (hj : rs[j]? = some y) : ∃ h1 h2, alay h v.blk (v.off + i) [y] = some h1 ∧ alay h1 v.blk (v.off + j) [x] = some h2 ∧ Wk h0 h2 F v ((rs.set i y).set j x) (swpA A i j) := by
  have hil := (List.getElem?_eq_some_iff.1 hi).1
  have hjl := (List.getElem?_eq_some_iff.1 hj).1
  have hlen := W.rows.len
  have xo : x.one = true := by
    have := W.rows.each i x _ hi (rowA_mem (i := i) (by omega)).1
    exact this.oneV
  have yo : y.one = true := by
    have := W.rows.each j y _ hj (rowA_mem (i := j) (by omega)).1
    exact this.oneV
  obtain ⟨h1, a1, a2, a3, a4⟩ := W.rows.own.lay1 (x := y) hil yo
  obtain ⟨h2, b1, b2, b3, b4⟩ := a2.lay1 (x := x) hjl xo
  have K : Keep h.next (Has v) h h2 := a3.trans (b3.weak a3.1 fun _ _ q => q)
  have perm : ((rs.set i y).set j x).Perm rs := by
    have e1 : rs[i] = x := (List.getElem?_eq_some_iff.1 hi).2
    have e2 : rs[j] = y := (List.getElem?_eq_some_iff.1 hj).2
    have := @List.set_set_perm _ rs i j hil hjl
    rwa [e1, e2] at this
  have bp : (blks (v :: (rs.set i y).set j x)).Perm (blks (v :: rs)) := blks_perm (perm.cons v)
  have nv : ∀ {k : Nat} {u : AV} {d : Nat}, rs[k]? = some u → Has u d → ¬ Has v d := fun {k u d} hk hu hv => by
    have := W.ap.get (i := k + 1) (j := 0) (v := u) (w := v) (by simpa using hk) rfl hu hv
    omega
  refine ⟨h1, h2, a1, b1, ⟨by simpa using b2, by simp [swpA, hlen], fun k u L hu hL => ?_⟩, ?_, fun d hd => W.inn d (bp.mem_iff.1 hd), W.kp.trans (K.weak W.kp.1 fun d _ hd => W.inn d (mem_blks.2 ⟨v, by simp, hd⟩)), W.lt⟩
  · have key : ∀ (k' : Nat) (u : AV) (L : Vc), rs[k']? = some u → A[k']? = some L → Mine 1 L.length h2 u (cat fb L) := fun k' u L hu hL => (W.rows.each k' u L hu hL).keep K fun d hd => nv hu hd
    have hkl : k < rs.length := by
      have := (List.getElem?_eq_some_iff.1 hu).1
      simpa using this
    have eL : L = rowA (swpA A i j) k := (rowA_get hL).symm
    rw [swpA_row (by omega) (by omega)] at eL
    by_cases q1 : k = j
    · subst q1
      rw [List.getElem?_set_self (by simpa using hjl)] at hu
      cases hu
      rw [if_pos rfl] at eL
      rw [eL]
      exact key i x _ hi (rowA_mem (by omega)).1
    · rw [List.getElem?_set_ne (Ne.symm q1)] at hu
      rw [if_neg q1] at eL
      by_cases q2 : k = i
      · subst q2
        rw [List.getElem?_set_self hil] at hu
        cases hu
        rw [if_pos rfl] at eL
        rw [eL]
        exact key j y _ hj (rowA_mem (by omega)).1
      · rw [List.getElem?_set_ne (Ne.symm q2)] at hu
        rw [if_neg q2] at eL
        rw [eL]
        exact key k u _ hu (rowA_mem (by omega)).1
  · have := W.ap
    unfold Apart at this ⊢
    exact bp.nodup_iff.2 this
end
end Go.Proofs.Ytangdhaihhgjkaa
/- Cauchy's rows: whichever so many are taken, they are apart. -/
namespace Go.Proofs.Ytangdhaihhgjkaa
set_option linter.unusedSimpArgs false
set_option linter.unusedVariables false

instance : Std.Associative gm := ⟨gm_assoc⟩
instance : Std.Commutative gm := ⟨gm_comm⟩
def sm {α : Type} (f : α → UInt8) : List α → UInt8
  | [] => 0
  | a :: l => f a ^^^ sm f l
theorem sm_congr {α : Type} {f g : α → UInt8} : ∀ {l : List α}, (∀ a, a ∈ l → f a = g a) → sm f l = sm g l
  | [], _ => rfl
  | a :: l, h => by simp only [sm]; rw [h a (List.mem_cons_self ..), sm_congr fun b hb => h b (List.mem_cons_of_mem _ hb)]
theorem sm_zero {α : Type} {f : α → UInt8} : ∀ {l : List α}, (∀ a, a ∈ l → f a = 0) → sm f l = 0
  | [], _ => rfl
  | a :: l, h => by simp only [sm]; rw [h a (List.mem_cons_self ..), sm_zero fun b hb => h b (List.mem_cons_of_mem _ hb)]; rfl
theorem sm_filter {α : Type} {f : α → UInt8} {q : α → Bool} : ∀ {l : List α}, (∀ a, a ∈ l → q a = false → f a = 0) → sm f l = sm f (l.filter q)
  | [], _ => rfl
  | a :: l, h => by
    have ih := sm_filter (f := f) (q := q) (l := l) fun b hb => h b (List.mem_cons_of_mem _ hb)
    cases hq : q a with
    | true => rw [List.filter_cons_of_pos hq]; simp only [sm]; rw [ih]
    | false => rw [List.filter_cons_of_neg (by simp [hq])]; simp only [sm]; rw [h a (List.mem_cons_self ..) hq, ih, UInt8.zero_xor]
theorem sm_map {α β : Type} {f : β → UInt8} {g : α → β} : ∀ l : List α, sm f (l.map g) = sm (fun a => f (g a)) l
  | [] => rfl
  | a :: l => by simp only [sm, List.map_cons]; rw [sm_map l]
theorem sm_mul {α : Type} {f : α → UInt8} (c : UInt8) : ∀ l : List α, gm c (sm f l) = sm (fun a => gm c (f a)) l
  | [] => gm_zero c
  | a :: l => by simp only [sm]; rw [gm_xor, sm_mul c l]
theorem sm_add {α : Type} {f g : α → UInt8} : ∀ l : List α, sm f l ^^^ sm g l = sm (fun a => f a ^^^ g a) l
  | [] => UInt8.xor_zero
  | a :: l => by simp only [sm]; rw [xor4b, sm_add l]
theorem sm_one {α : Type} {f : α × UInt8 → UInt8} : ∀ {l : List (α × UInt8)} {p : α × UInt8}, (l.map (·.1)).Nodup → p ∈ l → (∀ q, q ∈ l → q.1 ≠ p.1 → f q = 0) → sm f l = f p
  | [], p, _, hp, _ => by cases hp
  | a :: l, p, hn, hp, h => by
    rw [List.map_cons, List.nodup_cons] at hn
    simp only [sm]
    rcases List.mem_cons.1 hp with rfl | hp
    · rw [sm_zero fun q hq => h q (List.mem_cons_of_mem _ hq) fun e => hn.1 (List.mem_map.2 ⟨q, hq, e⟩), UInt8.xor_zero]
    · rw [h a (List.mem_cons_self ..) (fun e => hn.1 (List.mem_map.2 ⟨p, hp, e.symm⟩)), UInt8.zero_xor]
      exact sm_one hn.2 hp fun q hq => h q (List.mem_cons_of_mem _ hq)
theorem dot_sm (g : Nat → UInt8) : ∀ (w : Vc) (sel : List Nat), dot w (sel.map g) = sm (fun p : Nat × UInt8 => gm p.2 (g p.1)) (sel.zip w)
  | [], sel => by simp [dot_nil, sm]
  | x :: w, [] => by simp [dot_nil', sm]
  | x :: w, s :: sel => by simp only [List.map_cons, List.zip_cons_cons, sm]; rw [dot_cons, dot_sm g w sel]
theorem xor_ne {a b : UInt8} (h : a ≠ b) : a ^^^ b ≠ 0 := fun q => h (UInt8.xor_eq_zero_iff.1 q)
theorem mul_shift (a b c : UInt8) : gm a (gm b c) = gm b (gm a c) := by rw [← gm_assoc, gm_comm a b, gm_assoc]
/-- One summand: the sums of two columns. -/
theorem cau_one {s1 s w j j0 : UInt8} (h : s ≠ j) (h0 : s ≠ j0) :
    gm (j ^^^ j0) (gm (gm w (gm (s1 ^^^ s) (gi (s ^^^ j0)))) (gi (s ^^^ j))) = gm (s1 ^^^ j) (gm w (gi (s ^^^ j))) ^^^ gm (s1 ^^^ j0) (gm w (gi (s ^^^ j0))) := by
  have e1 : s1 ^^^ j = (s1 ^^^ s) ^^^ (s ^^^ j) := by rw [UInt8.xor_assoc, ← UInt8.xor_assoc s s j, UInt8.xor_self, UInt8.zero_xor]
  have e2 : s1 ^^^ j0 = (s1 ^^^ s) ^^^ (s ^^^ j0) := by rw [UInt8.xor_assoc, ← UInt8.xor_assoc s s j0, UInt8.xor_self, UInt8.zero_xor]
  have e3 : j ^^^ j0 = (s ^^^ j) ^^^ (s ^^^ j0) := by
    rw [UInt8.xor_comm s j, UInt8.xor_assoc, ← UInt8.xor_assoc s s j0, UInt8.xor_self, UInt8.zero_xor]
  rw [e1, e2, e3]
  have i1 := gm_gi (xor_ne h)
  have i2 := gm_gi (xor_ne h0)
  generalize s ^^^ j = a at *
  generalize s ^^^ j0 = a0 at *
  generalize s1 ^^^ s = d at *
  generalize gi a = ia at *
  generalize gi a0 = ia0 at *
  have l1 : gm a (gm (gm w (gm d ia0)) ia) = gm d (gm w ia0) := by
    have : gm a (gm (gm w (gm d ia0)) ia) = gm (gm a ia) (gm d (gm w ia0)) := by ac_rfl
    rw [this, i1, one_gm]
  have l2 : gm a0 (gm (gm w (gm d ia0)) ia) = gm d (gm w ia) := by
    have : gm a0 (gm (gm w (gm d ia0)) ia) = gm (gm a0 ia0) (gm d (gm w ia)) := by ac_rfl
    rw [this, i2, one_gm]
  have r1 : gm a (gm w ia) = w := by
    have : gm a (gm w ia) = gm (gm a ia) w := by ac_rfl
    rw [this, i1, one_gm]
  have r2 : gm a0 (gm w ia0) = w := by
    have : gm a0 (gm w ia0) = gm (gm a0 ia0) w := by ac_rfl
    rw [this, i2, one_gm]
  rw [xor_gm, xor_gm, xor_gm, l1, l2, r1, r2, xor4b, UInt8.xor_self, UInt8.xor_zero, UInt8.xor_comm]
/-- So many summands that come to nought at so many places are nought. -/
theorem cau_zero : ∀ (L : List (UInt8 × UInt8)) (J : List UInt8), L.length = J.length → (L.map (·.1)).Nodup → J.Nodup → (∀ p, p ∈ L → ∀ j, j ∈ J → p.1 ≠ j) → (∀ j, j ∈ J → sm (fun p : UInt8 × UInt8 => gm p.2 (gi (p.1 ^^^ j))) L = 0) → ∀ p, p ∈ L → p.2 = 0
  | [], _, _, _, _, _, _, p, hp => by cases hp
  | (s1, w1) :: L, [], h, _, _, _, _, _, _ => by cases h
  | (s1, w1) :: L, j0 :: J, h, hs, hj, hd, h0, p, hp => by
    rw [List.map_cons, List.nodup_cons] at hs
    rw [List.nodup_cons] at hj
    have f0 := h0 j0 (List.mem_cons_self ..)
    simp only [sm] at f0
    have ih := cau_zero (L.map fun p => (p.1, gm p.2 (gm (s1 ^^^ p.1) (gi (p.1 ^^^ j0))))) J (by simpa using h) (by rw [List.map_map]; exact hs.2) hj.2 (fun p hp j hjJ => by
        obtain ⟨q, hq, rfl⟩ := List.mem_map.1 hp
        exact hd q (List.mem_cons_of_mem _ hq) j (List.mem_cons_of_mem _ hjJ)) fun j hjJ => by
      have fj := h0 j (List.mem_cons_of_mem _ hjJ)
      simp only [sm] at fj
      have hne : j ≠ j0 := fun q => hj.1 (by rw [← q]; exact hjJ)
      have d1 : s1 ≠ j := hd (s1, w1) (List.mem_cons_self ..) j (List.mem_cons_of_mem _ hjJ)
      have d0 : s1 ≠ j0 := hd (s1, w1) (List.mem_cons_self ..) j0 (List.mem_cons_self ..)
      have key : gm (j ^^^ j0) (sm (fun p : UInt8 × UInt8 => gm p.2 (gi (p.1 ^^^ j))) (L.map fun p => (p.1, gm p.2 (gm (s1 ^^^ p.1) (gi (p.1 ^^^ j0)))))) = 0 := by
        rw [sm_map, sm_mul, sm_congr (g := fun p : UInt8 × UInt8 => gm (s1 ^^^ j) (gm p.2 (gi (p.1 ^^^ j))) ^^^ gm (s1 ^^^ j0) (gm p.2 (gi (p.1 ^^^ j0)))) fun p hp => cau_one (hd p (List.mem_cons_of_mem _ hp) j (List.mem_cons_of_mem _ hjJ)) (hd p (List.mem_cons_of_mem _ hp) j0 (List.mem_cons_self ..)), ← sm_add, ← sm_mul, ← sm_mul]
        have a1 : sm (fun p : UInt8 × UInt8 => gm p.2 (gi (p.1 ^^^ j))) L = gm w1 (gi (s1 ^^^ j)) := (UInt8.xor_eq_zero_iff.1 fj).symm
        have a2 : sm (fun p : UInt8 × UInt8 => gm p.2 (gi (p.1 ^^^ j0))) L = gm w1 (gi (s1 ^^^ j0)) := (UInt8.xor_eq_zero_iff.1 f0).symm
        rw [a1, a2, mul_shift, gm_gi (xor_ne d1), mul_shift, gm_gi (xor_ne d0), UInt8.xor_self]
      exact ((gm_eq_zero _ _).1 key).resolve_left (xor_ne hne)
    have tl : ∀ q, q ∈ L → q.2 = 0 := fun q hq => by
      have := ih _ (List.mem_map.2 ⟨q, hq, rfl⟩)
      simp only at this
      have n1 : s1 ≠ q.1 := fun e => hs.1 (List.mem_map.2 ⟨q, hq, e.symm⟩)
      rcases (gm_eq_zero _ _).1 this with z | z
      · exact z
      · rcases (gm_eq_zero _ _).1 z with z | z
        · exact absurd z (xor_ne n1)
        · exact absurd z (gi_ne (xor_ne (hd q (List.mem_cons_of_mem _ hq) j0 (List.mem_cons_self ..))))
    rcases List.mem_cons.1 hp with rfl | hp
    · rw [sm_zero fun q hq => by rw [tl q hq, zero_gm], UInt8.xor_zero] at f0
      rcases (gm_eq_zero _ _).1 f0 with z | z
      · exact z
      · exact absurd z (gi_ne (xor_ne (hd (s1, w1) (List.mem_cons_self ..) j0 (List.mem_cons_self ..))))
    · exact tl p hp
/-! The rows. -/
def gB (k s j : Nat) : UInt8 := if s < k then (if s = j then 1 else 0) else gi (UInt8.ofNat s ^^^ UInt8.ofNat j)
def cauR (k s : Nat) : Vc := (List.range k).map (gB k s)
def cauM (k m : Nat) : Mt := (List.range (k + m)).map (cauR k)
@[simp] theorem cauR_len (k s : Nat) : (cauR k s).length = k := by simp [cauR]
theorem cauM_rows (k m : Nat) : RowsN k (cauM k m) := fun r hr => by
  obtain ⟨s, _, rfl⟩ := List.mem_map.1 hr
  simp
theorem cauR_id {k s : Nat} (h : s < k) : cauR k s = ev1 k s := by
  refine vc_ext (by simp) fun j hj => ?_
  have hj : j < k := by simpa using hj
  rw [ev1_get k s j hj]
  unfold cauR gB
  rw [List.getElem?_map, List.getElem?_range hj]
  simp [h]
theorem ofNat_ne {a b : Nat} (ha : a < 256) (hb : b < 256) (h : a ≠ b) : UInt8.ofNat a ≠ UInt8.ofNat b := fun q => h (by
  have := congrArg UInt8.toNat q
  rwa [ofNat_toNat ha, ofNat_toNat hb] at this)
theorem filter_split {α : Type} (q : α → Bool) (l : List α) : (l.filter q).length + (l.filter fun a => !q a).length = l.length := by
  induction l with
  | nil => rfl
  | cons a l ih => cases h : q a <;> simp [h] <;> omega
theorem cau_apart {k : Nat} (hk : k ≤ 200) {sel : List Nat} (hl : sel.length = k) (hn : sel.Nodup) (hs : ∀ s, s ∈ sel → s < 256) : rankA k (sel.map (cauR k)) = k := by
  have hR : RowsN k (sel.map (cauR k)) := fun r hr => by
    obtain ⟨s, _, rfl⟩ := List.mem_map.1 hr
    simp
  have := rank_full hR fun w hw e => ?_
  · rw [this, List.length_map, hl]
  rw [List.length_map, hl] at hw ⊢
  have z1 : (sel.zip w).map (·.1) = sel := List.map_fst_zip (by omega)
  have col : ∀ j, j < k → sm (fun p : Nat × UInt8 => gm p.2 (gB k p.1 j)) (sel.zip w) = 0 := fun j hj => by
    have := congrArg (fun x : Vc => x[j]?.getD 0) e
    simp only [lc_get j hR, zv_get] at this
    rw [← dot_sm (fun s => gB k s j), ← this]
    congr 1
    unfold colM
    rw [List.map_map]
    refine List.map_congr_left fun s _ => ?_
    show gB k s j = _
    simp only [Function.comp]
    unfold cauR
    rw [List.getElem?_map, List.getElem?_range hj]; rfl
  -- Cauchy's own
  have cz : ∀ p, p ∈ sel.zip w → k ≤ p.1 → p.2 = 0 := by
    have nd : ((sel.zip w).filter fun p => decide (k ≤ p.1)).map (·.1) = sel.filter fun s => decide (k ≤ s) := by
      conv => rhs; rw [← z1]
      rw [List.filter_map]; rfl
    have mz : ∀ p, p ∈ sel.zip w → p.1 ∈ sel := fun p hp => by rw [← z1]; exact List.mem_map.2 ⟨p, hp, rfl⟩
    have n1 := filter_split (fun s => decide (k ≤ s)) sel
    have n2 := filter_split (fun j => decide (j ∈ sel)) (List.range k)
    have n3 : ((List.range k).filter fun j => decide (j ∈ sel)).length = (sel.filter fun s => !decide (k ≤ s)).length := by
      refine Nat.le_antisymm (nodup_sub ((List.nodup_range).filter _) fun x hx => ?_) (nodup_sub (hn.filter _) fun x hx => ?_)
      · rw [List.mem_filter] at hx ⊢
        have a := List.mem_range.1 hx.1
        exact ⟨by simpa using hx.2, by simpa using a⟩
      · rw [List.mem_filter] at hx ⊢
        exact ⟨List.mem_range.2 (by simpa using hx.2), by simpa using hx.1⟩
    rw [List.length_range] at n2
    have := cau_zero (((sel.zip w).filter fun p => decide (k ≤ p.1)).map fun p => (UInt8.ofNat p.1, p.2)) (((List.range k).filter fun j => !decide (j ∈ sel)).map UInt8.ofNat)
      (by
        have := congrArg List.length nd
        rw [List.length_map] at this
        rw [List.length_map, List.length_map, this]
        omega)
      (by
        rw [List.map_map]
        have e : ((sel.zip w).filter fun p => decide (k ≤ p.1)).map ((·.1) ∘ fun p : Nat × UInt8 => (UInt8.ofNat p.1, p.2)) = (sel.filter fun s => decide (k ≤ s)).map UInt8.ofNat := by
          rw [← nd, List.map_map]; rfl
        rw [e]
        refine List.Pairwise.map _ (R := fun a b => a ≠ b ∧ a < 256 ∧ b < 256) (fun a b h => ofNat_ne h.2.1 h.2.2 h.1) ?_
        exact List.Pairwise.imp_of_mem (fun {a b} ha hb h => ⟨h, hs a ((List.mem_filter.1 ha).1), hs b ((List.mem_filter.1 hb).1)⟩) (hn.filter _))
      (by
        refine List.Pairwise.map _ (R := fun a b => a ≠ b ∧ a < 256 ∧ b < 256) (fun a b h => ofNat_ne h.2.1 h.2.2 h.1) ?_
        exact List.Pairwise.imp_of_mem (fun {a b} ha hb h => ⟨h, by have := List.mem_range.1 ((List.mem_filter.1 ha).1); omega, by have := List.mem_range.1 ((List.mem_filter.1 hb).1); omega⟩) ((List.nodup_range).filter _))
      (fun p hp j hj => by
        obtain ⟨q, hq, rfl⟩ := List.mem_map.1 hp
        obtain ⟨i, hi, rfl⟩ := List.mem_map.1 hj
        have a := (List.mem_filter.1 hq).2
        have b := List.mem_range.1 ((List.mem_filter.1 hi).1)
        simp only [decide_eq_true_eq] at a
        exact ofNat_ne (hs _ (mz q ((List.mem_filter.1 hq).1))) (by omega) (by omega))
      (fun j hj => by
        obtain ⟨i, hi, rfl⟩ := List.mem_map.1 hj
        have b := List.mem_range.1 ((List.mem_filter.1 hi).1)
        have c := (List.mem_filter.1 hi).2
        have := col i b
        rw [sm_filter (q := fun p => decide (k ≤ p.1)) fun p hp hq => ?_] at this
        · rw [sm_map, ← this]
          refine sm_congr fun p hp => ?_
          have a := (List.mem_filter.1 hp).2
          simp only [decide_eq_true_eq] at a
          unfold gB
          rw [if_neg (by omega)]
        · have hq : ¬ k ≤ p.1 := by simpa using hq
          have hne : p.1 ≠ i := fun e => by
            have := mz p hp
            rw [e] at this
            simp [this] at c
          unfold gB
          rw [if_pos (by omega), if_neg hne, gm_zero])
    intro p hp hkp
    exact this (UInt8.ofNat p.1, p.2) (List.mem_map.2 ⟨p, List.mem_filter.2 ⟨hp, by simpa using hkp⟩, rfl⟩)
  refine vc_ext (by simp [hw]) fun i hi => ?_
  rw [zv_get]
  obtain ⟨x, hx⟩ : ∃ x, w[i]? = some x := ⟨w[i], by simp⟩
  obtain ⟨s, hsx⟩ : ∃ s, sel[i]? = some s := ⟨sel[i]'(by omega), by simp⟩
  have hz : (sel.zip w)[i]? = some (s, x) := by rw [List.getElem?_zip_eq_some]; exact ⟨hsx, hx⟩
  have hm := List.mem_of_getElem? hz
  rw [hx, Option.getD_some]
  by_cases hks : k ≤ s
  · exact cz (s, x) hm hks
  · have := col s (by omega)
    rw [sm_one (p := (s, x)) (by rw [z1]; exact hn) hm fun q hq hne => ?_] at this
    · simpa only [gB, if_pos (show s < k by omega), if_true, gm_one] using this
    · by_cases hkq : k ≤ q.1
      · rw [cz q hq hkq, zero_gm]
      · unfold gB
        rw [if_pos (by omega), if_neg hne, gm_zero]
end Go.Proofs.Ytangdhaihhgjkaa
/- matrix.Cauchy. -/
namespace Go.Proofs.Ytangdhaihhgjkaa
open Go Go.YtangdhaihhgjkaaAbs
set_option linter.unusedSimpArgs false
set_option linter.unusedVariables false
set_option maxRecDepth 4000

/-- A new row is appended. -/
theorem Nw.push {h h1 h2 : Heap} {v : AV} {M : Mt} (N : Nw h h1 v M) {r : AV} {L : Vc} (K : Keep h1.next nob h1 h2) (Mr : Mine 1 L.length h2 r (L.map bb)) (Fr : ∀ d, Has r d → h1.next ≤ d) (hl : M.length < 1000000) :
    ∃ v' h3, aappend Try.prog (h2.new (.cells [r] false)) 85 85 v (.sl h2.next 0 1 1 1 true) = some (v', h3) ∧ Nw h h3 v' (M ++ [L]) := by
  obtain ⟨rs, R, A, f, K0⟩ := N
  have R2 := R.ext K
  have hrl := R.len
  obtain ⟨v', h3, a1, a2, a3, a4⟩ := R2.own.push (P := Try.prog) el85 (a := [r]) (ex := true) (by simp [Mr.oneV]) rfl (by omega)
  have nv : ∀ {k : Nat} {u : AV} {d : Nat}, rs[k]? = some u → Has u d → ¬ Has v d := fun {k u d} hk hu hv => by
    have := A.get (i := k + 1) (j := 0) (v := u) (w := v) (by simpa using hk) rfl hu hv
    omega
  refine ⟨v', h3, a1, rs ++ [r], ⟨by rw [List.length_append]; exact a2, by simp [hrl], fun i u L' hu hL => ?_⟩, ?_, fun d hd => ?_, K0.trans ⟨Nat.le_trans K.1 a4.1, fun d hd _ => ?_⟩⟩
  · by_cases hi : i < rs.length
    · rw [List.getElem?_append_left hi] at hu
      rw [List.getElem?_append_left (by omega)] at hL
      exact (R2.each i u L' hu hL).keep a4 fun d hd => nv hu hd
    · have hi' : i = rs.length := by
        have := (List.getElem?_eq_some_iff.1 hu).1
        rw [List.length_append] at this
        simp at this
        omega
      subst hi'
      rw [List.getElem?_append_right (Nat.le_refl _), Nat.sub_self] at hu
      rw [hrl, List.getElem?_append_right (Nat.le_refl _), Nat.sub_self] at hL
      have hu : r = u := by simpa using hu
      have hL : L = L' := by simpa using hL
      subst hu hL
      rw [cat_fb]
      exact Mr.keep a4 fun d hd q => by have := Fr d hd; have := R.own.lt q; omega
  · have A1 : Apart (v' :: rs) := by
      have := A.set (i := 0) (v := v) (v' := v') rfl fun c hc => by
        rcases a3 c hc with z | z
        · exact .inl z
        · exact .inr fun q => by have := R2.lt q; omega
      simpa using this
    have e : v' :: (rs ++ [r]) = (v' :: rs) ++ [r] := rfl
    unfold Apart at A1 ⊢
    rw [e, blks_append, List.nodup_append]
    refine ⟨A1, ?_, fun d hd d' hd' q => ?_⟩
    · unfold blks
      simp only [List.filterMap_cons, List.filterMap_nil]
      split <;> simp
    · subst q
      obtain ⟨u, hu, hu'⟩ := mem_blks.1 hd'
      rw [List.mem_singleton] at hu
      subst hu
      have x1 := Fr d hu'
      have x2 := Mr.lt hu'
      obtain ⟨u, hu, hu''⟩ := mem_blks.1 hd
      rcases List.mem_cons.1 hu with rfl | hu
      · rcases a3 d hu'' with z | z
        · have := R.own.lt z; omega
        · omega
      · have := R.lt (mem_blks.2 ⟨u, List.mem_cons.2 (.inr hu), hu''⟩); omega
  · obtain ⟨u, hu, hu'⟩ := mem_blks.1 hd
    rcases List.mem_cons.1 hu with rfl | hu
    · rcases a3 d hu' with z | z
      · exact f d (mem_blks.2 ⟨v, by simp, z⟩)
      · have := K0.1; have := K.1; omega
    · rcases List.mem_append.1 hu with hu | hu
      · exact f d (mem_blks.2 ⟨u, List.mem_cons.2 (.inr hu), hu'⟩)
      · rw [List.mem_singleton] at hu
        subst hu
        have := Fr d hu'; have := K0.1; omega
  · have hd1 : d < h1.next := Nat.lt_of_lt_of_le hd K0.1
    rw [a4.2 d (Nat.lt_of_lt_of_le hd1 K.1) (fun q => by have := f d (mem_blks.2 ⟨v, by simp, q⟩); omega), K.2 d hd1 id]
theorem xor_byte {a b : Nat} (ha : a < 256) (hb : b < 256) : UInt8.ofNat a ^^^ UInt8.ofNat b = UInt8.ofNat (a ^^^ b) := b_ext (by rw [UInt8.toNat_xor, ofNat_toNat ha, ofNat_toNat hb, ofNat_toNat (xor_lt ha hb)])
theorem xor_i64 {x y : Nat} (hx : x < 256) (hy : y < 256) : fwrap .i64 (((x % modulus .i64) ^^^ (y % modulus .i64) : Nat) : Int) = ((x ^^^ y : Nat) : Int) := by
  have := xor_lt hx hy
  simp only [modulus]
  rw [Nat.mod_eq_of_lt (by omega), Nat.mod_eq_of_lt (by omega), i64w _ (by omega) (by omega)]
theorem xor_i64' {x y : Nat} (hx : x < 256) (hy : y < 256) : fwrap .i64 (((x % modulus .i64) ^^^ (y % modulus .i64) : Nat) : Int) = ((x ^^^ y : Nat) : Int) := xor_i64 hx hy
set_option maxHeartbeats 4000000 in
theorem cauchy_ok (k : Nat) (hk : 250 < k) (h : Heap) (fv : AV) (f : Fld h fv) (n m : Nat) (n1 : 1 ≤ n) (n2 : n ≤ 8) (hm : m + n ≤ 12) :
    ∃ v' h', acall Try.prog (k + 2) 44 [fv, .int .i64 (n : Nat), .int .i64 (m : Nat)] h = some (v', h') ∧ Nw h h' v' (cauM n m) := by
  rw [acall_text [] Try.func44 (by kernel_rfl)]
  refine afuncT_ex rfl (by simp [Try.f44]) ?_
  obtain ⟨v0, h1, E1, N1⟩ := identity_ok k (by omega) h n n1 (by omega)
  have s1 := i64w ((12 : Int) - (n : Int)) (by omega) (by omega)
  simp [Try.f44, isLe (show (1 : Int) ≤ (n : Int) by omega), isLe (show (n : Int) ≤ 8 by omega), isLe (show (0 : Int) ≤ (m : Int) by omega), s1, isLe (show (m : Int) ≤ 12 - (n : Int) by omega), E1]
  have eI : idM n = (List.range (n + 0)).map (cauR n) := by
    unfold idM
    exact List.map_congr_left fun i hi => (cauR_id (List.mem_range.1 hi)).symm
  refine W_cutLoop 0 (fun st => ∃ v', st.t.get 7 = some v' ∧ Nw h st.h v' (cauM n m)) ?_ ?_
  · refine W_loop (fun mm st => ∃ (i : Nat) (v' : AV), mm = m - i ∧ i ≤ m ∧ st.t.get 0 = some fv ∧ st.t.get 1 = some (.int .i64 (n : Nat)) ∧ st.t.get 7 = some v' ∧ st.t.get 29 = some (.int .i64 (m : Nat)) ∧ st.t.get 30 = some (.int .i64 (i : Nat)) ∧ Nw h st.h v' ((List.range (n + i)).map (cauR n))) m (by omega)
      ⟨0, v0, by omega, by omega, by simp, by simp, by simp, by simp, by simp, by rw [← eI]; exact N1⟩ ?_
    rintro mm ⟨t, h3⟩ ⟨i, v3, rfl, hi, q0, q1, q7, q29, q30, N3⟩
    simp only at q0 q1 q7 q29 q30 N3
    by_cases hlt : i < m
    · have Mz := new_row h3 (zv n) n (zv_len n)
      rw [zv_bb] at Mz
      have Kz : Keep h3.next nob h3 (h3.new (.cells (List.replicate n (.int .u8 0)) false)) := Keep.new (Nat.le_refl _) _
      obtain ⟨rv, hrv⟩ : ∃ rv, AV.sl h3.next 0 n n 1 true = rv := ⟨_, rfl⟩
      have Fz : ∀ d, Has rv d → h3.next ≤ d := fun d hd => by rw [← hrv] at hd; cases hd; exact Nat.le_refl _
      have lz : ∀ (k : Heap) (e : TypeId), vlen' k rv (some (.slice e)) = some (.int .i64 (n : Nat)) := fun k e => by rw [← hrv]; rfl
      simp [q0, q1, q7, q29, q30, isLt (show (i : Int) < (m : Int) by omega), aalloc_make (P := Try.prog) el43 (z := [.int .u8 0]) az5 rfl rfl n n (Nat.le_refl _) (by omega), flat1, afill]
      rw [hrv] at Mz ⊢
      simp [lz]
      have lc1 : (cauR n (n + i)).length = (zv n).length := by simp
      refine W_cutLoop 2 (fun st => st.t.get 0 = some fv ∧ st.t.get 1 = some (.int .i64 (n : Nat)) ∧ st.t.get 7 = some v3 ∧ st.t.get 9 = some rv ∧ st.t.get 29 = some (.int .i64 (m : Nat)) ∧ st.t.get 30 = some (.int .i64 (i : Nat)) ∧ Mine 1 n st.h rv ((cauR n (n + i)).map bb) ∧ Keep h3.next nob h3 st.h) ?_ ?_
      · refine W_loop (fun mm st => ∃ (j : Nat), mm = n - j ∧ j ≤ n ∧ st.t.get 0 = some fv ∧ st.t.get 1 = some (.int .i64 (n : Nat)) ∧ st.t.get 7 = some v3 ∧ st.t.get 8 = some (.int .i64 (i : Nat)) ∧ st.t.get 9 = some rv ∧ st.t.get 29 = some (.int .i64 (m : Nat)) ∧ st.t.get 30 = some (.int .i64 (i : Nat)) ∧ st.t.get 36 = some (.int .i64 (n : Nat)) ∧ st.t.get 37 = some (.int .i64 (j : Nat)) ∧ Mine 1 n st.h rv ((mixL (cauR n (n + i)) (zv n) j).map bb) ∧ Keep h3.next nob h3 st.h) n (by omega)
          ⟨0, by omega, by omega, by simp [q0], by simp [q1], by simp [q7], by simp, by simp, by simp [q29], by simp [q30], by simp, by simp, by rw [mixL_0, zv_bb]; exact Mz, Kz⟩ ?_
        clear q0 q1 q7 q29 q30
        rintro mm ⟨t, h5⟩ ⟨j, rfl, hj, q0, q1, q7, q8, q9, q29, q30, q36, q37, M5, K5⟩
        simp only at q0 q1 q7 q8 q9 q29 q30 q36 q37 M5 K5
        by_cases hjl : j < n
        · have f5 : Fld h5 fv := (f.ext N3.kb).ext K5
          obtain ⟨x, hx⟩ : ∃ x, (n + i) ^^^ j = x := ⟨_, rfl⟩
          have hxl : x < 256 := by rw [← hx]; exact xor_lt (by omega) (by omega)
          have ex : UInt8.ofNat (n + i) ^^^ UInt8.ofNat j = UInt8.ofNat x := by rw [xor_byte (by omega) (by omega), hx]
          have inv := invB_ok (k) h5 fv f5 (UInt8.ofNat x)
          rw [ofNat_toNat hxl] at inv
          have sx : fwrap .i64 ((((n + i) % modulus .i64) ^^^ (j % modulus .i64) : Nat) : Int) = (x : Nat) := by rw [xor_i64' (by omega) (by omega), hx]
          have s8 : fwrap .u8 (x : Int) = (x : Nat) := fwrap_u8 hxl
          have hg : (cauR n (n + i))[j]? = some (gi (UInt8.ofNat x)) := by
            unfold cauR
            rw [List.getElem?_map, List.getElem?_range hjl, Option.map_some]
            unfold gB
            rw [if_neg (by omega), ex]
          have ixr := M5.sl.idx1 (P := Try.prog) Try.underlying43 ts5 (j := j) hjl .i64
          obtain ⟨h6, a6, M6, K6, n6⟩ := M5.lay1 (j := j) (x := .int .u8 ((gi (UInt8.ofNat x)).toNat : Nat)) hjl rfl
          have e6 : ((mixL (cauR n (n + i)) (zv n) j).map bb).set j (.int .u8 ((gi (UInt8.ofNat x)).toNat : Nat)) = (mixL (cauR n (n + i)) (zv n) (j + 1)).map bb := by
            rw [← mixL_set lc1 hg, List.map_set]; rfl
          rw [e6] at M6
          have K6' : Keep h3.next nob h3 h6 := K5.trans ⟨K6.1, fun d hd _ => K6.2 d (Nat.lt_of_lt_of_le hd K5.1) fun q => by have := Fz d q; omega⟩
          obtain ⟨p, hp⟩ : ∃ p, p = n + i := ⟨_, rfl⟩
          have s2 : fwrap .i64 ((n : Int) + (i : Int)) = (p : Nat) := by rw [i64w _ (by omega) (by omega)]; omega
          rw [← hp] at sx
          simp [q0, q1, q7, q8, q9, q29, q30, q36, q37, isLt (show (j : Int) < (n : Int) by omega), s2, sx, s8, inv, ixr, a6, i64w ((j : Int) + 1) (by omega) (by omega)]
          exact ⟨n - (j + 1), by omega, j + 1, rfl, by omega, by simp, M6, K6'⟩
        · have e : j = (cauR n (n + i)).length := by simp; omega
          rw [e, mixL_all lc1] at M5
          simp [q0, q1, q7, q8, q9, q29, q30, q36, q37, e]
          exact ⟨M5, K5⟩
      clear q0 q1 q7 q29 q30
      rintro ⟨t, h5⟩ ⟨q0, q1, q7, q9, q29, q30, M5, K5⟩
      simp only at q0 q1 q7 q9 q29 q30 M5 K5
      obtain ⟨v6, h6, a6, N6⟩ := N3.push K5 (L := cauR n (n + i)) (by simpa using M5) Fz (by simp; omega)
      have rwr := row1_one (show rv.one = true from M5.oneV)
      have e6 : (List.range (n + i)).map (cauR n) ++ [cauR n (n + i)] = (List.range (n + (i + 1))).map (cauR n) := by
        rw [← Nat.add_assoc, List.range_succ, List.map_append]; rfl
      rw [e6] at N6
      simp [q0, q1, q7, q9, q29, q30, aalloc, afill, rwr, show rv.one = true from M5.oneV, a6, i64w ((i : Int) + 1) (by omega) (by omega)]
      exact ⟨m - (i + 1), by omega, i + 1, rfl, by omega, by simp, N6⟩
    · have e : i = m := by omega
      subst e
      simp [q0, q1, q7, q29, q30]
      exact N3
  · rintro ⟨t, h3⟩ ⟨v', q7, N⟩
    simp only at q7 N
    simp [q7]
    exact N
end Go.Proofs.Ytangdhaihhgjkaa
/- rs: a code in the heap; New, K, N, Size; the document's Size; short. -/
namespace Go.Proofs.Ytangdhaihhgjkaa
open Go Go.YtangdhaihhgjkaaAbs
set_option linter.unusedSimpArgs false
set_option linter.unusedVariables false
set_option maxRecDepth 4000

/-- How many bytes a fragment has. -/
def szN (k n : Nat) : Nat := (n + k - 1) / k
def codeC (k m : Nat) (rv : AV) : List AV := .int .i64 (k : Nat) :: .int .i64 ((k + m : Nat) : Int) :: (fieldC ++ [rv])
theorem codeC_len (k m : Nat) (rv : AV) : (codeC k m rv).length = 769 := by simp [codeC, fieldC_len]
/-- A code of k and m. -/
structure Cd (h : Heap) (c : AV) (b k m : Nat) (rv : AV) : Prop where
  ptr : c = .ptr b 0
  lt : b < h.next
  get : h.get b = some (.cells (codeC k m rv) false)
  rows : ∃ rs, Rd h rv rs (cauM k m)
  k1 : 1 ≤ k
  k8 : k ≤ 8
  km : m + k ≤ 12
section
variable {h h' : Heap} {c : AV} {b k m : Nat} {rv : AV}
theorem Cd.ext (C : Cd h c b k m rv) (K : Keep h.next nob h h') : Cd h' c b k m rv := by
  obtain ⟨rs, R⟩ := C.rows
  exact ⟨C.ptr, Nat.lt_of_lt_of_le C.lt K.1, by rw [K.2 b C.lt id]; exact C.get, ⟨rs, R.ext K⟩, C.k1, C.k8, C.km⟩
theorem Cd.fld (C : Cd h c b k m rv) : Fld h (.ptr b 2) := ⟨b, 2, _, _, rfl, C.lt, C.get, fun j hj => by
  unfold codeC
  rw [show 2 + j = j + 1 + 1 by omega, List.getElem?_cons_succ, List.getElem?_cons_succ, List.getElem?_append_left (by rw [fieldC_len]; exact hj)]⟩
theorem Cd.ldk (C : Cd h c b k m rv) : aload Try.prog h 3 b 0 = some (.int .i64 (k : Nat)) := ldc C.get ta3 rfl
theorem Cd.ldn (C : Cd h c b k m rv) : aload Try.prog h 3 b 1 = some (.int .i64 ((k + m : Nat) : Int)) := ldc C.get ta3 rfl
theorem Cd.ldr (C : Cd h c b k m rv) : aload Try.prog h 85 b 768 = some rv := ldc C.get ta85 (by
  unfold codeC
  rw [show 768 = 766 + 1 + 1 by rfl, List.getElem?_cons_succ, List.getElem?_cons_succ, List.getElem?_append_right (by rw [fieldC_len]; exact Nat.le_refl _), fieldC_len]; rfl)
end
theorem zz_last : zz87.drop 768 = [.nils] := by kernel_rfl
theorem code_row (n m : Nat) (rv : AV) (h : rv.one = true) : (AV.agg (.int .i64 (n : Nat) :: .int .i64 ((n : Int) + (m : Int)) :: (fieldC ++ [rv]))).row1 = some (codeC n m rv) := by
  rw [row1_agg (by simp [fieldC_one, h])]
  simp [codeC]
theorem code_set (n m : Nat) (u v : AV) : (codeC n m u).set 768 v = codeC n m v := by
  unfold codeC
  rw [show 768 = 766 + 1 + 1 by rfl, List.set_cons_succ, List.set_cons_succ, List.set_append_right _ _ (by rw [fieldC_len]; exact Nat.le_refl _), fieldC_len]; rfl
theorem new_ok (k : Nat) (hk : 1000 < k) (h : Heap) (n m : Nat) (n1 : 1 ≤ n) (n2 : n ≤ 8) (hm : m + n ≤ 12) :
    ∃ v h', acall Try.prog (k + 3) 35 [.int .i64 (n : Nat), .int .i64 (m : Nat)] h = some (v, h') ∧ ∃ b rv, v = .tup [.ptr b 0, .int .i64 0] ∧ Cd h' (.ptr b 0) b n m rv ∧ Keep h.next nob h h' := by
  rw [acall_text [] Try.func35 (by kernel_rfl)]
  refine afuncT_ex rfl (by simp [Try.f35]) ?_
  obtain ⟨_, h1, E1, rfl, k1⟩ := make_ok (k + 1) (by omega) h
  have row : (AV.agg fieldC).row1 = some fieldC := row1_agg fieldC_one
  have s1 := i64w ((12 : Int) - (n : Int)) (by omega) (by omega)
  have s2 := i64w ((n : Int) + (m : Int)) (by omega) (by omega)
  have g2 : (h1.new (.cells (codeC n m .nils) false)).get h1.next = some (.cells (codeC n m .nils) false) := get_new_self _ _
  have k2 : Keep h.next nob h (h1.new (.cells (codeC n m .nils) false)) := k1.trans (Keep.new k1.1 _)
  have l2 : h1.next < (h1.new (.cells (codeC n m .nils) false)).next := Nat.lt_succ_self _
  obtain ⟨h2, e2⟩ : ∃ h2, h1.new (.cells (codeC n m .nils) false) = h2 := ⟨_, rfl⟩
  obtain ⟨b, hb⟩ : ∃ b, h1.next = b := ⟨_, rfl⟩
  have hbn := k1.1
  rw [e2] at g2 k2 l2
  rw [hb] at g2 l2 hbn
  have f2 : Fld h2 (.ptr b 2) := ⟨b, 2, _, _, rfl, l2, g2, fun j hj => by
    unfold codeC
    rw [show 2 + j = j + 1 + 1 by omega, List.getElem?_cons_succ, List.getElem?_cons_succ, List.getElem?_append_left (by rw [fieldC_len]; exact hj)]⟩
  obtain ⟨rv, h3, E3, N3⟩ := cauchy_ok k (by omega) h2 (.ptr b 2) f2 n m (by omega) (by omega) (by omega)
  obtain ⟨rs, R3⟩ := N3.rd
  have g3 : h3.get b = some (.cells (codeC n m .nils) false) := by rw [N3.kb.2 b l2 id]; exact g2
  have ro : rv.one = true := R3.sl.oneV
  have lay : alay h3 b 768 [rv] = some (h3.set b (.cells (codeC n m rv) false)) := by
    unfold alay
    rw [g3]
    simp only
    rw [layAt_set (by rw [codeC_len]; omega), code_set]
  have rwr := row1_one ro
  have crow := code_row n m .nils rfl
  simp [Try.f35, isLe (show (1 : Int) ≤ (n : Int) by omega), isLe (show (n : Int) ≤ 8 by omega), isLe (show (0 : Int) ≤ (m : Int) by omega), s1, s2, isLe (show (m : Int) ≤ 12 - (n : Int) by omega), E1, afill, row, fieldC_len, zz_last, crow, hb, e2, E3, rwr, ro, lay]
  obtain ⟨rsx, Rx, Ax, fx, Kx⟩ := N3
  have kx := Kx.1
  have Rx' := Rx.keep (F := fun d => d = b) (h' := h3.set b (.cells (codeC n m rv) false)) (Keep.set (F := fun d => d = b) (.inl rfl) _) (fun d hd q => by subst q; have := fx _ hd; omega)
  exact ⟨⟨rv, rfl, Nat.lt_of_lt_of_le l2 kx, get_set_self _ _ _, ⟨rsx, rows_rd Rx'⟩, n1, n2, hm⟩, Nat.le_trans k2.1 kx, fun d hd _ => by
    rw [get_set_ne (by omega), Kx.2 d (Nat.lt_of_lt_of_le hd k2.1) id, k2.2 d hd id]⟩
section
variable {h : Heap} {b k m : Nat} {rv : AV}
end
end Go.Proofs.Ytangdhaihhgjkaa
/- nil is compared with nil. -/
namespace Go.YtangdhaihhgjkaaAbs
open Go Go.RowKit
set_option linter.unusedSimpArgs false
set_option linter.unusedVariables false
section
variable {P : Program} {t : Tr AV} {d : Option Tmp} {ty tv v : TypeId} {x y : Operand} {pos : String} {af : Array Edge} {g : Option (Nat × Bool)}
theorem aback0_eql_val {A B : AV} {a b : Value} {r : Bool} (hx : ev t x = A) (hy : ev t y = B) (va : A.val? = some a) (vb : B.val? = some b) (hg : semPure P (eqGuard .eql ty x y a b) = some ()) (he : semPure P (binOp .eql ty a b) = some (.bool r)) : aback0 P t ⟨d, .binOp .eql ty x y tv, v, pos, af, g⟩ = some (.bool r) := by
  have : semPure P (execOp (fun x => ((ev t x).val?).getD undef) ⟨d, .binOp .eql ty x y tv, v, pos, af, g⟩) = some (.value (.bool r)) := by
    simp only [execOp, hx, hy, va, vb, Option.getD_some]
    have e1 : semPure P (do
        eqGuard .eql ty x y a b
        binOp .eql ty a b) = some (.bool r) := by
      rw [semPure_bind P (eqGuard .eql ty x y a b) _ (a := ()) hg]
      exact he
    rw [semPure_bind P _ _ e1]
    rfl
  unfold aback0 aback
  simp [Op.operands, hx, hy, va, vb, this]
theorem aback0_neq_val {A B : AV} {a b : Value} {r : Bool} (hx : ev t x = A) (hy : ev t y = B) (va : A.val? = some a) (vb : B.val? = some b) (hg : semPure P (eqGuard .neq ty x y a b) = some ()) (he : semPure P (binOp .neq ty a b) = some (.bool !r)) : aback0 P t ⟨d, .binOp .neq ty x y tv, v, pos, af, g⟩ = some (.bool !r) := by
  have : semPure P (execOp (fun x => ((ev t x).val?).getD undef) ⟨d, .binOp .neq ty x y tv, v, pos, af, g⟩) = some (.value (.bool !r)) := by
    simp only [execOp, hx, hy, va, vb, Option.getD_some]
    have e1 : semPure P (do
        eqGuard .neq ty x y a b
        binOp .neq ty a b) = some (.bool !r) := by
      rw [semPure_bind P (eqGuard .neq ty x y a b) _ (a := ()) hg]
      exact he
    rw [semPure_bind P _ _ e1]
    rfl
  unfold aback0 aback
  simp [Op.operands, hx, hy, va, vb, this]
theorem equal_nils {e : TypeId} (hu : P.underlying ty = some (.slice e)) : semPure P (Op.equal ty (.slice none 0 0) (.slice none 0 0)) = some true := by
  show semPure P (Op.equalIn (_ + 1) ty _ _) = _
  unfold Op.equalIn
  rw [semPure_bind P _ _ (semPure_und hu)]
  rfl
theorem equal_nilp {e : TypeId} (hu : P.underlying ty = some (.pointer e)) : semPure P (Op.equal ty (.pointer none) (.pointer none)) = some true := by
  show semPure P (Op.equalIn (_ + 1) ty _ _) = _
  unfold Op.equalIn
  rw [semPure_bind P _ _ (semPure_und hu)]
  rfl
theorem nils_eql {e : TypeId} (hx : ev t x = .nils) (hy : ev t y = .nils) (hu : P.underlying ty = some (.slice e)) : aback0 P t ⟨d, .binOp .eql ty x y tv, v, pos, af, g⟩ = some (.bool true) := aback0_eql_val hx hy rfl rfl rfl (by show semPure P (Op.equal ty (.slice none 0 0) (.slice none 0 0) >>= fun r => pure (Value.bool (r))) = _; rw [semPure_bind P _ _ (equal_nils hu)]; rfl)
theorem nilp_eql {e : TypeId} (hx : ev t x = .nilp) (hy : ev t y = .nilp) (hu : P.underlying ty = some (.pointer e)) : aback0 P t ⟨d, .binOp .eql ty x y tv, v, pos, af, g⟩ = some (.bool true) := aback0_eql_val hx hy rfl rfl rfl (by show semPure P (Op.equal ty (.pointer none) (.pointer none) >>= fun r => pure (Value.bool (r))) = _; rw [semPure_bind P _ _ (equal_nilp hu)]; rfl)
theorem nils_neq {e : TypeId} (hx : ev t x = .nils) (hy : ev t y = .nils) (hu : P.underlying ty = some (.slice e)) : aback0 P t ⟨d, .binOp .neq ty x y tv, v, pos, af, g⟩ = some (.bool false) := aback0_neq_val hx hy rfl rfl rfl (by show semPure P (Op.equal ty (.slice none 0 0) (.slice none 0 0) >>= fun r => pure (Value.bool (!r))) = _; rw [semPure_bind P _ _ (equal_nils hu)]; rfl)
theorem nilp_neq {e : TypeId} (hx : ev t x = .nilp) (hy : ev t y = .nilp) (hu : P.underlying ty = some (.pointer e)) : aback0 P t ⟨d, .binOp .neq ty x y tv, v, pos, af, g⟩ = some (.bool false) := aback0_neq_val hx hy rfl rfl rfl (by show semPure P (Op.equal ty (.pointer none) (.pointer none) >>= fun r => pure (Value.bool (!r))) = _; rw [semPure_bind P _ _ (equal_nilp hu)]; rfl)
@[simp] theorem aeql_nn : aeql P ty .nils .nils = none := by unfold aeql; cases P.underlying ty with | none => rfl | some u => cases u <;> rfl
@[simp] theorem aeql_pp : aeql P ty .nilp .nilp = none := by unfold aeql; cases P.underlying ty with | none => rfl | some u => cases u <;> rfl
@[simp] theorem bcmp_nn {op : BinOp} : bcmp P op ty .nils .nils = none := by cases op <;> rfl
@[simp] theorem bcmp_pp {op : BinOp} : bcmp P op ty .nilp .nilp = none := by cases op <;> rfl
end
end Go.YtangdhaihhgjkaaAbs
/- fill: right configurations, New, Ended, Next. -/
namespace Go.Proofs.Ytangdhaihhgjkaa
open Go Go.YtangdhaihhgjkaaAbs
set_option linter.unusedSimpArgs false
set_option linter.unusedVariables false
set_option maxRecDepth 4000

theorem twithin_ok (k : Nat) (h : Heap) (n lo hi : Int) (h1 : lo ≤ n) (h2 : n ≤ hi) : acall Try.prog (k + 1) 36 [.int .i64 n, .int .i64 lo, .int .i64 hi] h = some (.bool true, h) := by
  rw [acall_text [] Try.func36 (by kernel_rfl)]
  refine afuncT_of rfl (by simp [Try.f36]) ?_
  simp [Try.f36, isLe h1, isLe h2]
/-- A configuration. -/
structure Cf where
  K : Nat
  M : Nat
  D : Nat
  S : Nat
  P : Nat
  G : Nat
def Cf.c (c : Cf) : List AV := [.int .i64 (c.K : Nat), .int .i64 (c.M : Nat), .int .i64 (c.D : Nat), .int .i64 (c.S : Nat), .int .i64 (c.P : Nat), .int .i64 (c.G : Nat)]
structure Cf.Ok (c : Cf) : Prop where
  k1 : 1 ≤ c.K
  k8 : c.K ≤ 8
  km : c.M + c.K ≤ 12
  d : c.D ≤ c.M
  s1 : c.K + c.M ≤ c.S
  s2 : c.S ≤ 12
  p1 : 1 ≤ c.P
  p2 : c.P ≤ 64
  g1 : 64 ≤ c.G
  g2 : c.G ≤ 65536
theorem Cf.one (c : Cf) : c.c.all AV.one = true := rfl
theorem rcfg_ok (k : Nat) (hk : 1100 < k) (h : Heap) (c : Cf) (ok : c.Ok) : ∃ v' h', acall Try.prog (k + 4) 20 [.agg c.c] h = some (v', h') ∧ v' = .bool true ∧ Keep h.next nob h h' := by
  rw [acall_text [] Try.func20 (by kernel_rfl)]
  refine afuncT_ex rfl (by simp [Try.f20]) ?_
  obtain ⟨k1, k8, km, d, s1, s2, p1, p2, g1, g2⟩ := ok
  have row : (AV.agg c.c).row1 = some c.c := row1_agg c.one
  have K1 : Keep h.next nob h (h.new (.cells c.c false)) := Keep.new (Nat.le_refl _) _
  have g : (h.new (.cells c.c false)).get h.next = some (.cells c.c false) := get_new_self _ _
  have lt : h.next < (h.new (.cells c.c false)).next := Nat.lt_succ_self _
  obtain ⟨h1, e1⟩ : ∃ h1, h.new (.cells c.c false) = h1 := ⟨_, rfl⟩
  obtain ⟨b, hb⟩ : ∃ b, h.next = b := ⟨_, rfl⟩
  rw [e1] at K1 g lt
  rw [hb] at g lt
  obtain ⟨_, h2, E2, b2, rv, rfl, _, K2⟩ := new_ok k (by omega) h1 c.K c.M k1 k8 km
  have g2' : h2.get b = some (.cells c.c false) := by rw [K2.2 b lt id]; exact g
  have l0 : aload Try.prog h1 3 b 0 = some (.int .i64 (c.K : Nat)) := ldc g ta3 rfl
  have l1 : aload Try.prog h1 3 b 1 = some (.int .i64 (c.M : Nat)) := ldc g ta3 rfl
  have m0 : aload Try.prog h2 3 b 0 = some (.int .i64 (c.K : Nat)) := ldc g2' ta3 rfl
  have m1 : aload Try.prog h2 3 b 1 = some (.int .i64 (c.M : Nat)) := ldc g2' ta3 rfl
  have m2 : aload Try.prog h2 3 b 2 = some (.int .i64 (c.D : Nat)) := ldc g2' ta3 rfl
  have m3 : aload Try.prog h2 3 b 3 = some (.int .i64 (c.S : Nat)) := ldc g2' ta3 rfl
  have m4 : aload Try.prog h2 3 b 4 = some (.int .i64 (c.P : Nat)) := ldc g2' ta3 rfl
  have m5 : aload Try.prog h2 3 b 5 = some (.int .i64 (c.G : Nat)) := ldc g2' ta3 rfl
  have skm := i64w ((c.K : Int) + (c.M : Int)) (by omega) (by omega)
  have T1 := twithin_ok (k + 2) h2 (c.D : Nat) 0 (c.M : Nat) (by omega) (by omega)
  have T2 := twithin_ok (k + 2) h2 (c.S : Nat) ((c.K : Int) + (c.M : Int)) 12 (by omega) (by omega)
  have T3 := twithin_ok (k + 2) h2 (c.P : Nat) 1 64 (by omega) (by omega)
  have T4 := twithin_ok (k + 2) h2 (c.G : Nat) 64 65536 (by omega) (by omega)
  simp [Try.f20, row, e1, hb, l0, l1, E2, m0, m1, m2, m3, m4, m5, skm, T1, T2, T3, T4]
  rw [← hb] at *
  exact K1.trans (K2.weak K1.1 fun _ _ q => q)
/-- Numbers in new memory. -/
theorem nil_ints {t : Tr AV} {d : Option Tmp} {tv v : TypeId} {x : Operand} {pos : String} {af : Array Edge} {g : Option (Nat × Bool)} (hx : ev t x = .nils) : aback0 Try.prog t ⟨d, .binOp .eql 35 x (.const (.slice none 0 0)) tv, v, pos, af, g⟩ = some (.bool true) := nils_eql hx rfl Try.underlying35
theorem iclone_ok (k : Nat) (h : Heap) (v : AV) (l : List Int) (S : Sl 1 l.length h v (l.map ii)) (hl : l.length < 10000) :
    ∃ v' h', acall Try.prog (k + 1) 21 [v] h = some (v', h') ∧ Mine 1 l.length h' v' (l.map ii) ∧ (∀ d, Has v' d → h.next ≤ d) ∧ Keep h.next nob h h' := by
  rw [acall_text [] Try.func21 (by kernel_rfl)]
  refine afuncT_ex rfl (by simp [Try.f21]) ?_
  by_cases hv : v = .nils
  · subst hv
    have e : l = [] := by
      rcases S with ⟨_, e, _⟩ | ⟨q, _⟩ | ⟨_, _, _, _, _, _, q, _⟩
      · simpa using e
      · cases q
      · cases q
    subst e
    simp [Try.f21, nil_ints]
    exact ⟨Mine.nil 1 h, (fun d hd => by cases hd), Keep.refl _ _ _⟩
  have en : aeql Try.prog 35 v .nils = some false := by
    rcases S with ⟨q, _⟩ | ⟨rfl, _⟩ | ⟨b, i, cap, ex, c, ro, rfl, _⟩
    · exact absurd q hv
    · simp [aeql, Try.underlying35]
    · simp [aeql, Try.underlying35]
  have V0 : Mine 1 0 (h.new (.cells [] false)) (.sl h.next 0 0 0 1 true) [] := by
    have := Mine.new (sz := 1) (n := 0) (m := 0) h [] (by simp) (Nat.le_refl _) (by simp) true
    simpa using this
  have k0 : Keep h.next nob h (h.new (.cells [] false)) := Keep.new (Nat.le_refl _) _
  have S' := S.ext k0
  obtain ⟨w, h3, b1, b2, b3, b4⟩ := V0.append (P := Try.prog) el35 (xt := 35) (by rw [Try.underlying35]; rfl) S'.alen S'.acells (ii_one l) (by simp) (by omega)
  simp [Try.f21, en, aalloc, afill, b1]
  refine ⟨by simpa using b2, fun d hd => ?_, ⟨Nat.le_trans k0.1 b4.1, fun d hd _ => ?_⟩⟩
  · rcases b3 d hd with z | z
    · cases z; exact Nat.le_refl _
    · exact Nat.le_trans k0.1 z
  · rw [b4.2 d (Nat.lt_of_lt_of_le hd k0.1) (fun q => by cases q; omega), k0.2 d hd id]
/-- A fill's cells. -/
def fillC (c : Cf) (slot : Nat) (bv : AV) (begun busy : Bool) (sv : AV) (fr : ByteArray) (kv : AV) : List AV := c.c ++ [.int .i64 (slot : Nat), bv, .bool begun, .bool busy, sv, .str fr, kv]
theorem nfill_ok (k : Nat) (hk : 1200 < k) (h : Heap) (c : Cf) (ok : c.Ok) (slot : Nat) (hs : slot < c.S) (v : AV) (l : List Int) (S : Sl 1 l.length h v (l.map ii)) (hl : l.length < 10000) :
    ∃ v' h', acall Try.prog (k + 5) 7 [.agg c.c, .int .i64 (slot : Nat), v] h = some (v', h') ∧ ∃ b bv, v' = .tup [.ptr b 0, .int .i64 0] ∧ Wd h h' [(.ptr b 0, .blk (fillC c slot bv false false .nils .empty .nils)), (bv, .vec 1 l.length (l.map ii))] := by
  rw [acall_text [3] Try.func7 (by kernel_rfl)]
  refine afuncT_ex rfl (by simp [Try.f7]) ?_
  have row : (AV.agg c.c).row1 = some c.c := row1_agg c.one
  have K1 : Keep h.next nob h (h.new (.cells c.c false)) := Keep.new (Nat.le_refl _) _
  have g : (h.new (.cells c.c false)).get h.next = some (.cells c.c false) := get_new_self _ _
  have lt : h.next < (h.new (.cells c.c false)).next := Nat.lt_succ_self _
  obtain ⟨h1, e1⟩ : ∃ h1, h.new (.cells c.c false) = h1 := ⟨_, rfl⟩
  obtain ⟨b, hb⟩ : ∃ b, h.next = b := ⟨_, rfl⟩
  rw [e1] at K1 g lt
  rw [hb] at g lt
  obtain ⟨_, h2, E2, rfl, K2⟩ := rcfg_ok k (by omega) h1 c ok
  have g2 : h2.get b = some (.cells c.c false) := by rw [K2.2 b lt id]; exact g
  have lt2 : b < h2.next := Nat.lt_of_lt_of_le lt K2.1
  have ld1 : aload Try.prog h1 27 b 0 = some (.agg c.c) := by simp [aload, Heap.row, g, Cf.c]
  have ld2 : aload Try.prog h2 27 b 0 = some (.agg c.c) := by simp [aload, Heap.row, g2, Cf.c]
  have m3 : aload Try.prog h2 3 b 3 = some (.int .i64 (c.S : Nat)) := ldc g2 ta3 rfl
  obtain ⟨bv, h3, E3, M3, F3, K3⟩ := iclone_ok (k + 3) h2 v l ((S.ext K1).ext K2) hl
  have ag : Agree h2.next h2 h3 := fun d hd => K3.2 d hd id
  have same : sameAV (.agg c.c) (.agg c.c) = true := by simp [sameAV, sameAVs, Cf.c]
  have ob := M3.oneV
  have rwb := row1_one ob
  simp [Try.f7, row, e1, hb, ld1, E2, isLe (show (0 : Int) ≤ (slot : Int) by omega), m3, isLt (show (slot : Int) < (c.S : Int) by omega)]
  refine W_split 4 h2.next (by rfl) (by kernel_rfl) (by rfl) ?_
  dsimp only [List.take, List.drop]
  have sc : sameAVs c.c c.c = true := by simp [sameAVs, sameAV, Cf.c]
  have cl : c.c.length = 6 := rfl
  have rf : (AV.agg (fillC c slot bv false false .nils .empty .nils)).row1 = some (fillC c slot bv false false .nils .empty .nils) := row1_agg (by simp [fillC, c.one, ob])
  simp only [fillC, Cf.c, List.cons_append, List.nil_append] at rf
  simp [obl, mayEff, mayRead, sameAV, ld2, lt2, same, sc, E3, ag, afill, row, rwb, cl]
  simp [Cf.c, rf]
  have K02 : Keep h.next nob h h2 := K1.trans (K2.weak K1.1 fun _ _ q => q)
  have W3 : Wd h h3 [(bv, .vec 1 l.length (l.map ii))] := ((Wd.start h).ext K02).cons K3 M3 F3
  exact ⟨bv, W3.cons (v := .ptr h3.next 0) (o := .blk (fillC c slot bv false false .nils .empty .nils)) (Keep.new (Nat.le_refl _) _) ⟨h3.next, rfl, Nat.lt_succ_self _, get_new_self _ _⟩ (fun d hd => by cases hd; exact Nat.le_refl _)⟩
end Go.Proofs.Ytangdhaihhgjkaa
/- fill: Ended, and Next where tasks are awaited still, or where no slot is up. -/
namespace Go.Proofs.Ytangdhaihhgjkaa
open Go Go.YtangdhaihhgjkaaAbs
set_option linter.unusedSimpArgs false
set_option linter.unusedVariables false
set_option maxRecDepth 4000

abbrev FRow (c : Cf) (slot : Nat) (b : Nat) (bv : AV) (begun busy : Bool) (sv : AV) (fr : ByteArray) (kv : AV) (l : List Int) : List Th := [(.ptr b 0, .blk (fillC c slot bv begun busy sv fr kv)), (bv, .vec 1 l.length (l.map ii))]
theorem fill_get {h0 h : Heap} {c : Cf} {slot b : Nat} {bv : AV} {begun busy : Bool} {sv : AV} {fr : ByteArray} {kv : AV} {l : List Int} {R : List Th} (W : Wd h0 h (FRow c slot b bv begun busy sv fr kv l ++ R)) :
    h.get b = some (.cells (fillC c slot bv begun busy sv fr kv) false) ∧ b < h.next ∧ Mine 1 l.length h bv (l.map ii) ∧ ¬ Has bv b := by
  have H0 := W.own.get (i := 0) (v := .ptr b 0) (o := .blk (fillC c slot bv begun busy sv fr kv)) rfl
  have H1 : Mine 1 l.length h bv (l.map ii) := W.own.get (i := 1) (v := bv) (o := .vec 1 l.length (l.map ii)) rfl
  obtain ⟨b', e, h1, h2⟩ := H0
  cases e
  exact ⟨h2, h1, H1, W.own.ne (i := 0) (j := 1) rfl rfl (by omega) rfl⟩
theorem ended_ok (k : Nat) (h0 h : Heap) (c : Cf) (slot b : Nat) (bv : AV) (begun busy : Bool) (sv : AV) (fr : ByteArray) (kv : AV) (l : List Int) (R : List Th) (W : Wd h0 h (FRow c slot b bv begun busy sv fr kv l ++ R)) (id : Int) (hl : l.length + 10 < k) (hm : l.length < 100000) (os : sv.one = true) (ok : kv.one = true) :
    ∃ v' h', acall Try.prog (k + 4) 9 [.ptr b 0, .int .i64 id] h = some (v', h') ∧ ∃ bv', v' = .tup [] ∧ Wd h0 h' (FRow c slot b bv' begun busy sv fr kv (l.filter fun y => decide (y ≠ id)) ++ R) := by
  rw [acall_text [] Try.func9 (by kernel_rfl)]
  refine afuncT_ex rfl (by simp [Try.f9]) ?_
  obtain ⟨g, lt, M, hb⟩ := fill_get W
  have K1 : Keep h.next nob h (h.new (.cells [.int .i64 id] false)) := Keep.new (Nat.le_refl _) _
  have gi : (h.new (.cells [.int .i64 id] false)).get h.next = some (.cells [.int .i64 id] false) := get_new_self _ _
  have W1 := W.ext K1
  have lti : h.next < (h.new (.cells [.int .i64 id] false)).next := Nat.lt_succ_self _
  have hbi : ¬ Has bv h.next := fun q => by have := M.lt q; omega
  obtain ⟨cb, hcb⟩ : ∃ cb, h.next = cb := ⟨_, rfl⟩
  obtain ⟨h1, e1⟩ : ∃ h1, h.new (.cells [.int .i64 id] false) = h1 := ⟨_, rfl⟩
  rw [e1] at K1 gi W1 lti
  rw [hcb] at gi lti hbi
  obtain ⟨g1, lt1, M1, _⟩ := fill_get W1
  have ld7 : aload Try.prog h1 35 b 7 = some bv := ldc g1 ta35 rfl
  obtain ⟨bv', h2, E2, L, eL, M2, F2, K2⟩ := delete_ok k h1 bv l M1 id cb gi hbi lti hl hm
  subst eL
  have W2 := W1.upd (i := 1) (v := bv) rfl K2 (v' := bv') (o' := .vec 1 (l.filter fun y => decide (y ≠ id)).length ((l.filter fun y => decide (y ≠ id)).map ii)) M2 (fun d hd => .inl (F2 d hd))
  have g2 : h2.get b = some (.cells (fillC c slot bv begun busy sv fr kv) false) := by rw [K2.2 b lt1 hb]; exact g1
  have ob := M2.oneV
  have rwb := row1_one ob
  have lay : alay h2 b 7 [bv'] = some (h2.set b (.cells (fillC c slot bv' begun busy sv fr kv) false)) := by
    unfold alay
    rw [g2]
    simp only
    rw [layAt_set (by simp [fillC, Cf.c])]
    rfl
  have W3 := W2.upd (i := 0) (v := .ptr b 0) (o := .blk (fillC c slot bv begun busy sv fr kv)) rfl (h1 := h2.set b (.cells (fillC c slot bv' begun busy sv fr kv) false)) (Keep.set (F := Has (.ptr b 0)) (.inl rfl) _) (v' := .ptr b 0) (o' := .blk (fillC c slot bv' begun busy sv fr kv)) ⟨b, rfl, Nat.lt_of_lt_of_le lt1 K2.1, get_set_self _ _ _⟩ (From.refl _ _)
  simp [Try.f9, e1, hcb, ld7, E2, rwb, ob, lay]
  exact ⟨bv', by simpa using W3⟩
theorem next_wait (k : Nat) (h : Heap) (c : Cf) (slot b : Nat) (bv : AV) (begun : Bool) (sv : AV) (fr : ByteArray) (kv : AV) (l : List Int) (g : h.get b = some (.cells (fillC c slot bv begun false sv fr kv) false)) (lt : b < h.next) (S : Sl 1 l.length h bv (l.map ii)) (hl : 0 < l.length) (st : List AV) (ho : st.all AV.one = true) :
    ∃ v' h', acall Try.prog (k + 1) 13 [.ptr b 0, .agg st] h = some (v', h') ∧ v' = .tup [.int .i64 0, .int .i64 0, .str ⟨#[]⟩] ∧ Keep h.next nob h h' := by
  rw [acall_text [] Try.func13 (by kernel_rfl)]
  refine afuncT_ex rfl (by simp [Try.f13]) ?_
  have row : (AV.agg st).row1 = some st := row1_agg ho
  have K1 : Keep h.next nob h (h.new (.cells st false)) := Keep.new (Nat.le_refl _) _
  have g1 : (h.new (.cells st false)).get b = some (.cells (fillC c slot bv begun false sv fr kv) false) := by rw [K1.2 b lt id]; exact g
  have S1 := S.ext K1
  obtain ⟨h1, e1⟩ : ∃ h1, h.new (.cells st false) = h1 := ⟨_, rfl⟩
  rw [e1] at K1 g1 S1
  have l9 : aload Try.prog h1 4 b 9 = some (.bool false) := ldc g1 ta4 rfl
  have l7 : aload Try.prog h1 35 b 7 = some bv := ldc g1 ta35 rfl
  have ll := S1.len'
  have hne : ¬ l = [] := fun q => by rw [q] at hl; simp at hl
  simp [Try.f13, row, e1, l9, l7, ll, hne, isLt (show (0 : Int) < (l.length : Int) by omega)]
  exact K1
theorem key_none (k : Nat) (hk : 10 < k) (h : Heap) (b : Nat) (C : List AV) (g : h.get b = some (.cells C false)) (hC : C[12]? = some .nils) : acall Try.prog (k + 1) 25 [.ptr b 0] h = some (.tup [.str ⟨#[]⟩, .bool false], h) := by
  rw [acall_text [] Try.func25 (by kernel_rfl)]
  refine afuncT_of rfl (by simp [Try.f25]) ?_
  have ld : aload Try.prog h 32 b 12 = some .nils := ldc g ta32 hC
  simp [Try.f25]
  refine W_loop (fun mm st => st.t.get 0 = some (.ptr b 0) ∧ st.h = h) 1 (by omega) ⟨by simp, rfl⟩ ?_
  rintro mm ⟨t, h1⟩ ⟨q0, e⟩
  simp only at q0 e
  subst e
  simp [q0, ld]
def zst : List AV := List.replicate 12 (.int .i64 0)
theorem next_full (k : Nat) (hk : 100 < k) (h : Heap) (c : Cf) (hS : c.S ≤ 12) (slot b : Nat) (bv : AV) (g : h.get b = some (.cells (fillC c slot bv false false .nils .empty .nils) false)) (lt : b < h.next) (S : Sl 1 0 h bv []) :
    ∃ v' h', acall Try.prog (k + 2) 13 [.ptr b 0, .agg zst] h = some (v', h') ∧ v' = .tup [.int .i64 3, .int .i64 0, .str ⟨#[]⟩] := by
  rw [acall_text [] Try.func13 (by kernel_rfl)]
  refine afuncT_ex rfl (by simp [Try.f13]) ?_
  have row : (AV.agg zst).row1 = some zst := row1_agg (by decide +kernel)
  have K1 : Keep h.next nob h (h.new (.cells zst false)) := Keep.new (Nat.le_refl _) _
  have g1 : (h.new (.cells zst false)).get b = some (.cells (fillC c slot bv false false .nils .empty .nils) false) := by rw [K1.2 b lt id]; exact g
  have gz : (h.new (.cells zst false)).get h.next = some (.cells zst false) := get_new_self _ _
  have S1 := S.ext K1
  have nz : h.next ≠ b := by omega
  obtain ⟨zb, hzb⟩ : ∃ zb, h.next = zb := ⟨_, rfl⟩
  obtain ⟨h1, e1⟩ : ∃ h1, h.new (.cells zst false) = h1 := ⟨_, rfl⟩
  rw [e1] at K1 g1 S1 gz
  rw [hzb] at gz nz
  have l9 : aload Try.prog h1 4 b 9 = some (.bool false) := ldc g1 ta4 rfl
  have l8 : aload Try.prog h1 4 b 8 = some (.bool false) := ldc g1 ta4 rfl
  have l7 : aload Try.prog h1 35 b 7 = some bv := ldc g1 ta35 rfl
  have ll := S1.len'
  have lay : alay h1 b 8 [.bool true] = some (h1.set b (.cells (fillC c slot bv true false .nils .empty .nils) false)) := by
    unfold alay
    rw [g1]
    simp only
    rw [layAt_set (by simp [fillC, Cf.c])]
    rfl
  have g2 : (h1.set b (.cells (fillC c slot bv true false .nils .empty .nils) false)).get b = some (.cells (fillC c slot bv true false .nils .empty .nils) false) := get_set_self _ _ _
  have gz2 : (h1.set b (.cells (fillC c slot bv true false .nils .empty .nils) false)).get zb = some (.cells zst false) := by rw [get_set_ne (Ne.symm nz)]; exact gz
  obtain ⟨h2, e2⟩ : ∃ h2, h1.set b (.cells (fillC c slot bv true false .nils .empty .nils) false) = h2 := ⟨_, rfl⟩
  rw [e2] at lay g2 gz2
  have l3 : aload Try.prog h2 3 b 3 = some (.int .i64 (c.S : Nat)) := ldc g2 ta3 rfl
  have l10 : aload Try.prog h2 35 b 10 = some .nils := ldc g2 ta35 rfl
  have E := key_none k (by omega) h2 b _ g2 rfl
  simp [Try.f13, row, e1, hzb, l9, l8, l7, ll, lay, l3]
  refine W_cutLoop 0 (fun st => st.t.get 0 = some (.ptr b 0) ∧ st.t.get 3 = some (.ptr zb 0) ∧ st.h = h2) ?_ ?_
  · refine W_loop (fun mm st => ∃ i : Nat, mm = c.S - i ∧ i ≤ c.S ∧ st.t.get 0 = some (.ptr b 0) ∧ st.t.get 3 = some (.ptr zb 0) ∧ st.t.get 35 = some (.int .i64 (c.S : Nat)) ∧ st.t.get 36 = some (.int .i64 (i : Nat)) ∧ st.h = h2) c.S (by omega)
      ⟨0, by omega, by omega, by simp, by simp, by simp, by simp, by simp⟩ ?_
    rintro mm ⟨t, h3⟩ ⟨i, rfl, hi, q0, q3, q35, q36, e⟩
    simp only at q0 q3 q35 q36 e
    replace e := e.symm
    subst e
    by_cases hlt : i < c.S
    · have ix : aindex Try.prog 28 (.ptr zb 0) (.int .i64 (i : Nat)) = some (.ptr zb i) := by
        simp [aindex, Try.underlying28]
        omega
      have ld : aload Try.prog h2 3 zb i = some (.int .i64 0) := ldc gz2 ta3 (by unfold zst; rw [List.getElem?_replicate, if_pos (by omega)])
      simp [q0, q3, q35, q36, isLt (show (i : Int) < (c.S : Int) by omega), ix, ld, i64w ((i : Int) + 1) (by omega) (by omega)]
      exact ⟨c.S - (i + 1), by omega, i + 1, rfl, by omega, by simp⟩
    · simp [q0, q3, q35, q36, isLe (show (c.S : Int) ≤ (i : Int) by omega)]
  rintro ⟨t, h3⟩ ⟨q0, q3, e⟩
  simp only at q0 q3 e
  subst e
  simp [q0, q3, E]
  refine W_loop (fun mm st => st.t.get 0 = some (.ptr b 0) ∧ st.h = h3) 1 (by omega) ⟨by simp [q0], by simp⟩ ?_
  rintro mm ⟨t, h4⟩ ⟨q0, e⟩
  simp only at q0 e
  subst e
  simp [q0, l10]
theorem is_full (k : Nat) (hk : 100 < k) (h : Heap) (c : Cf) (hS : c.S ≤ 12) (slot b : Nat) (bv : AV) (g : h.get b = some (.cells (fillC c slot bv false false .nils .empty .nils) false)) (lt : b < h.next) (S : Sl 1 0 h bv []) :
    ∃ v' h', acall Try.prog (k + 3) 8 [.ptr b 0, .agg zst, .int .i64 3, .int .i64 0, .str ⟨#[]⟩] h = some (v', h') ∧ v' = .bool true := by
  rw [acall_text [] Try.func8 (by kernel_rfl)]
  refine afuncT_ex rfl (by simp [Try.f8]) ?_
  have row : (AV.agg zst).row1 = some zst := row1_agg (by decide +kernel)
  have K1 : Keep h.next nob h (h.new (.cells zst false)) := Keep.new (Nat.le_refl _) _
  have g1 : (h.new (.cells zst false)).get b = some (.cells (fillC c slot bv false false .nils .empty .nils) false) := by rw [K1.2 b lt id]; exact g
  have gz : (h.new (.cells zst false)).get h.next = some (.cells zst false) := get_new_self _ _
  have lt1 : b < (h.new (.cells zst false)).next := Nat.lt_of_lt_of_le lt K1.1
  have S1 := S.ext K1
  obtain ⟨zb, hzb⟩ : ∃ zb, h.next = zb := ⟨_, rfl⟩
  obtain ⟨h1, e1⟩ : ∃ h1, h.new (.cells zst false) = h1 := ⟨_, rfl⟩
  rw [e1] at g1 gz S1 lt1
  rw [hzb] at gz
  have ld : aload Try.prog h1 28 zb 0 = some (.agg zst) := by simp [aload, Heap.row, gz, zst]
  obtain ⟨_, h2, E, rfl⟩ := next_full k hk h1 c hS slot b bv g1 lt1 S1
  simp [Try.f8, row, e1, hzb, ld, E]
end Go.Proofs.Ytangdhaihhgjkaa
/- chain.Hash and depotref5.Hash. -/
namespace Go.Proofs.Ytangdhaihhgjkaa
open Go Go.YtangdhaihhgjkaaAbs
set_option linter.unusedSimpArgs false
set_option linter.unusedVariables false

def hstep (h : Nat) (b : UInt8) : Nat := ((h ^^^ b.toNat) * 16777619) % 4294967296
def hash (l : List UInt8) : Nat := l.foldl hstep 2166136261
theorem hash_eq (l : List UInt8) : hash l = l.foldl hstep 2166136261 := rfl
theorem hstep_lt (h : Nat) (b : UInt8) : hstep h b < 4294967296 := Nat.mod_lt _ (by decide)
theorem fold_lt (l : List UInt8) (h : Nat) (hh : h < 4294967296) : l.foldl hstep h < 4294967296 := by
  induction l generalizing h with
  | nil => exact hh
  | cons b l ih => exact ih _ (hstep_lt h b)
theorem hash_lt (l : List UInt8) : hash l < 4294967296 := fold_lt l _ (by decide)
theorem fwrap_u32 (n : Nat) : fwrap .u32 (n : Int) = ((n % 4294967296 : Nat) : Int) := rfl
theorem xor_u32 (v b : Nat) (f1 : v < 4294967296) (f2 : b < 4294967296) : v % modulus .u32 ^^^ b % modulus .u32 = v ^^^ b := by
  simp only [modulus]
  rw [Nat.mod_eq_of_lt f1, Nat.mod_eq_of_lt f2]
theorem xor_lt32 (v b : Nat) (f1 : v < 4294967296) (f2 : b < 4294967296) : v ^^^ b < 4294967296 := Nat.xor_lt_two_pow (n := 32) f1 f2
theorem mul_cast (n : Nat) : (n : Int) * 16777619 = ((n * 16777619 : Nat) : Int) := by omega
theorem step_eq (v b : Nat) (f1 : v < 4294967296) (f2 : b < 4294967296) :
    fwrap .u32 (fwrap .u32 ((v % modulus .u32 ^^^ b % modulus .u32 : Nat) : Int) * 16777619) = (((v ^^^ b) * 16777619 % 4294967296 : Nat) : Int) := by
  rw [xor_u32 v b f1 f2, fwrap_u32, Nat.mod_eq_of_lt (xor_lt32 v b f1 f2), mul_cast, fwrap_u32]
theorem hstep_eq (v : Nat) (b : UInt8) (f1 : v < 4294967296) : fwrap .u32 (fwrap .u32 ((v % modulus .u32 ^^^ b.toNat % modulus .u32 : Nat) : Int) * 16777619) = ((hstep v b : Nat) : Int) :=
  step_eq v b.toNat f1 (by have := b.toNat_lt; omega)
theorem fold_take {α β : Type} (f : β → α → β) (l : List α) (z : β) (i : Nat) (b : α) (h : l[i]? = some b) : (l.take (i + 1)).foldl f z = f ((l.take i).foldl f z) b := by
  rw [List.take_add_one, h, List.foldl_append]
  rfl
theorem fwrap_byte (b : UInt8) : fwrap .u32 (b.toNat : Nat) = (b.toNat : Nat) := by
  have := b.toNat_lt
  simp [fwrap] <;> omega

theorem hash_ok (k : Nat) (s : ByteArray) (hs : s.size < k) (hm : s.size < 2 ^ 62) (h : Heap) : acall Try.prog (k + 1) 38 [.str s] h = some (.int .u32 (hash s.data.toList : Nat), h) := by
  rw [acall_text [] Try.func38 (by kernel_rfl)]
  refine afuncT_of rfl (by simp [Try.f38]) ?_
  simp [Try.f38]
  refine W_loop (fun j st => ∃ i, j = s.size - i ∧ i ≤ s.size ∧ st.h = h ∧ st.t.get 0 = some (.str s) ∧ st.t.get 6 = some (.int .i64 (s.size : Nat)) ∧ st.t.get 7 = some (.int .i64 (i : Nat)) ∧
    st.t.get 3 = some (.int .u32 ((s.data.toList.take i).foldl hstep 2166136261 : Nat))) s.size (by omega) ⟨0, by simp⟩ ?_
  rintro j ⟨t, h'⟩ ⟨i, rfl, hi, rfl, h0, h6, h7, h3⟩
  simp only at h0 h6 h7 h3
  by_cases hlt : i < s.size
  · have hb : s.data[i]? = some s.data[i] := by simp
    have hl : s.data.toList[i]? = some s.data[i] := by simp
    simp (disch := omega) [h0, h6, h7, h3, hlt, hb, fwrap_byte, i64s, Nat.not_le.2 hlt]
    refine ⟨s.size - (i + 1), by omega, i + 1, rfl, by omega, by simp, ?_⟩
    rw [fold_take _ _ _ _ _ hl]
    exact hstep_eq _ _ (fold_lt _ _ (by decide))
  · have : i = s.size := by omega
    subst this
    have : s.data.toList.take s.size = s.data.toList := List.take_of_length_le (by rw [Array.length_toList]; exact Nat.le_refl _)
    rw [this, ← hash_eq] at h3
    simp [h0, h6, h7, h3]

end Go.Proofs.Ytangdhaihhgjkaa
/- Contracts of chapter 16's functions. -/
namespace Go.Proofs.Ytangdhaihhgjkaa
open Go Go.YtangdhaihhgjkaaAbs
set_option linter.unusedSimpArgs false
set_option linter.unusedVariables false

def iv (n : Int) : AV := .int .i64 n


/-- The slots of a stripe. -/
def stripe (f n s : Nat) : List Int := (List.range n).map fun i => (((f + i) % s : Nat) : Int)
theorem stripe_len (f n s : Nat) : (stripe f n s).length = n := by simp [stripe]
theorem stripe_succ (f j s : Nat) : stripe f (j + 1) s = stripe f j s ++ [(((f + j) % s : Nat) : Int)] := by simp [stripe, List.range_succ]
def stripeL (key : List UInt8) (n s : Int) : List Int := if 1 ≤ s ∧ s ≤ 12 ∧ 0 ≤ n ∧ n ≤ s then stripe (hash key % s.toNat) n.toNat s.toNat else []

theorem stripe_ok (k : Nat) (key : ByteArray) (hk : key.size + 20 < k) (hm : key.size < 2 ^ 62) (n s : Int) (h : Heap) :
    ∃ v h', acall Try.prog (k + 2) 26 [.str key, .int .i64 n, .int .i64 s] h = some (v, h') ∧
      Vec h.next nob 1 (stripeL key.data.toList n s).length h' v ((stripeL key.data.toList n s).map iv) ∧ Keep h.next nob h h' := by
  rw [acall_text [] Try.func26 (by kernel_rfl)]
  refine afuncT_ex (Post := fun v h' => Vec h.next nob 1 (stripeL key.data.toList n s).length h' v ((stripeL key.data.toList n s).map iv) ∧ Keep h.next nob h h') rfl (by simp [Try.f26]) ?_
  by_cases hok : 1 ≤ s ∧ s ≤ 12 ∧ 0 ≤ n ∧ n ≤ s
  · have hs : stripeL key.data.toList n s = stripe (hash key.data.toList % s.toNat) n.toNat s.toNat := if_pos hok
    rw [hs]
    obtain ⟨g1, g2, g3, g4⟩ := hok
    obtain ⟨s, rfl⟩ := Int.eq_ofNat_of_zero_le (show 0 ≤ s by omega)
    obtain ⟨n, rfl⟩ := Int.eq_ofNat_of_zero_le g3
    have g5 : ¬ s = 0 := by omega
    have g4' : n ≤ s := by omega
    simp only [Int.toNat_natCast, stripe_len]
    have hlt := hash_lt key.data.toList
    simp [Try.f26, g1, g2, g4', g5, hash_ok k key (by omega) hm, i64w _ (show -9223372036854775808 ≤ ((hash key.data.toList : Nat) : Int) by omega) (by omega)]
    generalize hf : hash key.data.toList % s = f
    have hf' : (((hash key.data.toList : Nat) : Int).tmod (s : Int)) = (f : Int) := by rw [← hf]; rfl
    rw [hf']
    have hfs : f < s := by rw [← hf]; exact Nat.mod_lt _ (by omega)
    refine W_loop (fun m st => ∃ j v, m = n - j ∧ j ≤ n ∧ Vec h.next nob 1 j st.h v ((stripe f j s).map iv) ∧ Keep h.next nob h st.h ∧ st.t.get 2 = some (.int .i64 (s : Nat)) ∧ st.t.get 7 = some (.int .i64 (f : Nat)) ∧
      st.t.get 8 = some v ∧ st.t.get 30 = some (.int .i64 (n : Nat)) ∧ st.t.get 31 = some (.int .i64 (j : Nat))) n (by omega) ⟨0, .nils, by simp, by omega, Vec.nil _ _ _ _, Keep.refl _ _ _, by simp⟩ ?_
    rintro m ⟨t, h'⟩ ⟨j, v, rfl, hj, ho, he, q2, q7, q8, q30, q31⟩
    simp only at ho he q2 q7 q8 q30 q31
    by_cases hlt : j < n
    · have w3 : ((f : Int) + (j : Int)).tmod (s : Int) = (((f + j) % s : Nat) : Int) := by
        rw [Int.tmod_eq_emod_of_nonneg (by omega)]; rfl
      simp [q2, q7, q8, q30, q31, hlt, Nat.not_le.2 hlt, i64w ((f : Int) + (j : Int)) (by omega) (by omega), w3, g5, aalloc, afill, AV.row1, AV.row, AV.one]
      refine use (vec_push el35 ho (by rfl) (by rfl) (by omega) he.1) ?_
      rintro v' h2 ⟨a1, a2⟩
      simp [q31, i64w ((j : Int) + 1) (by omega) (by omega)]
      refine ⟨n - (j + 1), by omega, j + 1, by omega, by omega, v', ?_, he.trans a2, by simp [q2, q7, q30]⟩
      rw [stripe_succ, List.map_append]
      exact a1
    · have : j = n := by omega
      subst this
      simp [q2, q7, q8, q30, q31, ho, he]
  · have hs : stripeL key.data.toList n s = [] := if_neg hok
    rw [hs]
    have vn : Vec h.next nob 1 0 h .nils [] := Vec.nil _ _ _ _
    by_cases c1 : 1 ≤ s
    · by_cases c2 : s ≤ 12
      · by_cases c3 : 0 ≤ n
        · have c4 : ¬ n ≤ s := by omega
          simp [Try.f26, c1, c2, c3, c4, vn, Keep.refl]
        · simp [Try.f26, c1, c2, c3, vn, Keep.refl]
      · simp [Try.f26, c1, c2, vn, Keep.refl]
    · simp [Try.f26, c1, vn, Keep.refl]
/-- Where a number stands; -1: nowhere. -/
def posF : List Int → Int → Nat → Int
  | [], _, _ => -1
  | y :: l, x, i => if y = x then (i : Int) else posF l x (i + 1)
theorem posF_drop {l : List Int} {j : Nat} {y x : Int} (hy : l[j]? = some y) : posF (l.drop j) x j = if y = x then (j : Int) else posF (l.drop (j + 1)) x (j + 1) := by
  have hlt := (List.getElem?_eq_some_iff.1 hy).1
  have : l.drop j = y :: l.drop (j + 1) := by
    rw [List.drop_eq_getElem_cons hlt]
    have := (List.getElem?_eq_some_iff.1 hy).2
    rw [this]
  rw [this]
  rfl
theorem iv_get {l : List Int} {j : Nat} {x : Int} (h : l[j]? = some x) : (l.map iv)[j]? = some (iv x) := by rw [List.getElem?_map, h]; rfl
theorem get_of {α : Type} {l : List α} {j : Nat} (h : j < l.length) : ∃ x, l[j]? = some x := ⟨l[j], by simp [h]⟩

theorem pos_ok (k : Nat) (key : ByteArray) (hk : key.size + 100 < k) (hm : key.size < 2 ^ 62) (n s slot : Int) (h : Heap) :
    ∃ v h', acall Try.prog (k + 3) 14 [.str key, .int .i64 n, .int .i64 s, .int .i64 slot] h = some (v, h') ∧ v = .int .i64 (posF (stripeL key.data.toList n s) slot 0) ∧ Keep h.next nob h h' := by
  rw [acall_text [] Try.func14 (by kernel_rfl)]
  refine afuncT_ex rfl (by simp [Try.f14]) ?_
  simp [Try.f14]
  refine use (stripe_ok k key (by omega) hm n s h) ?_
  rintro v h' ⟨hv, hk'⟩
  generalize hL : stripeL key.data.toList n s = L at hv
  have hL12 : L.length ≤ 12 := by
    rw [← hL]; unfold stripeL
    split
    · rw [stripe_len]; omega
    · simp
  have hsl := hv.sl
  simp [hsl.len']
  refine W_loop (fun m st => ∃ j, m = L.length - j ∧ j ≤ L.length ∧ st.h = h' ∧ st.t.get 3 = some (.int .i64 slot) ∧ st.t.get 15 = some v ∧ st.t.get 16 = some (.int .i64 (L.length : Nat)) ∧ st.t.get 17 = some (.int .i64 (j : Nat)) ∧ st.t.get 9 = some (.int .i64 (-1)) ∧
    posF (L.drop j) slot j = posF L slot 0) L.length (by omega) ⟨0, by simp⟩ ?_
  rintro m ⟨t, h2⟩ ⟨j, rfl, hj, rfl, q3, q15, q16, q17, q9, hp⟩
  simp only at q3 q15 q16 q17 q9 hsl hk'
  by_cases hlt : j < L.length
  · obtain ⟨x, hx⟩ := get_of hlt
    obtain ⟨b, i, c, o, a1, a2, a3⟩ := hsl.at1 (P := Try.prog) (ty := 35) (e := 3) (k := .i64) Try.underlying35 ts3 (iv_get hx)
    rw [posF_drop hx] at hp
    by_cases hxs : x = slot
    · subst hxs
      simp [q3, q15, q16, q17, q9, hlt, a1, aload, Heap.row, a2, a3, iv, Nat.not_le.2 hlt]
      rw [if_pos rfl] at hp
      exact ⟨hp, hk'⟩
    · rw [if_neg hxs] at hp
      simp [q3, q15, q16, q17, q9, hlt, a1, aload, Heap.row, a2, a3, iv, hxs, i64w ((j : Int) + 1) (by omega) (by omega), Nat.not_le.2 hlt]
      exact ⟨L.length - (j + 1), by omega, j + 1, by omega, by omega, by simp, hp⟩
  · have : j = L.length := by omega
    subst this
    rw [List.drop_length] at hp
    simp [q3, q15, q16, q17, q9, hk']
    exact hp
theorem stripeL_ok {key : List UInt8} {n s : Nat} (h1 : 1 ≤ s) (h2 : s ≤ 12) (h3 : n ≤ s) : stripeL key (n : Nat) (s : Nat) = stripe (hash key % s) n s := by
  unfold stripeL
  rw [if_pos (by omega)]
  simp
theorem stripe_take {f n s j : Nat} (h : j ≤ n) : (stripe f n s).take j = stripe f j s := by
  unfold stripe
  rw [← List.map_take, List.take_range, Nat.min_eq_left h]
theorem strip_key {a : ByteArray} {n : Nat} (h : ¬ (a.size : Int) ≤ n) : (a.extract 0 (n : Int).toNat).size ≤ n := by
  simp
  omega
end Go.Proofs.Ytangdhaihhgjkaa
/- fill: key, and Next in general. -/
namespace Go.Proofs.Ytangdhaihhgjkaa
open Go Go.YtangdhaihhgjkaaAbs
set_option linter.unusedSimpArgs false
set_option linter.unusedVariables false
set_option maxRecDepth 4000

/-- Is a key of the slot's stripe. -/
def onSlot (c : Cf) (slot : Nat) (x : ByteArray) : Bool := decide (0 ≤ posF (stripeL x.data.toList ((c.K : Int) + c.M) c.S) slot 0)
theorem sl_keepH {sz n : Nat} {F : Nat → Prop} {h h' : Heap} {v : AV} {l : List AV} (S : Sl sz n h v l) (K : Keep h.next F h h') (hF : ∀ d, Has v d → ¬ F d) : Sl sz n h' v l := by
  refine S.keep K ?_
  rintro b i n c s x rfl
  refine ⟨?_, hF b rfl⟩
  rcases S with ⟨e, _⟩ | ⟨e, _⟩ | ⟨_, _, _, _, _, _, e, q, _⟩
  · cases e
  · cases e
  · cases e; exact q
theorem tail_has {n : Nat} {h : Heap} {v v' : AV} {l : List AV} (S : Sl 1 (n + 1) h v l) (s : aslice Try.prog 32 v (some (.int .i64 ((1 : Nat) : Int))) none none = some v') {d : Nat} (hd : Has v' d) : Has v d := by
  rcases S with ⟨_, _, e⟩ | ⟨_, _, e⟩ | ⟨b, i, cap, ex, c, ro, rfl, _⟩
  · cases e
  · cases e
  simp [aslice, Try.underlying32, asub, abnds, abound] at s
  rw [if_pos (by omega)] at s
  simp at s
  split at s
  · cases s; exact hd
  · split at s
    · cases s; exact hd
    · cases s; cases hd
theorem key_ok (k : Nat) (h : Heap) (c : Cf) (slot b : Nat) (bv : AV) (begun busy : Bool) (sv : AV) (fr : ByteArray) (kv : AV) (l : List ByteArray) (g : h.get b = some (.cells (fillC c slot bv begun busy sv fr kv) false)) (lt : b < h.next) (S : Sl 1 l.length h kv (l.map ss)) (nb : ¬ Has kv b) (hl : ∀ x, x ∈ l → x.size ≤ 100) (hk : l.length + 300 < k) (hS : c.K + c.M < 1000) :
    ∃ v' h', acall Try.prog (k + 4) 25 [.ptr b 0] h = some (v', h') ∧ ∃ kv' D, D = (l.dropWhile fun x => !onSlot c slot x) ∧ Sl 1 (D.drop 1).length h' kv' ((D.drop 1).map ss) ∧ (∀ d, Has kv' d → Has kv d) ∧ h'.get b = some (.cells (fillC c slot bv begun busy sv fr kv') false) ∧ Keep h.next (fun d => d = b) h h' ∧ v' = match D with | [] => .tup [.str ⟨#[]⟩, .bool false] | x :: _ => .tup [.str x, .bool true] := by
  generalize hD : (l.dropWhile fun x => !onSlot c slot x) = D
  rw [acall_text [] Try.func25 (by kernel_rfl)]
  refine afuncT_ex rfl (by simp [Try.f25]) ?_
  simp [Try.f25]
  refine W_loop (fun mm st => ∃ (X : List ByteArray) (kw : AV), mm = X.length ∧ X.length ≤ l.length ∧ st.t.get 0 = some (.ptr b 0) ∧ (X.dropWhile fun x => !onSlot c slot x) = D ∧ (∀ x, x ∈ X → x.size ≤ 100) ∧ Sl 1 X.length st.h kw (X.map ss) ∧ (∀ d, Has kw d → Has kv d) ∧ st.h.get b = some (.cells (fillC c slot bv begun busy sv fr kw) false) ∧ Keep h.next (fun d => d = b) h st.h) l.length (by omega) ⟨l, kv, rfl, Nat.le_refl _, by simp, hD, hl, S, fun _ q => q, g, Keep.refl _ _ _⟩ ?_
  rintro mm ⟨t, h1⟩ ⟨X, kw, rfl, hXl, q0, hX, hs, SX, hw, g1, K1⟩
  simp only at q0 SX g1 K1
  have lt1 : b < h1.next := Nat.lt_of_lt_of_le lt K1.1
  have nw : ¬ Has kw b := fun q => nb (hw b q)
  have ld12 : aload Try.prog h1 32 b 12 = some kw := ldc g1 ta32 rfl
  have lx := SX.len'
  cases X with
  | nil =>
    simp at hX
    subst hX
    simp [q0, ld12, lx]
    exact ⟨kw, by simpa using SX, hw, g1, K1⟩
  | cons x X =>
    have ix : aindex Try.prog 32 kw (.int .i64 0) = some (.ptr kw.blk kw.off) := SX.idx1 (P := Try.prog) Try.underlying32 ts9 (j := 0) (by simp) .i64
    have ld : aload Try.prog h1 9 kw.blk kw.off = some (.str x) := SX.ld ta9 (j := 0) rfl
    obtain ⟨kw', s1, S2⟩ := SX.from (P := Try.prog) (ty := 32) Try.underlying32 ts9 (k := .i64) (j := 1) (by simp)
    have s1' : aslice Try.prog 32 kw (some (.int .i64 1)) none none = some kw' := s1
    have hw' : ∀ d, Has kw' d → Has kw d := fun d hd => tail_has SX s1 hd
    have one' : kw'.one = true := S2.oneV
    have rw' := row1_one one'
    have lay : alay h1 b 12 [kw'] = some (h1.set b (.cells (fillC c slot bv begun busy sv fr kw') false)) := by
      unfold alay
      rw [g1]
      simp only
      rw [layAt_set (by simp [fillC, Cf.c])]
      rfl
    obtain ⟨h2, e2⟩ : ∃ h2, h1.set b (.cells (fillC c slot bv begun busy sv fr kw') false) = h2 := ⟨_, rfl⟩
    have g2 : h2.get b = some (.cells (fillC c slot bv begun busy sv fr kw') false) := by rw [← e2]; exact get_set_self _ _ _
    have K2 : Keep h1.next (fun d => d = b) h1 h2 := by rw [← e2]; exact Keep.set (F := fun d => d = b) (.inl rfl) _
    rw [e2] at lay
    have lt2 : b < h2.next := Nat.lt_of_lt_of_le lt1 K2.1
    have S3 := sl_keepH S2 K2 (fun d hd e => nw (e ▸ hw' d hd))
    have f0 : aload Try.prog h2 3 b 0 = some (.int .i64 (c.K : Nat)) := ldc g2 ta3 rfl
    have f1 : aload Try.prog h2 3 b 1 = some (.int .i64 (c.M : Nat)) := ldc g2 ta3 rfl
    have f3 : aload Try.prog h2 3 b 3 = some (.int .i64 (c.S : Nat)) := ldc g2 ta3 rfl
    have f6 : aload Try.prog h2 3 b 6 = some (.int .i64 (slot : Nat)) := ldc g2 ta3 rfl
    have hx := hs x (by simp)
    obtain ⟨_, h3, E3, rfl, K3⟩ := pos_ok k x (by omega) (by omega) ((c.K : Int) + c.M) (c.S : Nat) (slot : Nat) h2
    have g3 : h3.get b = some (.cells (fillC c slot bv begun busy sv fr kw') false) := by rw [K3.2 b lt2 id]; exact g2
    have S4 := S3.ext K3
    have K4 : Keep h.next (fun d => d = b) h h3 := (K1.trans (K2.weak K1.1 fun _ _ q => q)).trans (K3.weak (Nat.le_trans K1.1 K2.1) fun _ _ q => q.elim)
    by_cases hp : 0 ≤ posF (stripeL x.data.toList ((c.K : Int) + c.M) c.S) slot 0
    · have ho : onSlot c slot x = true := decide_eq_true hp
      simp [ho] at hX
      subst hX
      simp [q0, ld12, lx, ix, ld, s1', one', rw', lay, f0, f1, f3, f6, E3, hp, (show ¬ ((X.length : Int) + 1 ≤ 0) by omega), i64w ((c.K : Int) + c.M) (by omega) (by omega)]
      exact ⟨kw', by simpa using S4, fun d hd => hw d (hw' d hd), g3, K4⟩
    · have ho : onSlot c slot x = false := decide_eq_false hp
      simp [ho] at hX
      simp [q0, ld12, lx, ix, ld, s1', one', rw', lay, f0, f1, f3, f6, E3, hp, (show ¬ ((X.length : Int) + 1 ≤ 0) by omega), i64w ((c.K : Int) + c.M) (by omega) (by omega)]
      exact ⟨X.length, by omega, X, rfl, by simp at hXl; omega, hX, fun y hy => hs y (by simp [hy]), kw', by simpa using S4, fun d hd => hw d (hw' d hd), g3, K4⟩
end Go.Proofs.Ytangdhaihhgjkaa
/- fill: Next in general. -/
namespace Go.Proofs.Ytangdhaihhgjkaa
open Go Go.YtangdhaihhgjkaaAbs
set_option linter.unusedSimpArgs false
set_option linter.unusedVariables false
set_option maxRecDepth 4000

def nn (s : Nat) : AV := .int .i64 (s : Nat)
/-- A cell of a block one holds is set. -/
theorem fset {h : Heap} {b : Nat} {C C' : List AV} {i : Nat} {v : AV} (g : h.get b = some (.cells C false)) (lt : b < h.next) (hi : i < C.length) (e : C.set i v = C') : ∃ h2, alay h b i [v] = some h2 ∧ h2.get b = some (.cells C' false) ∧ Keep h.next (fun d => d = b) h h2 ∧ b < h2.next := by
  refine ⟨h.set b (.cells C' false), ?_, get_set_self _ _ _, Keep.set (F := fun d => d = b) (.inl rfl) _, lt⟩
  unfold alay
  rw [g]
  simp only
  rw [layAt_set hi, e]
/-- The slots to be scanned. -/
def upS (st : List Int) (slot n : Nat) : List Nat := (List.range n).filter fun s => decide (st[s]? = some 2 ∧ s ≠ slot)
def isUp (st : List Int) (s : Nat) : Bool := decide (st[s]? = some 2)
theorem tail_int {n : Nat} {h : Heap} {v v' : AV} {l : List AV} (S : Sl 1 (n + 1) h v l) (s : aslice Try.prog 35 v (some (.int .i64 ((1 : Nat) : Int))) none none = some v') {d : Nat} (hd : Has v' d) : Has v d := by
  rcases S with ⟨_, _, e⟩ | ⟨_, _, e⟩ | ⟨b, i, cap, ex, c, ro, rfl, _⟩
  · cases e
  · cases e
  simp [aslice, Try.underlying35, asub, abnds, abound] at s
  rw [if_pos (by omega)] at s
  simp at s
  split at s
  · cases s; exact hd
  · split at s
    · cases s; exact hd
    · cases s; cases hd
theorem upS_succ (st : List Int) (slot n : Nat) : upS st slot (n + 1) = upS st slot n ++ (if st[n]? = some 2 ∧ n ≠ slot then [n] else []) := by
  unfold upS
  rw [List.range_succ, List.filter_append]
  congr 1
  by_cases q : st[n]? = some 2 ∧ n ≠ slot
  · rw [if_pos q, List.filter_cons, if_pos (decide_eq_true q)]; rfl
  · rw [if_neg q, List.filter_cons, if_neg (by simpa using q)]; rfl
theorem upS_len (st : List Int) (slot n : Nat) : (upS st slot n).length ≤ n := by
  have := List.length_filter_le (fun s => decide (st[s]? = some 2 ∧ s ≠ slot)) (List.range n)
  rwa [List.length_range] at this
def NextR (h : Heap) (c : Cf) (slot b : Nat) (bv : AV) (begun : Bool) (sv kv : AV) (scans : List Nat) (l : List ByteArray) (st : List Int) (v' : AV) (h' : Heap) : Prop :=
  ∃ (sv' kv' : AV) (fr' : ByteArray) (X E : List Nat) (D : List ByteArray) (busy : Bool),
      X = (if begun then scans else upS st slot c.S) ∧ D = (l.dropWhile fun x => !onSlot c slot x) ∧ E = (if D = [] then X.dropWhile fun s => !isUp st s else X) ∧
      Sl 1 E.length h' sv' (E.map nn) ∧ Sl 1 (D.drop 1).length h' kv' ((D.drop 1).map ss) ∧ (∀ d, Has sv' d → Has sv d ∨ h.next ≤ d) ∧ (∀ d, Has kv' d → Has kv d) ∧
      h'.get b = some (.cells (fillC c slot bv true busy sv' fr' kv') false) ∧ Keep h.next (fun d => d = b) h h' ∧
      v' = (match D with | x :: _ => .tup [.int .i64 2, .int .i64 0, .str x] | [] => match E with | s :: _ => .tup [.int .i64 1, .int .i64 (s : Nat), .str fr'] | [] => .tup [.int .i64 3, .int .i64 0, .str ⟨#[]⟩])
set_option maxHeartbeats 4000000 in
theorem next_ok (k : Nat) (h : Heap) (c : Cf) (ok : c.Ok) (slot b : Nat) (bv : AV) (begun : Bool) (sv : AV) (fr : ByteArray) (kv : AV) (scans : List Nat) (l : List ByteArray) (st : List Int) (hst : st.length = 12)
    (g : h.get b = some (.cells (fillC c slot bv begun false sv fr kv) false)) (lt : b < h.next) (Sb : Sl 1 0 h bv []) (Ss : Sl 1 scans.length h sv (scans.map nn)) (Sk : Sl 1 l.length h kv (l.map ss)) (ns : ¬ Has sv b) (nk : ¬ Has kv b) (hsc : ∀ s, s ∈ scans → s < 12) (hscl : scans.length ≤ 12) (hb0 : begun = false → sv = .nils)
    (hl : ∀ x, x ∈ l → x.size ≤ 100) (hk : l.length + 300 < k) :
    ∃ v' h', acall Try.prog (k + 5) 13 [.ptr b 0, .agg (st.map ii)] h = some (v', h') ∧ NextR h c slot b bv begun sv kv scans l st v' h' := by
  rw [acall_text [] Try.func13 (by kernel_rfl)]
  refine afuncT_ex rfl (by simp [Try.f13]) ?_
  have row : (AV.agg (st.map ii)).row1 = some (st.map ii) := row1_agg (ii_one st)
  have K1 : Keep h.next nob h (h.new (.cells (st.map ii) false)) := Keep.new (Nat.le_refl _) _
  have g1 : (h.new (.cells (st.map ii) false)).get b = some (.cells (fillC c slot bv begun false sv fr kv) false) := by rw [K1.2 b lt id]; exact g
  have gz : (h.new (.cells (st.map ii) false)).get h.next = some (.cells (st.map ii) false) := get_new_self _ _
  have lz : h.next < (h.new (.cells (st.map ii) false)).next := Nat.lt_succ_self _
  have Sb1 := Sb.ext K1
  have Ss1 := Ss.ext K1
  have Sk1 := Sk.ext K1
  have nz : h.next ≠ b := by omega
  obtain ⟨zb, hzb⟩ : ∃ zb, h.next = zb := ⟨_, rfl⟩
  obtain ⟨h1, e1⟩ : ∃ h1, h.new (.cells (st.map ii) false) = h1 := ⟨_, rfl⟩
  rw [e1] at K1 g1 Sb1 Ss1 Sk1 gz lz
  rw [hzb] at gz nz lz
  have lt1 : b < h1.next := Nat.lt_of_lt_of_le lt K1.1
  have l9 : aload Try.prog h1 4 b 9 = some (.bool false) := ldc g1 ta4 rfl
  have l8 : aload Try.prog h1 4 b 8 = some (.bool begun) := ldc g1 ta4 rfl
  have l7 : aload Try.prog h1 35 b 7 = some bv := ldc g1 ta35 rfl
  have ll := Sb1.len'
  simp [Try.f13, row, e1, hzb, l9, l7, ll, -W_cond]
  rw [W_cond]
  simp [row, e1, hzb, l9, l7, ll, l8, -W_cond]
  refine W_cutN (fun s => ∃ (sw : AV) (X : List Nat), s.t.get 0 = some (.ptr b 0) ∧ s.t.get 3 = some (.ptr zb 0) ∧ X = (if begun then scans else upS st slot c.S) ∧ Sl 1 X.length s.h sw (X.map nn) ∧ (∀ d, Has sw d → Has sv d ∨ h1.next ≤ d) ∧ s.h.get b = some (.cells (fillC c slot bv true false sw fr kv) false) ∧ Keep h1.next (fun d => d = b) h1 s.h) ?_ ?_
  · by_cases hb : begun = true
    · subst hb
      simp
      exact ⟨sv, Ss1, fun d hd => .inl hd, g1, Keep.refl _ _ _⟩
    · simp at hb
      subst hb
      have := hb0 rfl
      subst this
      obtain ⟨h2, a2, g2, K2, lt2⟩ := fset (C' := fillC c slot bv true false .nils fr kv) (i := 8) (v := .bool true) g1 lt1 (by simp [fillC, Cf.c]) rfl
      have l3 : aload Try.prog h2 3 b 3 = some (.int .i64 (c.S : Nat)) := ldc g2 ta3 rfl
      simp [a2, l3]
      have S12 := ok.s2
      have gz2 : h2.get zb = some (.cells (st.map ii) false) := by rw [K2.2 zb lz nz]; exact gz
      refine W_cutLoop 0 (fun s => ∃ (sw : AV), s.t.get 0 = some (.ptr b 0) ∧ s.t.get 3 = some (.ptr zb 0) ∧ Mine 1 (upS st slot c.S).length s.h sw ((upS st slot c.S).map nn) ∧ (∀ d, Has sw d → h1.next ≤ d) ∧ s.h.get b = some (.cells (fillC c slot bv true false sw fr kv) false) ∧ Keep h1.next (fun d => d = b) h1 s.h) ?_ ?_
      · refine W_loop (fun mm s => ∃ (i : Nat) (sw : AV), mm = c.S - i ∧ i ≤ c.S ∧ s.t.get 0 = some (.ptr b 0) ∧ s.t.get 3 = some (.ptr zb 0) ∧ s.t.get 35 = some (.int .i64 (c.S : Nat)) ∧ s.t.get 36 = some (.int .i64 (i : Nat)) ∧ Mine 1 (upS st slot i).length s.h sw ((upS st slot i).map nn) ∧ (∀ d, Has sw d → h1.next ≤ d) ∧ s.h.get b = some (.cells (fillC c slot bv true false sw fr kv) false) ∧ Keep h1.next (fun d => d = b) h1 s.h) c.S (by omega)
          ⟨0, .nils, by omega, by omega, by simp, by simp, by simp, by simp, Mine.nil 1 _, fun d hd => (by cases hd), g2, K2⟩ ?_
        rintro mm ⟨t, h3⟩ ⟨i, sw, rfl, hi, q0, q3, q35, q36, M, hw, g3, K3⟩
        simp only at q0 q3 q35 q36 M g3 K3
        by_cases hlt : i < c.S
        case neg =>
          have e : i = c.S := by omega
          subst e
          simp [q0, q3, q35, q36]
          exact ⟨sw, M, hw, g3, K3⟩
        have lt3 : b < h3.next := Nat.lt_of_lt_of_le lt1 K3.1
        have gz3 : h3.get zb = some (.cells (st.map ii) false) := by rw [K3.2 zb lz nz]; exact gz
        obtain ⟨x, hx⟩ : ∃ x, st[i]? = some x := ⟨st[i], by simp⟩
        have ix : aindex Try.prog 28 (.ptr zb 0) (.int .i64 (i : Nat)) = some (.ptr zb i) := by
          simp [aindex, Try.underlying28]
          omega
        have ld : aload Try.prog h3 3 zb i = some (.int .i64 x) := ldc gz3 ta3 (ii_get hx)
        have l6 : aload Try.prog h3 3 b 6 = some (.int .i64 (slot : Nat)) := ldc g3 ta3 rfl
        have l10 : aload Try.prog h3 35 b 10 = some sw := ldc g3 ta35 rfl
        have us := upS_succ st slot i
        rw [hx] at us
        by_cases q2 : x = 2
        case neg =>
          rw [if_neg (by simp [q2]), List.append_nil] at us
          simp [q0, q3, q35, q36, isLt (show (i : Int) < (c.S : Int) by omega), ix, ld, q2, i64w ((i : Int) + 1) (by omega) (by omega)]
          exact ⟨c.S - (i + 1), by omega, i + 1, rfl, by omega, by simp, sw, by rw [us]; exact M, hw, g3, K3⟩
        by_cases qs : i = slot
        · rw [if_neg (by simp [qs]), List.append_nil] at us
          subst qs
          simp [q0, q3, q35, q36, isLt (show (i : Int) < (c.S : Int) by omega), ix, ld, q2, l6, i64w ((i : Int) + 1) (by omega) (by omega)]
          exact ⟨c.S - (i + 1), by omega, i + 1, rfl, by omega, by simp, sw, by rw [us]; exact M, hw, g3, K3⟩
        · rw [if_pos (by simp [q2, qs])] at us
          have lu := upS_len st slot i
          obtain ⟨sw', h4, a1', a2, a3, a4⟩ := M.push (P := Try.prog) el35 (a := [nn i]) (ex := true) rfl rfl (by omega)
          have a1' : aappend Try.prog (h3.new (.cells [.int .i64 (i : Nat)] false)) 35 35 sw (.sl h3.next 0 1 1 1 true) = some (sw', h4) := a1'
          have nw : ¬ Has sw b := fun q => by have := hw b q; omega
          have g4 : h4.get b = some (.cells (fillC c slot bv true false sw fr kv) false) := by rw [a4.2 b lt3 nw]; exact g3
          have lt4 : b < h4.next := Nat.lt_of_lt_of_le lt3 a4.1
          obtain ⟨h5, b5, g5, K5, lt5⟩ := fset (C' := fillC c slot bv true false sw' fr kv) (i := 10) (v := sw') g4 lt4 (by simp [fillC, Cf.c]) rfl
          have nw' : ¬ Has sw' b := fun q => by rcases a3 b q with z | z; exact nw z; omega
          have M5 : Mine 1 (upS st slot (i + 1)).length h5 sw' ((upS st slot (i + 1)).map nn) := by
            rw [us]
            have := a2.keep K5 (fun d hd e => nw' (e ▸ hd))
            simpa using this
          have hw' : ∀ d, Has sw' d → h1.next ≤ d := fun d hd => by rcases a3 d hd with z | z; exact hw d z; exact Nat.le_trans K3.1 z
          have ob := M5.oneV
          have rwb := row1_one ob
          have K6 : Keep h1.next (fun d => d = b) h1 h5 := by
            refine (K3.trans (a4.weak K3.1 fun d hd q => ?_)).trans (K5.weak (Nat.le_trans K3.1 a4.1) fun _ _ q => q)
            have := hw d q; omega
          simp [q0, q3, q35, q36, isLt (show (i : Int) < (c.S : Int) by omega), ix, ld, q2, l6, qs, (show ¬ (((i : Nat) : Int) = (slot : Int)) by omega), l10, aalloc, afill, a1', ob, rwb, b5, i64w ((i : Int) + 1) (by omega) (by omega)]
          exact ⟨c.S - (i + 1), by omega, i + 1, rfl, by omega, by simp, sw', M5, hw', g5, K6⟩
      · rintro ⟨t, h3⟩ ⟨sw, q0, q3, M, hw, g3, K3⟩
        simp only at q0 q3 M g3 K3
        simp [q0, q3]
        exact ⟨sw, M.sl, fun d hd => .inr (hw d hd), g3, K3⟩
  rintro ⟨t, h2⟩ ⟨sw, X, q0, q3, hX, SX, hw, g2, K2⟩
  simp only at q0 q3 SX g2 K2
  have lt2 : b < h2.next := Nat.lt_of_lt_of_le lt1 K2.1
  have Sk2 := sl_keepH Sk1 K2 (fun d hd e => nk (e ▸ hd))
  have S12 := ok.s2
  have okm := ok.km
  obtain ⟨_, h3, E3, kw, D, hD, SD, hkw, g3, K3, rfl⟩ := key_ok k h2 c slot b bv true false sw fr kv l g2 lt2 Sk2 nk hl hk (by omega)
  have nsw : ¬ Has sw b := fun q => by rcases hw b q with z | z; exact ns z; omega
  have S3 := sl_keepH SX K3 (fun d hd e => nsw (e ▸ hd))
  have lt3 : b < h3.next := Nat.lt_of_lt_of_le lt2 K3.1
  have K13 : Keep h1.next (fun d => d = b) h1 h3 := K2.trans (K3.weak K2.1 fun _ _ q => q)
  cases D with
  | cons x D =>
    obtain ⟨h4, a4, g4, K4, lt4⟩ := fset (C' := fillC c slot bv true true sw fr kw) (i := 9) (v := .bool true) g3 lt3 (by simp [fillC, Cf.c]) rfl
    simp at E3
    simp [q0, q3, E3, a4]
    have nb0 : (x :: D) ≠ [] := by simp
    refine ⟨sw, kw, fr, X, X, x :: D, true, hX, hD, (if_neg nb0).symm, sl_keepH S3 K4 (fun d hd e => nsw (e ▸ hd)), sl_keepH SD K4 (fun d hd e => nk (e ▸ hkw d hd)), fun d hd => ?_, hkw, g4, ?_, rfl⟩
    · rcases hw d hd with z | z
      · exact .inl z
      · exact .inr (Nat.le_trans K1.1 z)
    · exact (K1.weak (Nat.le_refl _) fun _ _ q => q.elim).trans ((K13.trans (K4.weak K13.1 fun _ _ q => q)).weak K1.1 fun _ _ q => q)
  | nil =>
    simp at E3
    simp [q0, q3, E3]
    have gz3 : h3.get zb = some (.cells (st.map ii) false) := by rw [K13.2 zb lz nz]; exact gz
    have hX12 : ∀ s, s ∈ X → s < 12 := by
      intro s hs
      rw [hX] at hs
      split at hs
      · exact hsc s hs
      · have := (List.mem_filter.1 hs).1
        rw [List.mem_range] at this
        omega
    have hXl : X.length ≤ 12 := by
      rw [hX]
      split
      · exact hscl
      · exact Nat.le_trans (upS_len _ _ _) S12
    obtain ⟨E, hE⟩ : ∃ E, (X.dropWhile fun s => !isUp st s) = E := ⟨_, rfl⟩
    have Fin : ∀ (Y : List Nat) (sw' : AV) (fr' : ByteArray) (busy : Bool) (h4 : Heap), Y = E → Sl 1 Y.length h4 sw' (Y.map nn) → (∀ d, Has sw' d → Has sw d) → h4.get b = some (.cells (fillC c slot bv true busy sw' fr' kw) false) → Keep h3.next (fun d => d = b) h3 h4 →
        NextR h c slot b bv begun sv kv scans l st (match Y with | s :: _ => .tup [.int .i64 1, .int .i64 (s : Nat), .str fr'] | [] => .tup [.int .i64 3, .int .i64 0, .str ⟨#[]⟩]) h4 := by
      intro Y sw' fr' busy h4 e S4 hs4 g4 K4
      subst e
      refine ⟨sw', kw, fr', X, Y, [], busy, hX, hD, by rw [if_pos rfl]; exact hE.symm, S4, sl_keepH SD K4 (fun d hd e => nk (e ▸ hkw d hd)), fun d hd => ?_, hkw, g4, ?_, rfl⟩
      · rcases hw d (hs4 d hd) with z | z
        · exact .inl z
        · exact .inr (Nat.le_trans K1.1 z)
      · exact (K1.weak (Nat.le_refl _) fun _ _ q => q.elim).trans ((K13.trans (K4.weak K13.1 fun _ _ q => q)).weak K1.1 fun _ _ q => q)
    refine W_loop (fun mm s => ∃ (Y : List Nat) (sx : AV) (fx : ByteArray), mm = Y.length ∧ s.t.get 0 = some (.ptr b 0) ∧ s.t.get 3 = some (.ptr zb 0) ∧ (Y.dropWhile fun s => !isUp st s) = E ∧ (∀ s, s ∈ Y → s < 12) ∧ Sl 1 Y.length s.h sx (Y.map nn) ∧ (∀ d, Has sx d → Has sw d) ∧ s.h.get b = some (.cells (fillC c slot bv true false sx fx kw) false) ∧ Keep h3.next (fun d => d = b) h3 s.h) X.length (by omega) ⟨X, sw, fr, rfl, by simp [q0], by simp [q3], hE, hX12, S3, fun _ q => q, g3, Keep.refl _ _ _⟩ ?_
    rintro mm ⟨t, h4⟩ ⟨Y, sx, fx, rfl, q0, q3, hY, hY12, SY, hsx, g4, K4⟩
    simp only at q0 q3 SY g4 K4
    have lt4 : b < h4.next := Nat.lt_of_lt_of_le lt3 K4.1
    have nsx : ¬ Has sx b := fun q => nsw (hsx b q)
    have l10 : aload Try.prog h4 35 b 10 = some sx := ldc g4 ta35 rfl
    have lY := SY.len'
    cases Y with
    | nil =>
      simp at hY
      simp [q0, q3, l10, lY]
      exact Fin [] sx fx false h4 hY.symm SY hsx g4 K4
    | cons s Y =>
      have hs12 := hY12 s (by simp)
      have gz4 : h4.get zb = some (.cells (st.map ii) false) := by rw [K4.2 zb (Nat.lt_of_lt_of_le lz K13.1) nz]; exact gz3
      obtain ⟨x, hx⟩ : ∃ x, st[s]? = some x := ⟨st[s], by simp⟩
      have ix : aindex Try.prog 28 (.ptr zb 0) (.int .i64 (s : Nat)) = some (.ptr zb s) := by
        simp [aindex, Try.underlying28]
        omega
      have ld : aload Try.prog h4 3 zb s = some (.int .i64 x) := ldc gz4 ta3 (ii_get hx)
      have ix0 : aindex Try.prog 35 sx (.int .i64 0) = some (.ptr sx.blk sx.off) := SY.idx1 (P := Try.prog) Try.underlying35 ts3 (j := 0) (by simp) .i64
      have ld0 : aload Try.prog h4 3 sx.blk sx.off = some (.int .i64 (s : Nat)) := SY.ld ta3 (j := 0) rfl
      have l11 : aload Try.prog h4 9 b 11 = some (.str fx) := ldc g4 ta9 rfl
      by_cases q2 : x = 2
      · have up : isUp st s = true := decide_eq_true (by rw [hx, q2])
        have HY : s :: Y = E := by simpa [up] using hY
        obtain ⟨h5, a5, g5, K5, lt5⟩ := fset (C' := fillC c slot bv true true sx fx kw) (i := 9) (v := .bool true) g4 lt4 (by simp [fillC, Cf.c]) rfl
        have l11 : aload Try.prog h5 9 b 11 = some (.str fx) := ldc g5 ta9 rfl
        simp [q0, q3, l10, lY, (show ¬ ((Y.length : Int) + 1 ≤ 0) by omega), ix0, ld0, ix, ld, q2, a5, l11]
        exact Fin (s :: Y) sx fx true h5 HY (sl_keepH SY K5 (fun d hd e => nsx (e ▸ hd))) hsx g5 (K4.trans (K5.weak K4.1 fun _ _ q => q))
      · have up : isUp st s = false := decide_eq_false (by rw [hx]; simpa using q2)
        simp [up] at hY
        obtain ⟨sy, s1, S5⟩ := SY.from (P := Try.prog) (ty := 35) Try.underlying35 ts3 (k := .i64) (j := 1) (by simp)
        have s1' : aslice Try.prog 35 sx (some (.int .i64 1)) none none = some sy := s1
        have hy' : ∀ d, Has sy d → Has sx d := fun d hd => tail_int SY s1 hd
        have ob := S5.oneV
        have rwb := row1_one ob
        obtain ⟨h5, a5, g5, K5, lt5⟩ := fset (C' := fillC c slot bv true false sy fx kw) (i := 10) (v := sy) g4 lt4 (by simp [fillC, Cf.c]) rfl
        obtain ⟨h6, a6, g6, K6, lt6⟩ := fset (C' := fillC c slot bv true false sy ⟨#[]⟩ kw) (i := 11) (v := .str ⟨#[]⟩) g5 lt5 (by simp [fillC, Cf.c]) rfl
        simp [q0, q3, l10, lY, (show ¬ ((Y.length : Int) + 1 ≤ 0) by omega), ix0, ld0, ix, ld, q2, s1', ob, rwb, a5, a6]
        have nsy : ¬ Has sy b := fun q => nsx (hy' b q)
        have S6 : Sl 1 Y.length h6 sy (Y.map nn) := by
          have := sl_keepH (sl_keepH S5 K5 (fun d hd e => nsy (e ▸ hd))) K6 (fun d hd e => nsy (e ▸ hd))
          simpa using this
        have K46 : Keep h3.next (fun d => d = b) h3 h6 := (K4.trans (K5.weak K4.1 fun _ _ q => q)).trans (K6.weak (Nat.le_trans K4.1 K5.1) fun _ _ q => q)
        exact ⟨Y.length, by omega, Y, rfl, hY, fun z hz => hY12 z (by simp [hz]), sy, S6, fun d hd => hsx d (hy' d hd), ⟨_, g6⟩, K46⟩
end Go.Proofs.Ytangdhaihhgjkaa
/- fill: Keyed, Scanned. -/
namespace Go.Proofs.Ytangdhaihhgjkaa
open Go Go.YtangdhaihhgjkaaAbs
set_option linter.unusedSimpArgs false
set_option linter.unusedVariables false
set_option maxRecDepth 4000

theorem nil_strs {t : Tr AV} {d : Option Tmp} {tv v : TypeId} {x : Operand} {pos : String} {af : Array Edge} {g : Option (Nat × Bool)} (hx : ev t x = .nils) : aback0 Try.prog t ⟨d, .binOp .eql 32 x (.const (.slice none 0 0)) tv, v, pos, af, g⟩ = some (.bool true) := nils_eql hx rfl Try.underlying32
theorem sclone_ok (k : Nat) (h : Heap) (v : AV) (l : List ByteArray) (S : Sl 1 l.length h v (l.map ss)) (hl : l.length < 10000) :
    ∃ v' h', acall Try.prog (k + 1) 24 [v] h = some (v', h') ∧ Mine 1 l.length h' v' (l.map ss) ∧ (∀ d, Has v' d → h.next ≤ d) ∧ Keep h.next nob h h' := by
  rw [acall_text [] Try.func24 (by kernel_rfl)]
  refine afuncT_ex rfl (by simp [Try.f24]) ?_
  by_cases hv : v = .nils
  · subst hv
    have e : l = [] := by
      rcases S with ⟨_, e, _⟩ | ⟨q, _⟩ | ⟨_, _, _, _, _, _, q, _⟩
      · simpa using e
      · cases q
      · cases q
    subst e
    simp [Try.f24, nil_strs]
    exact ⟨Mine.nil 1 h, (fun d hd => by cases hd), Keep.refl _ _ _⟩
  have en : aeql Try.prog 32 v .nils = some false := by
    rcases S with ⟨q, _⟩ | ⟨rfl, _⟩ | ⟨b, i, cap, ex, c, ro, rfl, _⟩
    · exact absurd q hv
    · simp [aeql, Try.underlying32]
    · simp [aeql, Try.underlying32]
  have V0 : Mine 1 0 (h.new (.cells [] false)) (.sl h.next 0 0 0 1 true) [] := by
    have := Mine.new (sz := 1) (n := 0) (m := 0) h [] (by simp) (Nat.le_refl _) (by simp) true
    simpa using this
  have k0 : Keep h.next nob h (h.new (.cells [] false)) := Keep.new (Nat.le_refl _) _
  have S' := S.ext k0
  obtain ⟨w, h3, b1, b2, b3, b4⟩ := V0.append (P := Try.prog) el32 (xt := 32) (by rw [Try.underlying32]; rfl) S'.alen S'.acells (ss_one l) (by simp) (by omega)
  simp [Try.f24, en, aalloc, afill, b1]
  refine ⟨by simpa using b2, fun d hd => ?_, ⟨Nat.le_trans k0.1 b4.1, fun d hd _ => ?_⟩⟩
  · rcases b3 d hd with z | z
    · cases z; exact Nat.le_refl _
    · exact Nat.le_trans k0.1 z
  · rw [b4.2 d (Nat.lt_of_lt_of_le hd k0.1) (fun q => by cases q; omega), k0.2 d hd id]
theorem keyed_ok (k : Nat) (h : Heap) (c : Cf) (slot b : Nat) (bv : AV) (begun busy : Bool) (sv : AV) (fr : ByteArray) (kv : AV) (g : h.get b = some (.cells (fillC c slot bv begun busy sv fr kv) false)) (lt : b < h.next) :
    ∃ v' h', acall Try.prog (k + 1) 11 [.ptr b 0] h = some (v', h') ∧ v' = .tup [] ∧ h'.get b = some (.cells (fillC c slot bv begun false sv fr kv) false) ∧ Keep h.next (fun d => d = b) h h' := by
  rw [acall_text [] Try.func11 (by kernel_rfl)]
  refine afuncT_ex rfl (by simp [Try.f11]) ?_
  obtain ⟨h2, a2, g2, K2, lt2⟩ := fset (C' := fillC c slot bv begun false sv fr kv) (i := 9) (v := .bool false) g lt (by simp [fillC, Cf.c]) rfl
  simp [Try.f11, a2]
  exact ⟨g2, K2⟩
theorem scanned_ok (k : Nat) (h : Heap) (c : Cf) (slot b : Nat) (bv : AV) (begun busy : Bool) (sv : AV) (fr : ByteArray) (kv : AV) (s : Nat) (Y : List Nat) (v : AV) (l : List ByteArray)
    (g : h.get b = some (.cells (fillC c slot bv begun busy sv fr kv) false)) (lt : b < h.next) (Ss : Sl 1 (s :: Y).length h sv ((s :: Y).map nn)) (S : Sl 1 l.length h v (l.map ss)) (ns : ¬ Has sv b) (nv : ¬ Has v b) (hl : l.length < 10000) (ok : kv.one = true) :
    ∃ v' h', acall Try.prog (k + 2) 10 [.ptr b 0, v, .bool true] h = some (v', h') ∧ v' = .tup [] ∧ Keep h.next (fun d => d = b) h h' ∧
      ((l = [] ∧ ∃ sv' fr', Sl 1 Y.length h' sv' (Y.map nn) ∧ (∀ d, Has sv' d → Has sv d) ∧ h'.get b = some (.cells (fillC c slot bv begun false sv' fr' kv) false)) ∨
       (l ≠ [] ∧ ∃ kv' fr', Sl 1 l.length h' kv' (l.map ss) ∧ (∀ d, Has kv' d → h.next ≤ d) ∧ h'.get b = some (.cells (fillC c slot bv begun false sv fr' kv') false))) := by
  rw [acall_text [1] Try.func10 (by kernel_rfl)]
  refine afuncT_ex rfl (by simp [Try.f10]) ?_
  obtain ⟨h1, a1, g1, K1, lt1⟩ := fset (C' := fillC c slot bv begun false sv fr kv) (i := 9) (v := .bool false) g lt (by simp [fillC, Cf.c]) rfl
  have l10 : aload Try.prog h1 35 b 10 = some sv := ldc g1 ta35 rfl
  have Ss1 := sl_keepH Ss K1 (fun d hd e => ns (e ▸ hd))
  have S1 := sl_keepH S K1 (fun d hd e => nv (e ▸ hd))
  have ls := Ss1.len'
  have lv := S1.len'
  by_cases hn : l = []
  · subst hn
    obtain ⟨sy, s1, S5⟩ := Ss1.from (P := Try.prog) (ty := 35) Try.underlying35 ts3 (k := .i64) (j := 1) (by simp)
    have s1' : aslice Try.prog 35 sv (some (.int .i64 1)) none none = some sy := s1
    have hy' : ∀ d, Has sy d → Has sv d := fun d hd => tail_int Ss1 s1 hd
    have ob := S5.oneV
    have rwb := row1_one ob
    obtain ⟨h5, a5, g5, K5, lt5⟩ := fset (C' := fillC c slot bv begun false sy fr kv) (i := 10) (v := sy) g1 lt1 (by simp [fillC, Cf.c]) rfl
    obtain ⟨h6, a6, g6, K6, lt6⟩ := fset (C' := fillC c slot bv begun false sy ⟨#[]⟩ kv) (i := 11) (v := .str ⟨#[]⟩) g5 lt5 (by simp [fillC, Cf.c]) rfl
    have nsy : ¬ Has sy b := fun q => ns (hy' b q)
    have S6 : Sl 1 Y.length h6 sy (Y.map nn) := by
      have := sl_keepH (sl_keepH S5 K5 (fun d hd e => nsy (e ▸ hd))) K6 (fun d hd e => nsy (e ▸ hd))
      simpa using this
    have K16 : Keep h.next (fun d => d = b) h h6 := (K1.trans (K5.weak K1.1 fun _ _ q => q)).trans (K6.weak (Nat.le_trans K1.1 K5.1) fun _ _ q => q)
    simp [Try.f10, a1, l10, ls, lv, (show ¬ ((Y.length : Int) + 1 = 0) by omega), s1', ob, rwb, a5, a6]
    exact ⟨K16, sy, S6, hy', ⟨_, g6⟩⟩
  · have l0 : 0 < l.length := List.length_pos_iff.2 hn
    obtain ⟨kv', h2, E2, M2, F2, K2⟩ := sclone_ok k h1 v l S1 hl
    have ob := M2.oneV
    have rwb := row1_one ob
    obtain ⟨y, hy⟩ : ∃ y, l[l.length - 1]? = some y := ⟨l[l.length - 1], by simp⟩
    have S2 := S1.ext K2
    have ix := S2.idx1 (P := Try.prog) Try.underlying32 ts9 (j := l.length - 1) (by omega) .i64
    have ld : aload Try.prog h2 9 v.blk (v.off + (l.length - 1)) = some (.str y) := S2.ld ta9 (by rw [List.getElem?_map, hy]; rfl)
    have g2 : h2.get b = some (.cells (fillC c slot bv begun false sv fr kv) false) := by rw [K2.2 b lt1 id]; exact g1
    have lt2 : b < h2.next := Nat.lt_of_lt_of_le lt1 K2.1
    obtain ⟨h5, a5, g5, K5, lt5⟩ := fset (C' := fillC c slot bv begun false sv fr kv') (i := 12) (v := kv') g2 lt2 (by simp [fillC, Cf.c]) rfl
    obtain ⟨h6, a6, g6, K6, lt6⟩ := fset (C' := fillC c slot bv begun false sv y kv') (i := 11) (v := .str y) g5 lt5 (by simp [fillC, Cf.c]) rfl
    have ag : Agree h1.next h1 h2 := fun d hd => K2.2 d hd id
    simp [Try.f10, a1, l10, ls, lv, (show ¬ ((Y.length : Int) + 1 = 0) by omega), hn]
    refine W_split 10 h1.next (by rfl) (by kernel_rfl) (by rfl) ?_
    dsimp only [List.take, List.drop]
    have fw : fwrap .i64 ((l.length : Int) - 1) = ((l.length - 1 : Nat) : Int) := by rw [i64w _ (by omega) (by omega)]; omega
    have lvv : vlen (some v) (some (.slice 9)) = some (.int .i64 (l.length : Nat)) := S1.len _
    simp [obl, mayEff, mayRead, sameAV, E2, ag, lv, lvv, ix, ld, fw, rwb, ob, a5, a6]
    have K02 : Keep h.next (fun d => d = b) h h2 := K1.trans (K2.weak K1.1 fun _ _ q => q.elim)
    have K06 : Keep h.next (fun d => d = b) h h6 := (K02.trans (K5.weak K02.1 fun _ _ q => q)).trans (K6.weak (Nat.le_trans K02.1 K5.1) fun _ _ q => q)
    have nkb : ¬ Has kv' b := fun q => by have := F2 b q; omega
    exact ⟨S1.blk_lt l0, K06, .inr ⟨hn, kv', sl_keepH (sl_keepH M2.sl K5 (fun d hd e => nkb (e ▸ hd))) K6 (fun d hd e => nkb (e ▸ hd)), fun d hd => Nat.le_trans K1.1 (F2 d hd), ⟨_, g6⟩⟩⟩
end Go.Proofs.Ytangdhaihhgjkaa
/- depotbook.Same of texts. -/
namespace Go.Proofs.Ytangdhaihhgjkaa
open Go Go.YtangdhaihhgjkaaAbs
set_option linter.unusedSimpArgs false
set_option linter.unusedVariables false
set_option maxRecDepth 4000

theorem sameS_ok (k : Nat) (h : Heap) (v1 v2 : AV) (E : List ByteArray) (S1 : Sl 1 E.length h v1 (E.map ss)) (S2 : Sl 1 E.length h v2 (E.map ss)) (hk : E.length + 2 < k) (hm : E.length < 1000000) :
    acall Try.prog (k + 1) 15 [v1, v2] h = some (.bool true, h) := by
  rw [acall_text [] Try.func15 (by kernel_rfl)]
  refine afuncT_of rfl (by simp [Try.f15]) ?_
  have l1 := S1.len'
  have l2 := S2.len'
  obtain ⟨n, hn⟩ : ∃ n, E.length = n := ⟨_, rfl⟩
  rw [hn] at l1 l2 S1 S2 hk hm
  simp [Try.f15, l1, l2]
  refine W_loop (fun m st => ∃ j, m = n - j ∧ j ≤ n ∧ st.h = h ∧ st.t.get 0 = some v1 ∧ st.t.get 1 = some v2 ∧ st.t.get 5 = some (.int .i64 (j : Nat))) n (by omega) ⟨0, by simp⟩ ?_
  rintro m ⟨t, h'⟩ ⟨j, rfl, hj, rfl, q0, q1, q5⟩
  simp only at q0 q1 q5 S1 S2
  by_cases hlt : j < n
  · obtain ⟨x, hx⟩ : ∃ x, E[j]? = some x := ⟨E[j], by simp⟩
    have hx' : (E.map ss)[j]? = some (.str x) := by rw [List.getElem?_map, hx]; rfl
    have i1 := S1.idx1 (P := Try.prog) Try.underlying32 ts9 (j := j) hlt .i64
    have i2 := S2.idx1 (P := Try.prog) Try.underlying32 ts9 (j := j) hlt .i64
    have d1 : aload Try.prog h' 9 v1.blk (v1.off + j) = some (.str x) := S1.ld ta9 hx'
    have d2 : aload Try.prog h' 9 v2.blk (v2.off + j) = some (.str x) := S2.ld ta9 hx'
    simp [q0, q1, q5, l1, isLt (show (j : Int) < (n : Int) by omega), i1, d1, i2, d2, i64w ((j : Int) + 1) (by omega) (by omega)]
    exact ⟨n - (j + 1), by omega, j + 1, rfl, by omega, by simp⟩
  · simp [q0, q1, q5, l1, isLe (show (n : Int) ≤ (j : Int) by omega)]
end Go.Proofs.Ytangdhaihhgjkaa
/- Views that nobody writes. -/
namespace Go.Proofs.Ytangdhaihhgjkaa
open Go Go.YtangdhaihhgjkaaAbs
set_option linter.unusedSimpArgs false
set_option linter.unusedVariables false
set_option maxRecDepth 4000

theorem sl_lt {sz n : Nat} {h : Heap} {v : AV} {l : List AV} (S : Sl sz n h v l) {d : Nat} (hd : Has v d) : d < h.next := by
  rcases S with ⟨rfl, _⟩ | ⟨rfl, _⟩ | ⟨b, i, cap, ex, c, ro, rfl, q, _⟩
  · cases hd
  · cases hd
  · cases hd; exact q
/-- A slice whose block is none of the row's. -/
structure Frz (L : List Th) (h : Heap) (v : AV) (l : List AV) : Prop where
  sl : Sl 1 l.length h v l
  lt : ∀ d, Has v d → d < h.next
  no : ∀ d, Has v d → ¬ Inn L d
section
variable {L L' : List Th} {h h1 : Heap} {v : AV} {l : List AV}
theorem Frz.step (F : Frz L h v l) (K : Keep h.next (Inn L) h h1) (f : Fresh h L L') : Frz L' h1 v l :=
  ⟨sl_keepH F.sl K F.no, fun d hd => Nat.lt_of_lt_of_le (F.lt d hd) K.1, fun d hd q => by
    rcases f d q with z | z
    · exact F.no d hd z
    · have := F.lt d hd; omega⟩
theorem Frz.ext (F : Frz L h v l) (K : Keep h.next nob h h1) : Frz L h1 v l := F.step K.in (Fresh.refl _ _)
theorem Frz.upd (F : Frz L h v l) {i : Nat} {x x' : AV} {o o' : Ob} (hi : L[i]? = some (x, o)) (K : Keep h.next (Has x) h h1) (Fr : From h x x') : Frz (L.set i (x', o')) h1 v l := by
  refine F.step (K.weak (Nat.le_refl _) fun d _ q => in_iff.2 ⟨(x, o), List.mem_of_getElem? hi, q⟩) fun d hd => ?_
  obtain ⟨y, hy, q⟩ := in_iff.1 hd
  rcases List.mem_or_eq_of_mem_set hy with z | z
  · exact .inl (in_iff.2 ⟨y, z, q⟩)
  · subst z
    rcases Fr d q with w | w
    · exact .inl (in_iff.2 ⟨(x, o), List.mem_of_getElem? hi, w⟩)
    · exact .inr w
theorem Frz.snoc (F : Frz L h v l) {x : AV} {o : Ob} (K : Keep h.next nob h h1) (Fr : ∀ d, Has x d → h.next ≤ d) : Frz (L ++ [(x, o)]) h1 v l := by
  refine F.step K.in fun d hd => ?_
  obtain ⟨y, hy, q⟩ := in_iff.1 hd
  rcases List.mem_append.1 hy with z | z
  · exact .inl (in_iff.2 ⟨y, z, q⟩)
  · rw [List.mem_singleton] at z
    subst z
    exact .inr (Fr d q)
theorem Frz.drop {A B : List Th} (F : Frz (A ++ B) h v l) : Frz A h v l := ⟨F.sl, F.lt, fun d hd q => F.no d hd (in_append.2 (.inl q))⟩
theorem Frz.nil (L : List Th) (h : Heap) : Frz L h .nils [] := ⟨.inl ⟨rfl, rfl, rfl⟩, fun d hd => (by cases hd), fun d hd => (by cases hd)⟩
end
end Go.Proofs.Ytangdhaihhgjkaa
