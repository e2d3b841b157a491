/- Facts on the seat's types and functions, for stepping. -/
import Derived.Test.YtddlhjhjaggppaaProg
import Derived.Test.YtddlhjhjaggppaaAbsV
namespace Go.Proofs.Ytddlhjhjaggppaa
open Go Go.YtddlhjhjaggppaaAbs
@[simp] theorem ts2 : tsize Try.prog 2 = some 1 := by kernel_rfl
@[simp] theorem ta2 : tagg Try.prog 2 = some false := by kernel_rfl
@[simp] theorem az2 : azero Try.prog 2 = some ([(.int .i64 0)]) := by kernel_rfl
@[simp] theorem azv2 : azerov Try.prog 2 = some (.int .i64 0) := by kernel_rfl
@[simp] theorem ts3 : tsize Try.prog 3 = some 1 := by kernel_rfl
@[simp] theorem ta3 : tagg Try.prog 3 = some false := by kernel_rfl
@[simp] theorem az3 : azero Try.prog 3 = some ([(.int .i64 0)]) := by kernel_rfl
@[simp] theorem azv3 : azerov Try.prog 3 = some (.int .i64 0) := by kernel_rfl
@[simp] theorem ts4 : tsize Try.prog 4 = some 1 := by kernel_rfl
@[simp] theorem ta4 : tagg Try.prog 4 = some false := by kernel_rfl
@[simp] theorem az4 : azero Try.prog 4 = some ([(.bool false)]) := by kernel_rfl
@[simp] theorem azv4 : azerov Try.prog 4 = some (.bool false) := by kernel_rfl
@[simp] theorem ts5 : tsize Try.prog 5 = some 1 := by kernel_rfl
@[simp] theorem ta5 : tagg Try.prog 5 = some false := by kernel_rfl
@[simp] theorem az5 : azero Try.prog 5 = some ([(.int .u8 0)]) := by kernel_rfl
@[simp] theorem azv5 : azerov Try.prog 5 = some (.int .u8 0) := by kernel_rfl
@[simp] theorem ts9 : tsize Try.prog 9 = some 1 := by kernel_rfl
@[simp] theorem ta9 : tagg Try.prog 9 = some false := by kernel_rfl
@[simp] theorem az9 : azero Try.prog 9 = some ([(.str .empty)]) := by kernel_rfl
@[simp] theorem azv9 : azerov Try.prog 9 = some (.str .empty) := by kernel_rfl
@[simp] theorem ts12 : tsize Try.prog 12 = some 1 := by kernel_rfl
@[simp] theorem ta12 : tagg Try.prog 12 = some false := by kernel_rfl
@[simp] theorem az12 : azero Try.prog 12 = some ([(.int .u64 0)]) := by kernel_rfl
@[simp] theorem azv12 : azerov Try.prog 12 = some (.int .u64 0) := by kernel_rfl
@[simp] theorem ts13 : tsize Try.prog 13 = some 2 := by kernel_rfl
@[simp] theorem ta13 : tagg Try.prog 13 = some true := by kernel_rfl
@[simp] theorem az13 : azero Try.prog 13 = some ([(.str .empty), (.int .u64 0)]) := by kernel_rfl
@[simp] theorem azv13 : azerov Try.prog 13 = some (.agg ([(.str .empty), (.int .u64 0)])) := by kernel_rfl
@[simp] theorem af13_0 : afield Try.prog 13 0 = some (0, 9) := by kernel_rfl
@[simp] theorem af13_1 : afield Try.prog 13 1 = some (1, 12) := by kernel_rfl
@[simp] theorem ts21 : tsize Try.prog 21 = some 1 := by kernel_rfl
@[simp] theorem ta21 : tagg Try.prog 21 = some false := by kernel_rfl
@[simp] theorem az21 : azero Try.prog 21 = some ([(.int .i32 0)]) := by kernel_rfl
@[simp] theorem azv21 : azerov Try.prog 21 = some (.int .i32 0) := by kernel_rfl
@[simp] theorem ts22 : tsize Try.prog 22 = some 1 := by kernel_rfl
@[simp] theorem ta22 : tagg Try.prog 22 = some false := by kernel_rfl
@[simp] theorem az22 : azero Try.prog 22 = some ([(.nils)]) := by kernel_rfl
@[simp] theorem azv22 : azerov Try.prog 22 = some (.nils) := by kernel_rfl
theorem el22 : Elem Try.prog 22 3 1 8 := Elem.of (by kernel_rfl)
@[simp] theorem ts29 : tsize Try.prog 29 = some 12 := by kernel_rfl
@[simp] theorem ta29 : tagg Try.prog 29 = some true := by kernel_rfl
@[simp] theorem az29 : azero Try.prog 29 = some ([(.bool false), (.bool false), (.bool false), (.bool false), (.bool false), (.bool false), (.bool false), (.bool false), (.bool false), (.bool false), (.bool false), (.bool false)]) := by kernel_rfl
@[simp] theorem azv29 : azerov Try.prog 29 = some (.agg ([(.bool false), (.bool false), (.bool false), (.bool false), (.bool false), (.bool false), (.bool false), (.bool false), (.bool false), (.bool false), (.bool false), (.bool false)])) := by kernel_rfl
@[simp] theorem ts32 : tsize Try.prog 32 = some 1 := by kernel_rfl
@[simp] theorem ta32 : tagg Try.prog 32 = some false := by kernel_rfl
@[simp] theorem az32 : azero Try.prog 32 = some ([(.int .u32 0)]) := by kernel_rfl
@[simp] theorem azv32 : azerov Try.prog 32 = some (.int .u32 0) := by kernel_rfl
@[simp] theorem ts44 : tsize Try.prog 44 = some 1 := by kernel_rfl
@[simp] theorem ta44 : tagg Try.prog 44 = some false := by kernel_rfl
@[simp] theorem az44 : azero Try.prog 44 = some ([(.nilp)]) := by kernel_rfl
@[simp] theorem azv44 : azerov Try.prog 44 = some (.nilp) := by kernel_rfl
@[simp] theorem ng3 : nogo Try.f3 = false := by kernel_rfl
attribute [simp] Try.func3
@[simp] theorem ng4 : nogo Try.f4 = false := by kernel_rfl
attribute [simp] Try.func4
@[simp] theorem ng5 : nogo Try.f5 = false := by kernel_rfl
attribute [simp] Try.func5
@[simp] theorem ng6 : nogo Try.f6 = false := by kernel_rfl
attribute [simp] Try.func6
@[simp] theorem ng7 : nogo Try.f7 = false := by kernel_rfl
attribute [simp] Try.func7
@[simp] theorem ng8 : nogo Try.f8 = false := by kernel_rfl
attribute [simp] Try.func8
@[simp] theorem ng9 : nogo Try.f9 = false := by kernel_rfl
attribute [simp] Try.func9
@[simp] theorem ng10 : nogo Try.f10 = false := by kernel_rfl
attribute [simp] Try.func10
@[simp] theorem ng11 : nogo Try.f11 = false := by kernel_rfl
attribute [simp] Try.func11
@[simp] theorem ng12 : nogo Try.f12 = false := by kernel_rfl
attribute [simp] Try.func12
@[simp] theorem ng13 : nogo Try.f13 = false := by kernel_rfl
attribute [simp] Try.func13
@[simp] theorem ng14 : nogo Try.f14 = false := by kernel_rfl
attribute [simp] Try.func14
end Go.Proofs.Ytddlhjhjaggppaa
