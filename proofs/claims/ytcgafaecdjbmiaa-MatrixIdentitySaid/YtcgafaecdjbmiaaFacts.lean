/- Facts on the seat's types and functions, for stepping. -/
import Derived.Test.YtcgafaecdjbmiaaProg
import Derived.Test.YtcgafaecdjbmiaaAbsV
namespace Go.Proofs.Ytcgafaecdjbmiaa
open Go Go.YtcgafaecdjbmiaaAbs
def zz22 : List AV := List.replicate 510 (.int .u8 0)
@[simp] theorem zz22_one : zz22.all AV.one = true := by decide +kernel
@[simp] theorem zz22_len : zz22.length = 510 := by decide +kernel
def zz23 : List AV := List.replicate 256 (.int .u8 0)
@[simp] theorem zz23_one : zz23.all AV.one = true := by decide +kernel
@[simp] theorem zz23_len : zz23.length = 256 := by decide +kernel
def zz24 : List AV := List.replicate 766 (.int .u8 0)
@[simp] theorem zz24_one : zz24.all AV.one = true := by decide +kernel
@[simp] theorem zz24_len : zz24.length = 766 := by decide +kernel
def zz25 : List AV := List.replicate 766 (.int .u8 0)
@[simp] theorem zz25_one : zz25.all AV.one = true := by decide +kernel
@[simp] theorem zz25_len : zz25.length = 766 := by decide +kernel
@[simp] theorem ts2 : tsize Try.prog 2 = some 1 := by kernel_rfl
@[simp] theorem ta2 : tagg Try.prog 2 = some false := by kernel_rfl
@[simp] theorem az2 : azero Try.prog 2 = some ([(.int .i64 0)]) := by kernel_rfl
@[simp] theorem azv2 : azerov Try.prog 2 = some (.int .i64 0) := by kernel_rfl
@[simp] theorem ts3 : tsize Try.prog 3 = some 1 := by kernel_rfl
@[simp] theorem ta3 : tagg Try.prog 3 = some false := by kernel_rfl
@[simp] theorem az3 : azero Try.prog 3 = some ([(.int .i64 0)]) := by kernel_rfl
@[simp] theorem azv3 : azerov Try.prog 3 = some (.int .i64 0) := by kernel_rfl
@[simp] theorem ts4 : tsize Try.prog 4 = some 1 := by kernel_rfl
@[simp] theorem ta4 : tagg Try.prog 4 = some false := by kernel_rfl
@[simp] theorem az4 : azero Try.prog 4 = some ([(.bool false)]) := by kernel_rfl
@[simp] theorem azv4 : azerov Try.prog 4 = some (.bool false) := by kernel_rfl
@[simp] theorem ts5 : tsize Try.prog 5 = some 1 := by kernel_rfl
@[simp] theorem ta5 : tagg Try.prog 5 = some false := by kernel_rfl
@[simp] theorem az5 : azero Try.prog 5 = some ([(.int .u8 0)]) := by kernel_rfl
@[simp] theorem azv5 : azerov Try.prog 5 = some (.int .u8 0) := by kernel_rfl
@[simp] theorem ts9 : tsize Try.prog 9 = some 1 := by kernel_rfl
@[simp] theorem ta9 : tagg Try.prog 9 = some false := by kernel_rfl
@[simp] theorem az9 : azero Try.prog 9 = some ([(.str .empty)]) := by kernel_rfl
@[simp] theorem azv9 : azerov Try.prog 9 = some (.str .empty) := by kernel_rfl
@[simp] theorem ts12 : tsize Try.prog 12 = some 1 := by kernel_rfl
@[simp] theorem ta12 : tagg Try.prog 12 = some false := by kernel_rfl
@[simp] theorem az12 : azero Try.prog 12 = some ([(.int .u64 0)]) := by kernel_rfl
@[simp] theorem azv12 : azerov Try.prog 12 = some (.int .u64 0) := by kernel_rfl
@[simp] theorem ts13 : tsize Try.prog 13 = some 2 := by kernel_rfl
@[simp] theorem ta13 : tagg Try.prog 13 = some true := by kernel_rfl
@[simp] theorem az13 : azero Try.prog 13 = some ([(.str .empty), (.int .u64 0)]) := by kernel_rfl
@[simp] theorem azv13 : azerov Try.prog 13 = some (.agg ([(.str .empty), (.int .u64 0)])) := by kernel_rfl
@[simp] theorem af13_0 : afield Try.prog 13 0 = some (0, 9) := by kernel_rfl
@[simp] theorem af13_1 : afield Try.prog 13 1 = some (1, 12) := by kernel_rfl
@[simp] theorem ts21 : tsize Try.prog 21 = some 1 := by kernel_rfl
@[simp] theorem ta21 : tagg Try.prog 21 = some false := by kernel_rfl
@[simp] theorem az21 : azero Try.prog 21 = some ([(.int .i32 0)]) := by kernel_rfl
@[simp] theorem azv21 : azerov Try.prog 21 = some (.int .i32 0) := by kernel_rfl
@[simp] theorem ts22 : tsize Try.prog 22 = some 510 := by kernel_rfl
@[simp] theorem ta22 : tagg Try.prog 22 = some true := by kernel_rfl
@[simp] theorem az22 : azero Try.prog 22 = some (zz22) := by kernel_rfl
@[simp] theorem azv22 : azerov Try.prog 22 = some (.agg (zz22)) := by kernel_rfl
@[simp] theorem ts23 : tsize Try.prog 23 = some 256 := by kernel_rfl
@[simp] theorem ta23 : tagg Try.prog 23 = some true := by kernel_rfl
@[simp] theorem az23 : azero Try.prog 23 = some (zz23) := by kernel_rfl
@[simp] theorem azv23 : azerov Try.prog 23 = some (.agg (zz23)) := by kernel_rfl
@[simp] theorem ts24 : tsize Try.prog 24 = some 766 := by kernel_rfl
@[simp] theorem ta24 : tagg Try.prog 24 = some true := by kernel_rfl
@[simp] theorem az24 : azero Try.prog 24 = some (zz24) := by kernel_rfl
@[simp] theorem azv24 : azerov Try.prog 24 = some (.agg (zz24)) := by kernel_rfl
@[simp] theorem af24_0 : afield Try.prog 24 0 = some (0, 22) := by kernel_rfl
@[simp] theorem af24_1 : afield Try.prog 24 1 = some (510, 23) := by kernel_rfl
@[simp] theorem ts25 : tsize Try.prog 25 = some 766 := by kernel_rfl
@[simp] theorem ta25 : tagg Try.prog 25 = some true := by kernel_rfl
@[simp] theorem az25 : azero Try.prog 25 = some (zz25) := by kernel_rfl
@[simp] theorem azv25 : azerov Try.prog 25 = some (.agg (zz25)) := by kernel_rfl
@[simp] theorem af25_0 : afield Try.prog 25 0 = some (0, 22) := by kernel_rfl
@[simp] theorem af25_1 : afield Try.prog 25 1 = some (510, 23) := by kernel_rfl
@[simp] theorem ts27 : tsize Try.prog 27 = some 1 := by kernel_rfl
@[simp] theorem ta27 : tagg Try.prog 27 = some false := by kernel_rfl
@[simp] theorem az27 : azero Try.prog 27 = some ([(.nils)]) := by kernel_rfl
@[simp] theorem azv27 : azerov Try.prog 27 = some (.nils) := by kernel_rfl
theorem el27 : Elem Try.prog 27 31 1 24 := Elem.of (by kernel_rfl)
@[simp] theorem ts30 : tsize Try.prog 30 = some 1 := by kernel_rfl
@[simp] theorem ta30 : tagg Try.prog 30 = some false := by kernel_rfl
@[simp] theorem az30 : azero Try.prog 30 = some ([(.nilp)]) := by kernel_rfl
@[simp] theorem azv30 : azerov Try.prog 30 = some (.nilp) := by kernel_rfl
@[simp] theorem ts31 : tsize Try.prog 31 = some 1 := by kernel_rfl
@[simp] theorem ta31 : tagg Try.prog 31 = some false := by kernel_rfl
@[simp] theorem az31 : azero Try.prog 31 = some ([(.nils)]) := by kernel_rfl
@[simp] theorem azv31 : azerov Try.prog 31 = some (.nils) := by kernel_rfl
theorem el31 : Elem Try.prog 31 5 1 1 := Elem.of (by kernel_rfl)
@[simp] theorem ts37 : tsize Try.prog 37 = some 1 := by kernel_rfl
@[simp] theorem ta37 : tagg Try.prog 37 = some false := by kernel_rfl
@[simp] theorem az37 : azero Try.prog 37 = some ([(.nils)]) := by kernel_rfl
@[simp] theorem azv37 : azerov Try.prog 37 = some (.nils) := by kernel_rfl
theorem el37 : Elem Try.prog 37 3 1 8 := Elem.of (by kernel_rfl)
@[simp] theorem ts53 : tsize Try.prog 53 = some 1 := by kernel_rfl
@[simp] theorem ta53 : tagg Try.prog 53 = some false := by kernel_rfl
@[simp] theorem az53 : azero Try.prog 53 = some ([(.int .u64 0)]) := by kernel_rfl
@[simp] theorem azv53 : azerov Try.prog 53 = some (.int .u64 0) := by kernel_rfl
@[simp] theorem ts71 : tsize Try.prog 71 = some 1 := by kernel_rfl
@[simp] theorem ta71 : tagg Try.prog 71 = some false := by kernel_rfl
@[simp] theorem az71 : azero Try.prog 71 = some ([(.int .u32 0)]) := by kernel_rfl
@[simp] theorem azv71 : azerov Try.prog 71 = some (.int .u32 0) := by kernel_rfl
@[simp] theorem ts75 : tsize Try.prog 75 = some 1 := by kernel_rfl
@[simp] theorem ta75 : tagg Try.prog 75 = some false := by kernel_rfl
@[simp] theorem az75 : azero Try.prog 75 = some ([(.nilp)]) := by kernel_rfl
@[simp] theorem azv75 : azerov Try.prog 75 = some (.nilp) := by kernel_rfl
@[simp] theorem ng3 : nogo Try.f3 = false := by kernel_rfl
attribute [simp] Try.func3
@[simp] theorem ng4 : nogo Try.f4 = false := by kernel_rfl
attribute [simp] Try.func4
@[simp] theorem ng5 : nogo Try.f5 = false := by kernel_rfl
attribute [simp] Try.func5
@[simp] theorem ng6 : nogo Try.f6 = false := by kernel_rfl
attribute [simp] Try.func6
@[simp] theorem ng7 : nogo Try.f7 = false := by kernel_rfl
attribute [simp] Try.func7
@[simp] theorem ng8 : nogo Try.f8 = false := by kernel_rfl
attribute [simp] Try.func8
@[simp] theorem ng9 : nogo Try.f9 = false := by kernel_rfl
attribute [simp] Try.func9
@[simp] theorem ng10 : nogo Try.f10 = false := by kernel_rfl
attribute [simp] Try.func10
@[simp] theorem ng11 : nogo Try.f11 = false := by kernel_rfl
attribute [simp] Try.func11
@[simp] theorem ng12 : nogo Try.f12 = false := by kernel_rfl
attribute [simp] Try.func12
@[simp] theorem ng13 : nogo Try.f13 = false := by kernel_rfl
attribute [simp] Try.func13
@[simp] theorem ng14 : nogo Try.f14 = false := by kernel_rfl
attribute [simp] Try.func14
@[simp] theorem ng15 : nogo Try.f15 = false := by kernel_rfl
attribute [simp] Try.func15
@[simp] theorem ng16 : nogo Try.f16 = false := by kernel_rfl
attribute [simp] Try.func16
@[simp] theorem ng17 : nogo Try.f17 = false := by kernel_rfl
attribute [simp] Try.func17
@[simp] theorem ng18 : nogo Try.f18 = false := by kernel_rfl
attribute [simp] Try.func18
@[simp] theorem ng19 : nogo Try.f19 = false := by kernel_rfl
attribute [simp] Try.func19
@[simp] theorem ng20 : nogo Try.f20 = false := by kernel_rfl
attribute [simp] Try.func20
@[simp] theorem ng21 : nogo Try.f21 = false := by kernel_rfl
attribute [simp] Try.func21
@[simp] theorem ng22 : nogo Try.f22 = false := by kernel_rfl
attribute [simp] Try.func22
@[simp] theorem ng23 : nogo Try.f23 = false := by kernel_rfl
attribute [simp] Try.func23
@[simp] theorem ng24 : nogo Try.f24 = false := by kernel_rfl
attribute [simp] Try.func24
@[simp] theorem ng25 : nogo Try.f25 = false := by kernel_rfl
attribute [simp] Try.func25
@[simp] theorem ng26 : nogo Try.f26 = false := by kernel_rfl
attribute [simp] Try.func26
@[simp] theorem ng27 : nogo Try.f27 = false := by kernel_rfl
attribute [simp] Try.func27
@[simp] theorem ng28 : nogo Try.f28 = false := by kernel_rfl
attribute [simp] Try.func28
@[simp] theorem ng29 : nogo Try.f29 = false := by kernel_rfl
attribute [simp] Try.func29
@[simp] theorem ng30 : nogo Try.f30 = false := by kernel_rfl
attribute [simp] Try.func30
@[simp] theorem ng31 : nogo Try.f31 = false := by kernel_rfl
attribute [simp] Try.func31
@[simp] theorem ng32 : nogo Try.f32 = false := by kernel_rfl
attribute [simp] Try.func32
@[simp] theorem ng33 : nogo Try.f33 = false := by kernel_rfl
attribute [simp] Try.func33
@[simp] theorem ng34 : nogo Try.f34 = false := by kernel_rfl
attribute [simp] Try.func34
@[simp] theorem ng35 : nogo Try.f35 = false := by kernel_rfl
attribute [simp] Try.func35
@[simp] theorem ng36 : nogo Try.f36 = false := by kernel_rfl
attribute [simp] Try.func36
end Go.Proofs.Ytcgafaecdjbmiaa
