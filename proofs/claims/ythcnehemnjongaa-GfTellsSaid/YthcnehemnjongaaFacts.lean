/- Facts on the seat's types and functions, for stepping. -/
import Derived.Test.YthcnehemnjongaaProg
import Derived.Test.YthcnehemnjongaaAbsV
namespace Go.Proofs.Ythcnehemnjongaa
open Go Go.YthcnehemnjongaaAbs
def zz22 : List AV := List.replicate 510 (.int .u8 0)
@[simp] theorem zz22_one : zz22.all AV.one = true := by decide +kernel
@[simp] theorem zz22_len : zz22.length = 510 := by decide +kernel
def zz23 : List AV := List.replicate 256 (.int .u8 0)
@[simp] theorem zz23_one : zz23.all AV.one = true := by decide +kernel
@[simp] theorem zz23_len : zz23.length = 256 := by decide +kernel
def zz24 : List AV := List.replicate 766 (.int .u8 0)
@[simp] theorem zz24_one : zz24.all AV.one = true := by decide +kernel
@[simp] theorem zz24_len : zz24.length = 766 := by decide +kernel
def zz25 : List AV := List.replicate 766 (.int .u8 0)
@[simp] theorem zz25_one : zz25.all AV.one = true := by decide +kernel
@[simp] theorem zz25_len : zz25.length = 766 := by decide +kernel
@[simp] theorem ts2 : tsize Try.prog 2 = some 1 := by kernel_rfl
@[simp] theorem ta2 : tagg Try.prog 2 = some false := by kernel_rfl
@[simp] theorem az2 : azero Try.prog 2 = some ([(.int .i64 0)]) := by kernel_rfl
@[simp] theorem azv2 : azerov Try.prog 2 = some (.int .i64 0) := by kernel_rfl
@[simp] theorem ts3 : tsize Try.prog 3 = some 1 := by kernel_rfl
@[simp] theorem ta3 : tagg Try.prog 3 = some false := by kernel_rfl
@[simp] theorem az3 : azero Try.prog 3 = some ([(.int .i64 0)]) := by kernel_rfl
@[simp] theorem azv3 : azerov Try.prog 3 = some (.int .i64 0) := by kernel_rfl
@[simp] theorem ts4 : tsize Try.prog 4 = some 1 := by kernel_rfl
@[simp] theorem ta4 : tagg Try.prog 4 = some false := by kernel_rfl
@[simp] theorem az4 : azero Try.prog 4 = some ([(.bool false)]) := by kernel_rfl
@[simp] theorem azv4 : azerov Try.prog 4 = some (.bool false) := by kernel_rfl
@[simp] theorem ts5 : tsize Try.prog 5 = some 1 := by kernel_rfl
@[simp] theorem ta5 : tagg Try.prog 5 = some false := by kernel_rfl
@[simp] theorem az5 : azero Try.prog 5 = some ([(.int .u8 0)]) := by kernel_rfl
@[simp] theorem azv5 : azerov Try.prog 5 = some (.int .u8 0) := by kernel_rfl
@[simp] theorem ts9 : tsize Try.prog 9 = some 1 := by kernel_rfl
@[simp] theorem ta9 : tagg Try.prog 9 = some false := by kernel_rfl
@[simp] theorem az9 : azero Try.prog 9 = some ([(.str .empty)]) := by kernel_rfl
@[simp] theorem azv9 : azerov Try.prog 9 = some (.str .empty) := by kernel_rfl
@[simp] theorem ts12 : tsize Try.prog 12 = some 1 := by kernel_rfl
@[simp] theorem ta12 : tagg Try.prog 12 = some false := by kernel_rfl
@[simp] theorem az12 : azero Try.prog 12 = some ([(.int .u64 0)]) := by kernel_rfl
@[simp] theorem azv12 : azerov Try.prog 12 = some (.int .u64 0) := by kernel_rfl
@[simp] theorem ts13 : tsize Try.prog 13 = some 2 := by kernel_rfl
@[simp] theorem ta13 : tagg Try.prog 13 = some true := by kernel_rfl
@[simp] theorem az13 : azero Try.prog 13 = some ([(.str .empty), (.int .u64 0)]) := by kernel_rfl
@[simp] theorem azv13 : azerov Try.prog 13 = some (.agg ([(.str .empty), (.int .u64 0)])) := by kernel_rfl
@[simp] theorem af13_0 : afield Try.prog 13 0 = some (0, 9) := by kernel_rfl
@[simp] theorem af13_1 : afield Try.prog 13 1 = some (1, 12) := by kernel_rfl
@[simp] theorem ts21 : tsize Try.prog 21 = some 1 := by kernel_rfl
@[simp] theorem ta21 : tagg Try.prog 21 = some false := by kernel_rfl
@[simp] theorem az21 : azero Try.prog 21 = some ([(.int .i32 0)]) := by kernel_rfl
@[simp] theorem azv21 : azerov Try.prog 21 = some (.int .i32 0) := by kernel_rfl
@[simp] theorem ts22 : tsize Try.prog 22 = some 510 := by kernel_rfl
@[simp] theorem ta22 : tagg Try.prog 22 = some true := by kernel_rfl
@[simp] theorem az22 : azero Try.prog 22 = some (zz22) := by kernel_rfl
@[simp] theorem azv22 : azerov Try.prog 22 = some (.agg (zz22)) := by kernel_rfl
@[simp] theorem ts23 : tsize Try.prog 23 = some 256 := by kernel_rfl
@[simp] theorem ta23 : tagg Try.prog 23 = some true := by kernel_rfl
@[simp] theorem az23 : azero Try.prog 23 = some (zz23) := by kernel_rfl
@[simp] theorem azv23 : azerov Try.prog 23 = some (.agg (zz23)) := by kernel_rfl
@[simp] theorem ts24 : tsize Try.prog 24 = some 766 := by kernel_rfl
@[simp] theorem ta24 : tagg Try.prog 24 = some true := by kernel_rfl
@[simp] theorem az24 : azero Try.prog 24 = some (zz24) := by kernel_rfl
@[simp] theorem azv24 : azerov Try.prog 24 = some (.agg (zz24)) := by kernel_rfl
@[simp] theorem af24_0 : afield Try.prog 24 0 = some (0, 22) := by kernel_rfl
@[simp] theorem af24_1 : afield Try.prog 24 1 = some (510, 23) := by kernel_rfl
@[simp] theorem ts25 : tsize Try.prog 25 = some 766 := by kernel_rfl
@[simp] theorem ta25 : tagg Try.prog 25 = some true := by kernel_rfl
@[simp] theorem az25 : azero Try.prog 25 = some (zz25) := by kernel_rfl
@[simp] theorem azv25 : azerov Try.prog 25 = some (.agg (zz25)) := by kernel_rfl
@[simp] theorem af25_0 : afield Try.prog 25 0 = some (0, 22) := by kernel_rfl
@[simp] theorem af25_1 : afield Try.prog 25 1 = some (510, 23) := by kernel_rfl
@[simp] theorem ts27 : tsize Try.prog 27 = some 1 := by kernel_rfl
@[simp] theorem ta27 : tagg Try.prog 27 = some false := by kernel_rfl
@[simp] theorem az27 : azero Try.prog 27 = some ([(.nilp)]) := by kernel_rfl
@[simp] theorem azv27 : azerov Try.prog 27 = some (.nilp) := by kernel_rfl
@[simp] theorem ts32 : tsize Try.prog 32 = some 1 := by kernel_rfl
@[simp] theorem ta32 : tagg Try.prog 32 = some false := by kernel_rfl
@[simp] theorem az32 : azero Try.prog 32 = some ([(.nils)]) := by kernel_rfl
@[simp] theorem azv32 : azerov Try.prog 32 = some (.nils) := by kernel_rfl
theorem el32 : Elem Try.prog 32 5 1 1 := Elem.of (by kernel_rfl)
@[simp] theorem ts46 : tsize Try.prog 46 = some 1 := by kernel_rfl
@[simp] theorem ta46 : tagg Try.prog 46 = some false := by kernel_rfl
@[simp] theorem az46 : azero Try.prog 46 = some ([(.int .u64 0)]) := by kernel_rfl
@[simp] theorem azv46 : azerov Try.prog 46 = some (.int .u64 0) := by kernel_rfl
@[simp] theorem ts54 : tsize Try.prog 54 = some 1 := by kernel_rfl
@[simp] theorem ta54 : tagg Try.prog 54 = some false := by kernel_rfl
@[simp] theorem az54 : azero Try.prog 54 = some ([(.int .u32 0)]) := by kernel_rfl
@[simp] theorem azv54 : azerov Try.prog 54 = some (.int .u32 0) := by kernel_rfl
@[simp] theorem ts58 : tsize Try.prog 58 = some 1 := by kernel_rfl
@[simp] theorem ta58 : tagg Try.prog 58 = some false := by kernel_rfl
@[simp] theorem az58 : azero Try.prog 58 = some ([(.nilp)]) := by kernel_rfl
@[simp] theorem azv58 : azerov Try.prog 58 = some (.nilp) := by kernel_rfl
@[simp] theorem ng3 : nogo Try.f3 = false := by kernel_rfl
attribute [simp] Try.func3
@[simp] theorem ng4 : nogo Try.f4 = false := by kernel_rfl
attribute [simp] Try.func4
@[simp] theorem ng5 : nogo Try.f5 = false := by kernel_rfl
attribute [simp] Try.func5
@[simp] theorem ng6 : nogo Try.f6 = false := by kernel_rfl
attribute [simp] Try.func6
@[simp] theorem ng7 : nogo Try.f7 = false := by kernel_rfl
attribute [simp] Try.func7
@[simp] theorem ng8 : nogo Try.f8 = false := by kernel_rfl
attribute [simp] Try.func8
@[simp] theorem ng9 : nogo Try.f9 = false := by kernel_rfl
attribute [simp] Try.func9
@[simp] theorem ng10 : nogo Try.f10 = false := by kernel_rfl
attribute [simp] Try.func10
@[simp] theorem ng11 : nogo Try.f11 = false := by kernel_rfl
attribute [simp] Try.func11
@[simp] theorem ng12 : nogo Try.f12 = false := by kernel_rfl
attribute [simp] Try.func12
@[simp] theorem ng13 : nogo Try.f13 = false := by kernel_rfl
attribute [simp] Try.func13
@[simp] theorem ng14 : nogo Try.f14 = false := by kernel_rfl
attribute [simp] Try.func14
@[simp] theorem ng15 : nogo Try.f15 = false := by kernel_rfl
attribute [simp] Try.func15
@[simp] theorem ng16 : nogo Try.f16 = false := by kernel_rfl
attribute [simp] Try.func16
@[simp] theorem ng17 : nogo Try.f17 = false := by kernel_rfl
attribute [simp] Try.func17
@[simp] theorem ng18 : nogo Try.f18 = false := by kernel_rfl
attribute [simp] Try.func18
@[simp] theorem ng19 : nogo Try.f19 = false := by kernel_rfl
attribute [simp] Try.func19
@[simp] theorem ng20 : nogo Try.f20 = false := by kernel_rfl
attribute [simp] Try.func20
@[simp] theorem ng21 : nogo Try.f21 = false := by kernel_rfl
attribute [simp] Try.func21
@[simp] theorem ng22 : nogo Try.f22 = false := by kernel_rfl
attribute [simp] Try.func22
@[simp] theorem ng23 : nogo Try.f23 = false := by kernel_rfl
attribute [simp] Try.func23
end Go.Proofs.Ythcnehemnjongaa
