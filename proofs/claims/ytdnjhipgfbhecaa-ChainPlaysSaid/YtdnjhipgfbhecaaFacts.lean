/- Facts on the seat's types and functions, for stepping. -/
import Derived.Test.YtdnjhipgfbhecaaProg
import Derived.Test.YtdnjhipgfbhecaaAbsV
namespace Go.Proofs.Ytdnjhipgfbhecaa
open Go Go.YtdnjhipgfbhecaaAbs
@[simp] theorem ts2 : tsize Try.prog 2 = some 1 := by kernel_rfl
@[simp] theorem ta2 : tagg Try.prog 2 = some false := by kernel_rfl
@[simp] theorem az2 : azero Try.prog 2 = some ([(.int .i64 0)]) := by kernel_rfl
@[simp] theorem azv2 : azerov Try.prog 2 = some (.int .i64 0) := by kernel_rfl
@[simp] theorem ts3 : tsize Try.prog 3 = some 1 := by kernel_rfl
@[simp] theorem ta3 : tagg Try.prog 3 = some false := by kernel_rfl
@[simp] theorem az3 : azero Try.prog 3 = some ([(.int .i64 0)]) := by kernel_rfl
@[simp] theorem azv3 : azerov Try.prog 3 = some (.int .i64 0) := by kernel_rfl
@[simp] theorem ts4 : tsize Try.prog 4 = some 1 := by kernel_rfl
@[simp] theorem ta4 : tagg Try.prog 4 = some false := by kernel_rfl
@[simp] theorem az4 : azero Try.prog 4 = some ([(.bool false)]) := by kernel_rfl
@[simp] theorem azv4 : azerov Try.prog 4 = some (.bool false) := by kernel_rfl
@[simp] theorem ts5 : tsize Try.prog 5 = some 1 := by kernel_rfl
@[simp] theorem ta5 : tagg Try.prog 5 = some false := by kernel_rfl
@[simp] theorem az5 : azero Try.prog 5 = some ([(.int .u8 0)]) := by kernel_rfl
@[simp] theorem azv5 : azerov Try.prog 5 = some (.int .u8 0) := by kernel_rfl
@[simp] theorem ts9 : tsize Try.prog 9 = some 1 := by kernel_rfl
@[simp] theorem ta9 : tagg Try.prog 9 = some false := by kernel_rfl
@[simp] theorem az9 : azero Try.prog 9 = some ([(.str .empty)]) := by kernel_rfl
@[simp] theorem azv9 : azerov Try.prog 9 = some (.str .empty) := by kernel_rfl
@[simp] theorem ts12 : tsize Try.prog 12 = some 1 := by kernel_rfl
@[simp] theorem ta12 : tagg Try.prog 12 = some false := by kernel_rfl
@[simp] theorem az12 : azero Try.prog 12 = some ([(.int .u64 0)]) := by kernel_rfl
@[simp] theorem azv12 : azerov Try.prog 12 = some (.int .u64 0) := by kernel_rfl
@[simp] theorem ts13 : tsize Try.prog 13 = some 2 := by kernel_rfl
@[simp] theorem ta13 : tagg Try.prog 13 = some true := by kernel_rfl
@[simp] theorem az13 : azero Try.prog 13 = some ([(.str .empty), (.int .u64 0)]) := by kernel_rfl
@[simp] theorem azv13 : azerov Try.prog 13 = some (.agg ([(.str .empty), (.int .u64 0)])) := by kernel_rfl
@[simp] theorem af13_0 : afield Try.prog 13 0 = some (0, 9) := by kernel_rfl
@[simp] theorem af13_1 : afield Try.prog 13 1 = some (1, 12) := by kernel_rfl
@[simp] theorem ts21 : tsize Try.prog 21 = some 1 := by kernel_rfl
@[simp] theorem ta21 : tagg Try.prog 21 = some false := by kernel_rfl
@[simp] theorem az21 : azero Try.prog 21 = some ([(.int .i32 0)]) := by kernel_rfl
@[simp] theorem azv21 : azerov Try.prog 21 = some (.int .i32 0) := by kernel_rfl
@[simp] theorem ts22 : tsize Try.prog 22 = some 1 := by kernel_rfl
@[simp] theorem ta22 : tagg Try.prog 22 = some false := by kernel_rfl
@[simp] theorem az22 : azero Try.prog 22 = some ([(.nilp)]) := by kernel_rfl
@[simp] theorem azv22 : azerov Try.prog 22 = some (.nilp) := by kernel_rfl
@[simp] theorem ts25 : tsize Try.prog 25 = some 1 := by kernel_rfl
@[simp] theorem ta25 : tagg Try.prog 25 = some false := by kernel_rfl
@[simp] theorem az25 : azero Try.prog 25 = some ([(.nils)]) := by kernel_rfl
@[simp] theorem azv25 : azerov Try.prog 25 = some (.nils) := by kernel_rfl
theorem el25 : Elem Try.prog 25 5 1 1 := Elem.of (by kernel_rfl)
@[simp] theorem ts28 : tsize Try.prog 28 = some 1 := by kernel_rfl
@[simp] theorem ta28 : tagg Try.prog 28 = some false := by kernel_rfl
@[simp] theorem az28 : azero Try.prog 28 = some ([(.int .u32 0)]) := by kernel_rfl
@[simp] theorem azv28 : azerov Try.prog 28 = some (.int .u32 0) := by kernel_rfl
@[simp] theorem ts35 : tsize Try.prog 35 = some 1 := by kernel_rfl
@[simp] theorem ta35 : tagg Try.prog 35 = some false := by kernel_rfl
@[simp] theorem az35 : azero Try.prog 35 = some ([(.int .u64 0)]) := by kernel_rfl
@[simp] theorem azv35 : azerov Try.prog 35 = some (.int .u64 0) := by kernel_rfl
@[simp] theorem ts39 : tsize Try.prog 39 = some 1 := by kernel_rfl
@[simp] theorem ta39 : tagg Try.prog 39 = some false := by kernel_rfl
@[simp] theorem az39 : azero Try.prog 39 = some ([(.nils)]) := by kernel_rfl
@[simp] theorem azv39 : azerov Try.prog 39 = some (.nils) := by kernel_rfl
theorem el39 : Elem Try.prog 39 43 3 32 := Elem.of (by kernel_rfl)
@[simp] theorem ts40 : tsize Try.prog 40 = some 1 := by kernel_rfl
@[simp] theorem ta40 : tagg Try.prog 40 = some false := by kernel_rfl
@[simp] theorem az40 : azero Try.prog 40 = some ([(.nilp)]) := by kernel_rfl
@[simp] theorem azv40 : azerov Try.prog 40 = some (.nilp) := by kernel_rfl
@[simp] theorem ts42 : tsize Try.prog 42 = some 3 := by kernel_rfl
@[simp] theorem ta42 : tagg Try.prog 42 = some true := by kernel_rfl
@[simp] theorem az42 : azero Try.prog 42 = some ([(.int .i64 0), (.int .i64 0), (.str .empty)]) := by kernel_rfl
@[simp] theorem azv42 : azerov Try.prog 42 = some (.agg ([(.int .i64 0), (.int .i64 0), (.str .empty)])) := by kernel_rfl
@[simp] theorem af42_0 : afield Try.prog 42 0 = some (0, 3) := by kernel_rfl
@[simp] theorem af42_1 : afield Try.prog 42 1 = some (1, 3) := by kernel_rfl
@[simp] theorem af42_2 : afield Try.prog 42 2 = some (2, 9) := by kernel_rfl
@[simp] theorem ts43 : tsize Try.prog 43 = some 3 := by kernel_rfl
@[simp] theorem ta43 : tagg Try.prog 43 = some true := by kernel_rfl
@[simp] theorem az43 : azero Try.prog 43 = some ([(.int .i64 0), (.int .i64 0), (.str .empty)]) := by kernel_rfl
@[simp] theorem azv43 : azerov Try.prog 43 = some (.agg ([(.int .i64 0), (.int .i64 0), (.str .empty)])) := by kernel_rfl
@[simp] theorem af43_0 : afield Try.prog 43 0 = some (0, 3) := by kernel_rfl
@[simp] theorem af43_1 : afield Try.prog 43 1 = some (1, 3) := by kernel_rfl
@[simp] theorem af43_2 : afield Try.prog 43 2 = some (2, 9) := by kernel_rfl
@[simp] theorem ts45 : tsize Try.prog 45 = some 1 := by kernel_rfl
@[simp] theorem ta45 : tagg Try.prog 45 = some false := by kernel_rfl
@[simp] theorem az45 : azero Try.prog 45 = some ([(.nils)]) := by kernel_rfl
@[simp] theorem azv45 : azerov Try.prog 45 = some (.nils) := by kernel_rfl
theorem el45 : Elem Try.prog 45 65 1 24 := Elem.of (by kernel_rfl)
@[simp] theorem ts46 : tsize Try.prog 46 = some 4 := by kernel_rfl
@[simp] theorem ta46 : tagg Try.prog 46 = some true := by kernel_rfl
@[simp] theorem az46 : azero Try.prog 46 = some ([(.nils), (.nils), (.int .i64 0), (.int .i64 0)]) := by kernel_rfl
@[simp] theorem azv46 : azerov Try.prog 46 = some (.agg ([(.nils), (.nils), (.int .i64 0), (.int .i64 0)])) := by kernel_rfl
@[simp] theorem af46_0 : afield Try.prog 46 0 = some (0, 45) := by kernel_rfl
@[simp] theorem af46_1 : afield Try.prog 46 1 = some (1, 45) := by kernel_rfl
@[simp] theorem af46_2 : afield Try.prog 46 2 = some (2, 3) := by kernel_rfl
@[simp] theorem af46_3 : afield Try.prog 46 3 = some (3, 3) := by kernel_rfl
@[simp] theorem ts47 : tsize Try.prog 47 = some 4 := by kernel_rfl
@[simp] theorem ta47 : tagg Try.prog 47 = some true := by kernel_rfl
@[simp] theorem az47 : azero Try.prog 47 = some ([(.nils), (.nils), (.int .i64 0), (.int .i64 0)]) := by kernel_rfl
@[simp] theorem azv47 : azerov Try.prog 47 = some (.agg ([(.nils), (.nils), (.int .i64 0), (.int .i64 0)])) := by kernel_rfl
@[simp] theorem af47_0 : afield Try.prog 47 0 = some (0, 45) := by kernel_rfl
@[simp] theorem af47_1 : afield Try.prog 47 1 = some (1, 45) := by kernel_rfl
@[simp] theorem af47_2 : afield Try.prog 47 2 = some (2, 3) := by kernel_rfl
@[simp] theorem af47_3 : afield Try.prog 47 3 = some (3, 3) := by kernel_rfl
@[simp] theorem ts49 : tsize Try.prog 49 = some 1 := by kernel_rfl
@[simp] theorem ta49 : tagg Try.prog 49 = some false := by kernel_rfl
@[simp] theorem az49 : azero Try.prog 49 = some ([(.nils)]) := by kernel_rfl
@[simp] theorem azv49 : azerov Try.prog 49 = some (.nils) := by kernel_rfl
theorem el49 : Elem Try.prog 49 9 1 16 := Elem.of (by kernel_rfl)
@[simp] theorem ts50 : tsize Try.prog 50 = some 1 := by kernel_rfl
@[simp] theorem ta50 : tagg Try.prog 50 = some false := by kernel_rfl
@[simp] theorem az50 : azero Try.prog 50 = some ([(.nils)]) := by kernel_rfl
@[simp] theorem azv50 : azerov Try.prog 50 = some (.nils) := by kernel_rfl
theorem el50 : Elem Try.prog 50 3 1 8 := Elem.of (by kernel_rfl)
@[simp] theorem ts54 : tsize Try.prog 54 = some 1 := by kernel_rfl
@[simp] theorem ta54 : tagg Try.prog 54 = some false := by kernel_rfl
@[simp] theorem az54 : azero Try.prog 54 = some ([(.nils)]) := by kernel_rfl
@[simp] theorem azv54 : azerov Try.prog 54 = some (.nils) := by kernel_rfl
theorem el54 : Elem Try.prog 54 60 1 24 := Elem.of (by kernel_rfl)
@[simp] theorem ts55 : tsize Try.prog 55 = some 4 := by kernel_rfl
@[simp] theorem ta55 : tagg Try.prog 55 = some true := by kernel_rfl
@[simp] theorem az55 : azero Try.prog 55 = some ([(.nils), (.nils), (.int .i64 0), (.int .i64 0)]) := by kernel_rfl
@[simp] theorem azv55 : azerov Try.prog 55 = some (.agg ([(.nils), (.nils), (.int .i64 0), (.int .i64 0)])) := by kernel_rfl
@[simp] theorem af55_0 : afield Try.prog 55 0 = some (0, 54) := by kernel_rfl
@[simp] theorem af55_1 : afield Try.prog 55 1 = some (1, 54) := by kernel_rfl
@[simp] theorem af55_2 : afield Try.prog 55 2 = some (2, 3) := by kernel_rfl
@[simp] theorem af55_3 : afield Try.prog 55 3 = some (3, 3) := by kernel_rfl
@[simp] theorem ts56 : tsize Try.prog 56 = some 4 := by kernel_rfl
@[simp] theorem ta56 : tagg Try.prog 56 = some true := by kernel_rfl
@[simp] theorem az56 : azero Try.prog 56 = some ([(.nils), (.nils), (.int .i64 0), (.int .i64 0)]) := by kernel_rfl
@[simp] theorem azv56 : azerov Try.prog 56 = some (.agg ([(.nils), (.nils), (.int .i64 0), (.int .i64 0)])) := by kernel_rfl
@[simp] theorem af56_0 : afield Try.prog 56 0 = some (0, 54) := by kernel_rfl
@[simp] theorem af56_1 : afield Try.prog 56 1 = some (1, 54) := by kernel_rfl
@[simp] theorem af56_2 : afield Try.prog 56 2 = some (2, 3) := by kernel_rfl
@[simp] theorem af56_3 : afield Try.prog 56 3 = some (3, 3) := by kernel_rfl
@[simp] theorem ts57 : tsize Try.prog 57 = some 1 := by kernel_rfl
@[simp] theorem ta57 : tagg Try.prog 57 = some false := by kernel_rfl
@[simp] theorem az57 : azero Try.prog 57 = some ([(.nilp)]) := by kernel_rfl
@[simp] theorem azv57 : azerov Try.prog 57 = some (.nilp) := by kernel_rfl
@[simp] theorem ts60 : tsize Try.prog 60 = some 1 := by kernel_rfl
@[simp] theorem ta60 : tagg Try.prog 60 = some false := by kernel_rfl
@[simp] theorem az60 : azero Try.prog 60 = some ([(.nils)]) := by kernel_rfl
@[simp] theorem azv60 : azerov Try.prog 60 = some (.nils) := by kernel_rfl
theorem el60 : Elem Try.prog 60 62 2 24 := Elem.of (by kernel_rfl)
@[simp] theorem ts61 : tsize Try.prog 61 = some 2 := by kernel_rfl
@[simp] theorem ta61 : tagg Try.prog 61 = some true := by kernel_rfl
@[simp] theorem az61 : azero Try.prog 61 = some ([(.str .empty), (.int .i64 0)]) := by kernel_rfl
@[simp] theorem azv61 : azerov Try.prog 61 = some (.agg ([(.str .empty), (.int .i64 0)])) := by kernel_rfl
@[simp] theorem af61_0 : afield Try.prog 61 0 = some (0, 9) := by kernel_rfl
@[simp] theorem af61_1 : afield Try.prog 61 1 = some (1, 3) := by kernel_rfl
@[simp] theorem ts62 : tsize Try.prog 62 = some 2 := by kernel_rfl
@[simp] theorem ta62 : tagg Try.prog 62 = some true := by kernel_rfl
@[simp] theorem az62 : azero Try.prog 62 = some ([(.str .empty), (.int .i64 0)]) := by kernel_rfl
@[simp] theorem azv62 : azerov Try.prog 62 = some (.agg ([(.str .empty), (.int .i64 0)])) := by kernel_rfl
@[simp] theorem af62_0 : afield Try.prog 62 0 = some (0, 9) := by kernel_rfl
@[simp] theorem af62_1 : afield Try.prog 62 1 = some (1, 3) := by kernel_rfl
@[simp] theorem ts63 : tsize Try.prog 63 = some 1 := by kernel_rfl
@[simp] theorem ta63 : tagg Try.prog 63 = some false := by kernel_rfl
@[simp] theorem az63 : azero Try.prog 63 = some ([(.nilp)]) := by kernel_rfl
@[simp] theorem azv63 : azerov Try.prog 63 = some (.nilp) := by kernel_rfl
@[simp] theorem ts65 : tsize Try.prog 65 = some 1 := by kernel_rfl
@[simp] theorem ta65 : tagg Try.prog 65 = some false := by kernel_rfl
@[simp] theorem az65 : azero Try.prog 65 = some ([(.nils)]) := by kernel_rfl
@[simp] theorem azv65 : azerov Try.prog 65 = some (.nils) := by kernel_rfl
theorem el65 : Elem Try.prog 65 67 2 24 := Elem.of (by kernel_rfl)
@[simp] theorem ts66 : tsize Try.prog 66 = some 2 := by kernel_rfl
@[simp] theorem ta66 : tagg Try.prog 66 = some true := by kernel_rfl
@[simp] theorem az66 : azero Try.prog 66 = some ([(.str .empty), (.int .i64 0)]) := by kernel_rfl
@[simp] theorem azv66 : azerov Try.prog 66 = some (.agg ([(.str .empty), (.int .i64 0)])) := by kernel_rfl
@[simp] theorem af66_0 : afield Try.prog 66 0 = some (0, 9) := by kernel_rfl
@[simp] theorem af66_1 : afield Try.prog 66 1 = some (1, 3) := by kernel_rfl
@[simp] theorem ts67 : tsize Try.prog 67 = some 2 := by kernel_rfl
@[simp] theorem ta67 : tagg Try.prog 67 = some true := by kernel_rfl
@[simp] theorem az67 : azero Try.prog 67 = some ([(.str .empty), (.int .i64 0)]) := by kernel_rfl
@[simp] theorem azv67 : azerov Try.prog 67 = some (.agg ([(.str .empty), (.int .i64 0)])) := by kernel_rfl
@[simp] theorem af67_0 : afield Try.prog 67 0 = some (0, 9) := by kernel_rfl
@[simp] theorem af67_1 : afield Try.prog 67 1 = some (1, 3) := by kernel_rfl
@[simp] theorem ts77 : tsize Try.prog 77 = some 1 := by kernel_rfl
@[simp] theorem ta77 : tagg Try.prog 77 = some false := by kernel_rfl
@[simp] theorem az77 : azero Try.prog 77 = some ([(.nilp)]) := by kernel_rfl
@[simp] theorem azv77 : azerov Try.prog 77 = some (.nilp) := by kernel_rfl
@[simp] theorem ng3 : nogo Try.f3 = false := by kernel_rfl
attribute [simp] Try.func3
@[simp] theorem ng4 : nogo Try.f4 = false := by kernel_rfl
attribute [simp] Try.func4
@[simp] theorem ng5 : nogo Try.f5 = false := by kernel_rfl
attribute [simp] Try.func5
@[simp] theorem ng6 : nogo Try.f6 = false := by kernel_rfl
attribute [simp] Try.func6
@[simp] theorem ng7 : nogo Try.f7 = false := by kernel_rfl
attribute [simp] Try.func7
@[simp] theorem ng8 : nogo Try.f8 = false := by kernel_rfl
attribute [simp] Try.func8
@[simp] theorem ng9 : nogo Try.f9 = false := by kernel_rfl
attribute [simp] Try.func9
@[simp] theorem ng10 : nogo Try.f10 = false := by kernel_rfl
attribute [simp] Try.func10
@[simp] theorem ng11 : nogo Try.f11 = false := by kernel_rfl
attribute [simp] Try.func11
@[simp] theorem ng12 : nogo Try.f12 = false := by kernel_rfl
attribute [simp] Try.func12
@[simp] theorem ng13 : nogo Try.f13 = false := by kernel_rfl
attribute [simp] Try.func13
@[simp] theorem ng14 : nogo Try.f14 = false := by kernel_rfl
attribute [simp] Try.func14
@[simp] theorem ng15 : nogo Try.f15 = false := by kernel_rfl
attribute [simp] Try.func15
@[simp] theorem ng16 : nogo Try.f16 = false := by kernel_rfl
attribute [simp] Try.func16
@[simp] theorem ng17 : nogo Try.f17 = false := by kernel_rfl
attribute [simp] Try.func17
@[simp] theorem ng18 : nogo Try.f18 = false := by kernel_rfl
attribute [simp] Try.func18
@[simp] theorem ng19 : nogo Try.f19 = false := by kernel_rfl
attribute [simp] Try.func19
@[simp] theorem ng20 : nogo Try.f20 = false := by kernel_rfl
attribute [simp] Try.func20
@[simp] theorem ng21 : nogo Try.f21 = false := by kernel_rfl
attribute [simp] Try.func21
@[simp] theorem ng22 : nogo Try.f22 = false := by kernel_rfl
attribute [simp] Try.func22
@[simp] theorem ng23 : nogo Try.f23 = false := by kernel_rfl
attribute [simp] Try.func23
@[simp] theorem ng24 : nogo Try.f24 = false := by kernel_rfl
attribute [simp] Try.func24
@[simp] theorem ng25 : nogo Try.f25 = false := by kernel_rfl
attribute [simp] Try.func25
@[simp] theorem ng26 : nogo Try.f26 = false := by kernel_rfl
attribute [simp] Try.func26
@[simp] theorem ng27 : nogo Try.f27 = false := by kernel_rfl
attribute [simp] Try.func27
@[simp] theorem ng28 : nogo Try.f28 = false := by kernel_rfl
attribute [simp] Try.func28
@[simp] theorem ng29 : nogo Try.f29 = false := by kernel_rfl
attribute [simp] Try.func29
end Go.Proofs.Ytdnjhipgfbhecaa
