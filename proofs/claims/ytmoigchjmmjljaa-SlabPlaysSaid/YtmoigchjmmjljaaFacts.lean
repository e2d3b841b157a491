/- Facts on the seat's types and functions, for stepping. -/
import Derived.Test.YtmoigchjmmjljaaProg
import Derived.Test.YtmoigchjmmjljaaAbsV
namespace Go.Proofs.Ytmoigchjmmjljaa
open Go Go.YtmoigchjmmjljaaAbs
@[simp] theorem ts2 : tsize Try.prog 2 = some 1 := by kernel_rfl
@[simp] theorem ta2 : tagg Try.prog 2 = some false := by kernel_rfl
@[simp] theorem az2 : azero Try.prog 2 = some ([(.int .i64 0)]) := by kernel_rfl
@[simp] theorem azv2 : azerov Try.prog 2 = some (.int .i64 0) := by kernel_rfl
@[simp] theorem ts3 : tsize Try.prog 3 = some 1 := by kernel_rfl
@[simp] theorem ta3 : tagg Try.prog 3 = some false := by kernel_rfl
@[simp] theorem az3 : azero Try.prog 3 = some ([(.int .i64 0)]) := by kernel_rfl
@[simp] theorem azv3 : azerov Try.prog 3 = some (.int .i64 0) := by kernel_rfl
@[simp] theorem ts4 : tsize Try.prog 4 = some 1 := by kernel_rfl
@[simp] theorem ta4 : tagg Try.prog 4 = some false := by kernel_rfl
@[simp] theorem az4 : azero Try.prog 4 = some ([(.bool false)]) := by kernel_rfl
@[simp] theorem azv4 : azerov Try.prog 4 = some (.bool false) := by kernel_rfl
@[simp] theorem ts5 : tsize Try.prog 5 = some 1 := by kernel_rfl
@[simp] theorem ta5 : tagg Try.prog 5 = some false := by kernel_rfl
@[simp] theorem az5 : azero Try.prog 5 = some ([(.int .u8 0)]) := by kernel_rfl
@[simp] theorem azv5 : azerov Try.prog 5 = some (.int .u8 0) := by kernel_rfl
@[simp] theorem ts9 : tsize Try.prog 9 = some 1 := by kernel_rfl
@[simp] theorem ta9 : tagg Try.prog 9 = some false := by kernel_rfl
@[simp] theorem az9 : azero Try.prog 9 = some ([(.str .empty)]) := by kernel_rfl
@[simp] theorem azv9 : azerov Try.prog 9 = some (.str .empty) := by kernel_rfl
@[simp] theorem ts12 : tsize Try.prog 12 = some 1 := by kernel_rfl
@[simp] theorem ta12 : tagg Try.prog 12 = some false := by kernel_rfl
@[simp] theorem az12 : azero Try.prog 12 = some ([(.int .u64 0)]) := by kernel_rfl
@[simp] theorem azv12 : azerov Try.prog 12 = some (.int .u64 0) := by kernel_rfl
@[simp] theorem ts13 : tsize Try.prog 13 = some 2 := by kernel_rfl
@[simp] theorem ta13 : tagg Try.prog 13 = some true := by kernel_rfl
@[simp] theorem az13 : azero Try.prog 13 = some ([(.str .empty), (.int .u64 0)]) := by kernel_rfl
@[simp] theorem azv13 : azerov Try.prog 13 = some (.agg ([(.str .empty), (.int .u64 0)])) := by kernel_rfl
@[simp] theorem af13_0 : afield Try.prog 13 0 = some (0, 9) := by kernel_rfl
@[simp] theorem af13_1 : afield Try.prog 13 1 = some (1, 12) := by kernel_rfl
@[simp] theorem ts21 : tsize Try.prog 21 = some 1 := by kernel_rfl
@[simp] theorem ta21 : tagg Try.prog 21 = some false := by kernel_rfl
@[simp] theorem az21 : azero Try.prog 21 = some ([(.int .i32 0)]) := by kernel_rfl
@[simp] theorem azv21 : azerov Try.prog 21 = some (.int .i32 0) := by kernel_rfl
@[simp] theorem ts22 : tsize Try.prog 22 = some 1 := by kernel_rfl
@[simp] theorem ta22 : tagg Try.prog 22 = some false := by kernel_rfl
@[simp] theorem az22 : azero Try.prog 22 = some ([(.nilp)]) := by kernel_rfl
@[simp] theorem azv22 : azerov Try.prog 22 = some (.nilp) := by kernel_rfl
@[simp] theorem ts23 : tsize Try.prog 23 = some 1 := by kernel_rfl
@[simp] theorem ta23 : tagg Try.prog 23 = some false := by kernel_rfl
@[simp] theorem az23 : azero Try.prog 23 = some ([(.int .i64 0)]) := by kernel_rfl
@[simp] theorem azv23 : azerov Try.prog 23 = some (.int .i64 0) := by kernel_rfl
@[simp] theorem ts27 : tsize Try.prog 27 = some 1 := by kernel_rfl
@[simp] theorem ta27 : tagg Try.prog 27 = some false := by kernel_rfl
@[simp] theorem az27 : azero Try.prog 27 = some ([(.nils)]) := by kernel_rfl
@[simp] theorem azv27 : azerov Try.prog 27 = some (.nils) := by kernel_rfl
theorem el27 : Elem Try.prog 27 3 1 8 := Elem.of (by kernel_rfl)
@[simp] theorem ts30 : tsize Try.prog 30 = some 1 := by kernel_rfl
@[simp] theorem ta30 : tagg Try.prog 30 = some false := by kernel_rfl
@[simp] theorem az30 : azero Try.prog 30 = some ([(.nils)]) := by kernel_rfl
@[simp] theorem azv30 : azerov Try.prog 30 = some (.nils) := by kernel_rfl
theorem el30 : Elem Try.prog 30 5 1 1 := Elem.of (by kernel_rfl)
@[simp] theorem ts33 : tsize Try.prog 33 = some 2 := by kernel_rfl
@[simp] theorem ta33 : tagg Try.prog 33 = some true := by kernel_rfl
@[simp] theorem az33 : azero Try.prog 33 = some ([(.int .i64 0), (.int .i64 0)]) := by kernel_rfl
@[simp] theorem azv33 : azerov Try.prog 33 = some (.agg ([(.int .i64 0), (.int .i64 0)])) := by kernel_rfl
@[simp] theorem af33_0 : afield Try.prog 33 0 = some (0, 3) := by kernel_rfl
@[simp] theorem af33_1 : afield Try.prog 33 1 = some (1, 3) := by kernel_rfl
@[simp] theorem ts34 : tsize Try.prog 34 = some 2 := by kernel_rfl
@[simp] theorem ta34 : tagg Try.prog 34 = some true := by kernel_rfl
@[simp] theorem az34 : azero Try.prog 34 = some ([(.int .i64 0), (.int .i64 0)]) := by kernel_rfl
@[simp] theorem azv34 : azerov Try.prog 34 = some (.agg ([(.int .i64 0), (.int .i64 0)])) := by kernel_rfl
@[simp] theorem af34_0 : afield Try.prog 34 0 = some (0, 3) := by kernel_rfl
@[simp] theorem af34_1 : afield Try.prog 34 1 = some (1, 3) := by kernel_rfl
@[simp] theorem ts42 : tsize Try.prog 42 = some 1 := by kernel_rfl
@[simp] theorem ta42 : tagg Try.prog 42 = some false := by kernel_rfl
@[simp] theorem az42 : azero Try.prog 42 = some ([(.nils)]) := by kernel_rfl
@[simp] theorem azv42 : azerov Try.prog 42 = some (.nils) := by kernel_rfl
theorem el42 : Elem Try.prog 42 48 7 64 := Elem.of (by kernel_rfl)
@[simp] theorem ts43 : tsize Try.prog 43 = some 1 := by kernel_rfl
@[simp] theorem ta43 : tagg Try.prog 43 = some false := by kernel_rfl
@[simp] theorem az43 : azero Try.prog 43 = some ([(.nilp)]) := by kernel_rfl
@[simp] theorem azv43 : azerov Try.prog 43 = some (.nilp) := by kernel_rfl
@[simp] theorem ts46 : tsize Try.prog 46 = some 1 := by kernel_rfl
@[simp] theorem ta46 : tagg Try.prog 46 = some false := by kernel_rfl
@[simp] theorem az46 : azero Try.prog 46 = some ([(.nils)]) := by kernel_rfl
@[simp] theorem azv46 : azerov Try.prog 46 = some (.nils) := by kernel_rfl
theorem el46 : Elem Try.prog 46 34 2 16 := Elem.of (by kernel_rfl)
@[simp] theorem ts47 : tsize Try.prog 47 = some 7 := by kernel_rfl
@[simp] theorem ta47 : tagg Try.prog 47 = some true := by kernel_rfl
@[simp] theorem az47 : azero Try.prog 47 = some ([(.int .i64 0), (.int .i64 0), (.int .i64 0), (.str .empty), (.int .i64 0), (.int .i64 0), (.bool false)]) := by kernel_rfl
@[simp] theorem azv47 : azerov Try.prog 47 = some (.agg ([(.int .i64 0), (.int .i64 0), (.int .i64 0), (.str .empty), (.int .i64 0), (.int .i64 0), (.bool false)])) := by kernel_rfl
@[simp] theorem af47_0 : afield Try.prog 47 0 = some (0, 3) := by kernel_rfl
@[simp] theorem af47_1 : afield Try.prog 47 1 = some (1, 3) := by kernel_rfl
@[simp] theorem af47_2 : afield Try.prog 47 2 = some (2, 3) := by kernel_rfl
@[simp] theorem af47_3 : afield Try.prog 47 3 = some (3, 9) := by kernel_rfl
@[simp] theorem af47_4 : afield Try.prog 47 4 = some (4, 34) := by kernel_rfl
@[simp] theorem af47_5 : afield Try.prog 47 5 = some (6, 4) := by kernel_rfl
@[simp] theorem ts48 : tsize Try.prog 48 = some 7 := by kernel_rfl
@[simp] theorem ta48 : tagg Try.prog 48 = some true := by kernel_rfl
@[simp] theorem az48 : azero Try.prog 48 = some ([(.int .i64 0), (.int .i64 0), (.int .i64 0), (.str .empty), (.int .i64 0), (.int .i64 0), (.bool false)]) := by kernel_rfl
@[simp] theorem azv48 : azerov Try.prog 48 = some (.agg ([(.int .i64 0), (.int .i64 0), (.int .i64 0), (.str .empty), (.int .i64 0), (.int .i64 0), (.bool false)])) := by kernel_rfl
@[simp] theorem af48_0 : afield Try.prog 48 0 = some (0, 3) := by kernel_rfl
@[simp] theorem af48_1 : afield Try.prog 48 1 = some (1, 3) := by kernel_rfl
@[simp] theorem af48_2 : afield Try.prog 48 2 = some (2, 3) := by kernel_rfl
@[simp] theorem af48_3 : afield Try.prog 48 3 = some (3, 9) := by kernel_rfl
@[simp] theorem af48_4 : afield Try.prog 48 4 = some (4, 34) := by kernel_rfl
@[simp] theorem af48_5 : afield Try.prog 48 5 = some (6, 4) := by kernel_rfl
@[simp] theorem ts54 : tsize Try.prog 54 = some 1 := by kernel_rfl
@[simp] theorem ta54 : tagg Try.prog 54 = some false := by kernel_rfl
@[simp] theorem az54 : azero Try.prog 54 = some ([(.nils)]) := by kernel_rfl
@[simp] theorem azv54 : azerov Try.prog 54 = some (.nils) := by kernel_rfl
theorem el54 : Elem Try.prog 54 70 5 88 := Elem.of (by kernel_rfl)
@[simp] theorem ts55 : tsize Try.prog 55 = some 3 := by kernel_rfl
@[simp] theorem ta55 : tagg Try.prog 55 = some true := by kernel_rfl
@[simp] theorem az55 : azero Try.prog 55 = some ([(.int .i64 0), (.int .i64 0), (.nils)]) := by kernel_rfl
@[simp] theorem azv55 : azerov Try.prog 55 = some (.agg ([(.int .i64 0), (.int .i64 0), (.nils)])) := by kernel_rfl
@[simp] theorem af55_0 : afield Try.prog 55 0 = some (0, 3) := by kernel_rfl
@[simp] theorem af55_1 : afield Try.prog 55 1 = some (1, 3) := by kernel_rfl
@[simp] theorem af55_2 : afield Try.prog 55 2 = some (2, 54) := by kernel_rfl
@[simp] theorem ts56 : tsize Try.prog 56 = some 3 := by kernel_rfl
@[simp] theorem ta56 : tagg Try.prog 56 = some true := by kernel_rfl
@[simp] theorem az56 : azero Try.prog 56 = some ([(.int .i64 0), (.int .i64 0), (.nils)]) := by kernel_rfl
@[simp] theorem azv56 : azerov Try.prog 56 = some (.agg ([(.int .i64 0), (.int .i64 0), (.nils)])) := by kernel_rfl
@[simp] theorem af56_0 : afield Try.prog 56 0 = some (0, 3) := by kernel_rfl
@[simp] theorem af56_1 : afield Try.prog 56 1 = some (1, 3) := by kernel_rfl
@[simp] theorem af56_2 : afield Try.prog 56 2 = some (2, 54) := by kernel_rfl
@[simp] theorem ts59 : tsize Try.prog 59 = some 1 := by kernel_rfl
@[simp] theorem ta59 : tagg Try.prog 59 = some false := by kernel_rfl
@[simp] theorem az59 : azero Try.prog 59 = some ([(.nils)]) := by kernel_rfl
@[simp] theorem azv59 : azerov Try.prog 59 = some (.nils) := by kernel_rfl
theorem el59 : Elem Try.prog 59 9 1 16 := Elem.of (by kernel_rfl)
@[simp] theorem ts61 : tsize Try.prog 61 = some 1 := by kernel_rfl
@[simp] theorem ta61 : tagg Try.prog 61 = some false := by kernel_rfl
@[simp] theorem az61 : azero Try.prog 61 = some ([(.nils)]) := by kernel_rfl
@[simp] theorem azv61 : azerov Try.prog 61 = some (.nils) := by kernel_rfl
theorem el61 : Elem Try.prog 61 66 4 48 := Elem.of (by kernel_rfl)
@[simp] theorem ts62 : tsize Try.prog 62 = some 4 := by kernel_rfl
@[simp] theorem ta62 : tagg Try.prog 62 = some true := by kernel_rfl
@[simp] theorem az62 : azero Try.prog 62 = some ([(.int .i64 0), (.int .i64 0), (.int .i64 0), (.nils)]) := by kernel_rfl
@[simp] theorem azv62 : azerov Try.prog 62 = some (.agg ([(.int .i64 0), (.int .i64 0), (.int .i64 0), (.nils)])) := by kernel_rfl
@[simp] theorem af62_0 : afield Try.prog 62 0 = some (0, 3) := by kernel_rfl
@[simp] theorem af62_1 : afield Try.prog 62 1 = some (1, 3) := by kernel_rfl
@[simp] theorem af62_2 : afield Try.prog 62 2 = some (2, 3) := by kernel_rfl
@[simp] theorem af62_3 : afield Try.prog 62 3 = some (3, 61) := by kernel_rfl
@[simp] theorem ts63 : tsize Try.prog 63 = some 4 := by kernel_rfl
@[simp] theorem ta63 : tagg Try.prog 63 = some true := by kernel_rfl
@[simp] theorem az63 : azero Try.prog 63 = some ([(.int .i64 0), (.int .i64 0), (.int .i64 0), (.nils)]) := by kernel_rfl
@[simp] theorem azv63 : azerov Try.prog 63 = some (.agg ([(.int .i64 0), (.int .i64 0), (.int .i64 0), (.nils)])) := by kernel_rfl
@[simp] theorem af63_0 : afield Try.prog 63 0 = some (0, 3) := by kernel_rfl
@[simp] theorem af63_1 : afield Try.prog 63 1 = some (1, 3) := by kernel_rfl
@[simp] theorem af63_2 : afield Try.prog 63 2 = some (2, 3) := by kernel_rfl
@[simp] theorem af63_3 : afield Try.prog 63 3 = some (3, 61) := by kernel_rfl
@[simp] theorem ts64 : tsize Try.prog 64 = some 1 := by kernel_rfl
@[simp] theorem ta64 : tagg Try.prog 64 = some false := by kernel_rfl
@[simp] theorem az64 : azero Try.prog 64 = some ([(.nilm)]) := by kernel_rfl
@[simp] theorem azv64 : azerov Try.prog 64 = some (.nilm) := by kernel_rfl
@[simp] theorem ts65 : tsize Try.prog 65 = some 4 := by kernel_rfl
@[simp] theorem ta65 : tagg Try.prog 65 = some true := by kernel_rfl
@[simp] theorem az65 : azero Try.prog 65 = some ([(.int .i64 0), (.nils), (.nilm), (.int .i64 0)]) := by kernel_rfl
@[simp] theorem azv65 : azerov Try.prog 65 = some (.agg ([(.int .i64 0), (.nils), (.nilm), (.int .i64 0)])) := by kernel_rfl
@[simp] theorem af65_0 : afield Try.prog 65 0 = some (0, 3) := by kernel_rfl
@[simp] theorem af65_1 : afield Try.prog 65 1 = some (1, 27) := by kernel_rfl
@[simp] theorem af65_2 : afield Try.prog 65 2 = some (2, 64) := by kernel_rfl
@[simp] theorem af65_3 : afield Try.prog 65 3 = some (3, 3) := by kernel_rfl
@[simp] theorem ts66 : tsize Try.prog 66 = some 4 := by kernel_rfl
@[simp] theorem ta66 : tagg Try.prog 66 = some true := by kernel_rfl
@[simp] theorem az66 : azero Try.prog 66 = some ([(.int .i64 0), (.nils), (.nilm), (.int .i64 0)]) := by kernel_rfl
@[simp] theorem azv66 : azerov Try.prog 66 = some (.agg ([(.int .i64 0), (.nils), (.nilm), (.int .i64 0)])) := by kernel_rfl
@[simp] theorem af66_0 : afield Try.prog 66 0 = some (0, 3) := by kernel_rfl
@[simp] theorem af66_1 : afield Try.prog 66 1 = some (1, 27) := by kernel_rfl
@[simp] theorem af66_2 : afield Try.prog 66 2 = some (2, 64) := by kernel_rfl
@[simp] theorem af66_3 : afield Try.prog 66 3 = some (3, 3) := by kernel_rfl
@[simp] theorem ts67 : tsize Try.prog 67 = some 1 := by kernel_rfl
@[simp] theorem ta67 : tagg Try.prog 67 = some false := by kernel_rfl
@[simp] theorem az67 : azero Try.prog 67 = some ([(.nilp)]) := by kernel_rfl
@[simp] theorem azv67 : azerov Try.prog 67 = some (.nilp) := by kernel_rfl
@[simp] theorem ts68 : tsize Try.prog 68 = some 1 := by kernel_rfl
@[simp] theorem ta68 : tagg Try.prog 68 = some false := by kernel_rfl
@[simp] theorem az68 : azero Try.prog 68 = some ([(.nils)]) := by kernel_rfl
@[simp] theorem azv68 : azerov Try.prog 68 = some (.nils) := by kernel_rfl
theorem el68 : Elem Try.prog 68 4 1 1 := Elem.of (by kernel_rfl)
@[simp] theorem ts69 : tsize Try.prog 69 = some 5 := by kernel_rfl
@[simp] theorem ta69 : tagg Try.prog 69 = some true := by kernel_rfl
@[simp] theorem az69 : azero Try.prog 69 = some ([(.int .i64 0), (.int .i64 0), (.nils), (.nils), (.nils)]) := by kernel_rfl
@[simp] theorem azv69 : azerov Try.prog 69 = some (.agg ([(.int .i64 0), (.int .i64 0), (.nils), (.nils), (.nils)])) := by kernel_rfl
@[simp] theorem af69_0 : afield Try.prog 69 0 = some (0, 3) := by kernel_rfl
@[simp] theorem af69_1 : afield Try.prog 69 1 = some (1, 3) := by kernel_rfl
@[simp] theorem af69_2 : afield Try.prog 69 2 = some (2, 27) := by kernel_rfl
@[simp] theorem af69_3 : afield Try.prog 69 3 = some (3, 59) := by kernel_rfl
@[simp] theorem af69_4 : afield Try.prog 69 4 = some (4, 68) := by kernel_rfl
@[simp] theorem ts70 : tsize Try.prog 70 = some 5 := by kernel_rfl
@[simp] theorem ta70 : tagg Try.prog 70 = some true := by kernel_rfl
@[simp] theorem az70 : azero Try.prog 70 = some ([(.int .i64 0), (.int .i64 0), (.nils), (.nils), (.nils)]) := by kernel_rfl
@[simp] theorem azv70 : azerov Try.prog 70 = some (.agg ([(.int .i64 0), (.int .i64 0), (.nils), (.nils), (.nils)])) := by kernel_rfl
@[simp] theorem af70_0 : afield Try.prog 70 0 = some (0, 3) := by kernel_rfl
@[simp] theorem af70_1 : afield Try.prog 70 1 = some (1, 3) := by kernel_rfl
@[simp] theorem af70_2 : afield Try.prog 70 2 = some (2, 27) := by kernel_rfl
@[simp] theorem af70_3 : afield Try.prog 70 3 = some (3, 59) := by kernel_rfl
@[simp] theorem af70_4 : afield Try.prog 70 4 = some (4, 68) := by kernel_rfl
@[simp] theorem ts71 : tsize Try.prog 71 = some 1 := by kernel_rfl
@[simp] theorem ta71 : tagg Try.prog 71 = some false := by kernel_rfl
@[simp] theorem az71 : azero Try.prog 71 = some ([(.nilp)]) := by kernel_rfl
@[simp] theorem azv71 : azerov Try.prog 71 = some (.nilp) := by kernel_rfl
@[simp] theorem ts78 : tsize Try.prog 78 = some 1 := by kernel_rfl
@[simp] theorem ta78 : tagg Try.prog 78 = some false := by kernel_rfl
@[simp] theorem az78 : azero Try.prog 78 = some ([(.int .u32 0)]) := by kernel_rfl
@[simp] theorem azv78 : azerov Try.prog 78 = some (.int .u32 0) := by kernel_rfl
@[simp] theorem ts82 : tsize Try.prog 82 = some 1 := by kernel_rfl
@[simp] theorem ta82 : tagg Try.prog 82 = some false := by kernel_rfl
@[simp] theorem az82 : azero Try.prog 82 = some ([(.nilp)]) := by kernel_rfl
@[simp] theorem azv82 : azerov Try.prog 82 = some (.nilp) := by kernel_rfl
@[simp] theorem ng3 : nogo Try.f3 = false := by kernel_rfl
attribute [simp] Try.func3
@[simp] theorem ng4 : nogo Try.f4 = false := by kernel_rfl
attribute [simp] Try.func4
@[simp] theorem ng5 : nogo Try.f5 = false := by kernel_rfl
attribute [simp] Try.func5
@[simp] theorem ng6 : nogo Try.f6 = false := by kernel_rfl
attribute [simp] Try.func6
@[simp] theorem ng7 : nogo Try.f7 = false := by kernel_rfl
attribute [simp] Try.func7
@[simp] theorem ng8 : nogo Try.f8 = false := by kernel_rfl
attribute [simp] Try.func8
@[simp] theorem ng9 : nogo Try.f9 = false := by kernel_rfl
attribute [simp] Try.func9
@[simp] theorem ng10 : nogo Try.f10 = false := by kernel_rfl
attribute [simp] Try.func10
@[simp] theorem ng11 : nogo Try.f11 = false := by kernel_rfl
attribute [simp] Try.func11
@[simp] theorem ng12 : nogo Try.f12 = false := by kernel_rfl
attribute [simp] Try.func12
@[simp] theorem ng13 : nogo Try.f13 = false := by kernel_rfl
attribute [simp] Try.func13
@[simp] theorem ng14 : nogo Try.f14 = false := by kernel_rfl
attribute [simp] Try.func14
@[simp] theorem ng15 : nogo Try.f15 = false := by kernel_rfl
attribute [simp] Try.func15
@[simp] theorem ng16 : nogo Try.f16 = false := by kernel_rfl
attribute [simp] Try.func16
@[simp] theorem ng17 : nogo Try.f17 = false := by kernel_rfl
attribute [simp] Try.func17
@[simp] theorem ng18 : nogo Try.f18 = false := by kernel_rfl
attribute [simp] Try.func18
@[simp] theorem ng19 : nogo Try.f19 = false := by kernel_rfl
attribute [simp] Try.func19
@[simp] theorem ng20 : nogo Try.f20 = false := by kernel_rfl
attribute [simp] Try.func20
@[simp] theorem ng21 : nogo Try.f21 = false := by kernel_rfl
attribute [simp] Try.func21
@[simp] theorem ng22 : nogo Try.f22 = false := by kernel_rfl
attribute [simp] Try.func22
@[simp] theorem ng23 : nogo Try.f23 = false := by kernel_rfl
attribute [simp] Try.func23
@[simp] theorem ng24 : nogo Try.f24 = false := by kernel_rfl
attribute [simp] Try.func24
@[simp] theorem ng25 : nogo Try.f25 = false := by kernel_rfl
attribute [simp] Try.func25
end Go.Proofs.Ytmoigchjmmjljaa
