/- Facts on the seat's types and functions, for stepping. -/
import Derived.Test.YtnjpfjdnidekgaaProg
import Derived.Test.YtnjpfjdnidekgaaAbsV
namespace Go.Proofs.Ytnjpfjdnidekgaa
open Go Go.YtnjpfjdnidekgaaAbs
@[simp] theorem ts2 : tsize Try.prog 2 = some 1 := by kernel_rfl
@[simp] theorem ta2 : tagg Try.prog 2 = some false := by kernel_rfl
@[simp] theorem az2 : azero Try.prog 2 = some ([(.int .i64 0)]) := by kernel_rfl
@[simp] theorem azv2 : azerov Try.prog 2 = some (.int .i64 0) := by kernel_rfl
@[simp] theorem ts3 : tsize Try.prog 3 = some 1 := by kernel_rfl
@[simp] theorem ta3 : tagg Try.prog 3 = some false := by kernel_rfl
@[simp] theorem az3 : azero Try.prog 3 = some ([(.int .i64 0)]) := by kernel_rfl
@[simp] theorem azv3 : azerov Try.prog 3 = some (.int .i64 0) := by kernel_rfl
@[simp] theorem ts4 : tsize Try.prog 4 = some 1 := by kernel_rfl
@[simp] theorem ta4 : tagg Try.prog 4 = some false := by kernel_rfl
@[simp] theorem az4 : azero Try.prog 4 = some ([(.bool false)]) := by kernel_rfl
@[simp] theorem azv4 : azerov Try.prog 4 = some (.bool false) := by kernel_rfl
@[simp] theorem ts5 : tsize Try.prog 5 = some 1 := by kernel_rfl
@[simp] theorem ta5 : tagg Try.prog 5 = some false := by kernel_rfl
@[simp] theorem az5 : azero Try.prog 5 = some ([(.int .u8 0)]) := by kernel_rfl
@[simp] theorem azv5 : azerov Try.prog 5 = some (.int .u8 0) := by kernel_rfl
@[simp] theorem ts9 : tsize Try.prog 9 = some 1 := by kernel_rfl
@[simp] theorem ta9 : tagg Try.prog 9 = some false := by kernel_rfl
@[simp] theorem az9 : azero Try.prog 9 = some ([(.str .empty)]) := by kernel_rfl
@[simp] theorem azv9 : azerov Try.prog 9 = some (.str .empty) := by kernel_rfl
@[simp] theorem ts12 : tsize Try.prog 12 = some 1 := by kernel_rfl
@[simp] theorem ta12 : tagg Try.prog 12 = some false := by kernel_rfl
@[simp] theorem az12 : azero Try.prog 12 = some ([(.int .u64 0)]) := by kernel_rfl
@[simp] theorem azv12 : azerov Try.prog 12 = some (.int .u64 0) := by kernel_rfl
@[simp] theorem ts13 : tsize Try.prog 13 = some 2 := by kernel_rfl
@[simp] theorem ta13 : tagg Try.prog 13 = some true := by kernel_rfl
@[simp] theorem az13 : azero Try.prog 13 = some ([(.str .empty), (.int .u64 0)]) := by kernel_rfl
@[simp] theorem azv13 : azerov Try.prog 13 = some (.agg ([(.str .empty), (.int .u64 0)])) := by kernel_rfl
@[simp] theorem af13_0 : afield Try.prog 13 0 = some (0, 9) := by kernel_rfl
@[simp] theorem af13_1 : afield Try.prog 13 1 = some (1, 12) := by kernel_rfl
@[simp] theorem ts21 : tsize Try.prog 21 = some 1 := by kernel_rfl
@[simp] theorem ta21 : tagg Try.prog 21 = some false := by kernel_rfl
@[simp] theorem az21 : azero Try.prog 21 = some ([(.int .i32 0)]) := by kernel_rfl
@[simp] theorem azv21 : azerov Try.prog 21 = some (.int .i32 0) := by kernel_rfl
@[simp] theorem ts22 : tsize Try.prog 22 = some 1 := by kernel_rfl
@[simp] theorem ta22 : tagg Try.prog 22 = some false := by kernel_rfl
@[simp] theorem az22 : azero Try.prog 22 = some ([(.nils)]) := by kernel_rfl
@[simp] theorem azv22 : azerov Try.prog 22 = some (.nils) := by kernel_rfl
theorem el22 : Elem Try.prog 22 5 1 1 := Elem.of (by kernel_rfl)
@[simp] theorem ts24 : tsize Try.prog 24 = some 9 := by kernel_rfl
@[simp] theorem ta24 : tagg Try.prog 24 = some true := by kernel_rfl
@[simp] theorem az24 : azero Try.prog 24 = some ([(.int .i64 0), (.int .i64 0), (.int .i64 0), (.int .i64 0), (.int .i64 0), (.int .i64 0), (.str .empty), (.int .i64 0), (.str .empty)]) := by kernel_rfl
@[simp] theorem azv24 : azerov Try.prog 24 = some (.agg ([(.int .i64 0), (.int .i64 0), (.int .i64 0), (.int .i64 0), (.int .i64 0), (.int .i64 0), (.str .empty), (.int .i64 0), (.str .empty)])) := by kernel_rfl
@[simp] theorem af24_0 : afield Try.prog 24 0 = some (0, 3) := by kernel_rfl
@[simp] theorem af24_1 : afield Try.prog 24 1 = some (1, 3) := by kernel_rfl
@[simp] theorem af24_2 : afield Try.prog 24 2 = some (2, 3) := by kernel_rfl
@[simp] theorem af24_3 : afield Try.prog 24 3 = some (3, 3) := by kernel_rfl
@[simp] theorem af24_4 : afield Try.prog 24 4 = some (4, 3) := by kernel_rfl
@[simp] theorem af24_5 : afield Try.prog 24 5 = some (5, 3) := by kernel_rfl
@[simp] theorem af24_6 : afield Try.prog 24 6 = some (6, 9) := by kernel_rfl
@[simp] theorem af24_7 : afield Try.prog 24 7 = some (7, 3) := by kernel_rfl
@[simp] theorem af24_8 : afield Try.prog 24 8 = some (8, 9) := by kernel_rfl
@[simp] theorem ts25 : tsize Try.prog 25 = some 9 := by kernel_rfl
@[simp] theorem ta25 : tagg Try.prog 25 = some true := by kernel_rfl
@[simp] theorem az25 : azero Try.prog 25 = some ([(.int .i64 0), (.int .i64 0), (.int .i64 0), (.int .i64 0), (.int .i64 0), (.int .i64 0), (.str .empty), (.int .i64 0), (.str .empty)]) := by kernel_rfl
@[simp] theorem azv25 : azerov Try.prog 25 = some (.agg ([(.int .i64 0), (.int .i64 0), (.int .i64 0), (.int .i64 0), (.int .i64 0), (.int .i64 0), (.str .empty), (.int .i64 0), (.str .empty)])) := by kernel_rfl
@[simp] theorem af25_0 : afield Try.prog 25 0 = some (0, 3) := by kernel_rfl
@[simp] theorem af25_1 : afield Try.prog 25 1 = some (1, 3) := by kernel_rfl
@[simp] theorem af25_2 : afield Try.prog 25 2 = some (2, 3) := by kernel_rfl
@[simp] theorem af25_3 : afield Try.prog 25 3 = some (3, 3) := by kernel_rfl
@[simp] theorem af25_4 : afield Try.prog 25 4 = some (4, 3) := by kernel_rfl
@[simp] theorem af25_5 : afield Try.prog 25 5 = some (5, 3) := by kernel_rfl
@[simp] theorem af25_6 : afield Try.prog 25 6 = some (6, 9) := by kernel_rfl
@[simp] theorem af25_7 : afield Try.prog 25 7 = some (7, 3) := by kernel_rfl
@[simp] theorem af25_8 : afield Try.prog 25 8 = some (8, 9) := by kernel_rfl
@[simp] theorem ts27 : tsize Try.prog 27 = some 1 := by kernel_rfl
@[simp] theorem ta27 : tagg Try.prog 27 = some false := by kernel_rfl
@[simp] theorem az27 : azero Try.prog 27 = some ([(.int .i64 0)]) := by kernel_rfl
@[simp] theorem azv27 : azerov Try.prog 27 = some (.int .i64 0) := by kernel_rfl
@[simp] theorem ts39 : tsize Try.prog 39 = some 1 := by kernel_rfl
@[simp] theorem ta39 : tagg Try.prog 39 = some false := by kernel_rfl
@[simp] theorem az39 : azero Try.prog 39 = some ([(.nils)]) := by kernel_rfl
@[simp] theorem azv39 : azerov Try.prog 39 = some (.nils) := by kernel_rfl
theorem el39 : Elem Try.prog 39 3 1 8 := Elem.of (by kernel_rfl)
@[simp] theorem ts42 : tsize Try.prog 42 = some 1 := by kernel_rfl
@[simp] theorem ta42 : tagg Try.prog 42 = some false := by kernel_rfl
@[simp] theorem az42 : azero Try.prog 42 = some ([(.nilp)]) := by kernel_rfl
@[simp] theorem azv42 : azerov Try.prog 42 = some (.nilp) := by kernel_rfl
@[simp] theorem ts44 : tsize Try.prog 44 = some 1 := by kernel_rfl
@[simp] theorem ta44 : tagg Try.prog 44 = some false := by kernel_rfl
@[simp] theorem az44 : azero Try.prog 44 = some ([(.nilp)]) := by kernel_rfl
@[simp] theorem azv44 : azerov Try.prog 44 = some (.nilp) := by kernel_rfl
@[simp] theorem ts45 : tsize Try.prog 45 = some 1 := by kernel_rfl
@[simp] theorem ta45 : tagg Try.prog 45 = some false := by kernel_rfl
@[simp] theorem az45 : azero Try.prog 45 = some ([(.nils)]) := by kernel_rfl
@[simp] theorem azv45 : azerov Try.prog 45 = some (.nils) := by kernel_rfl
theorem el45 : Elem Try.prog 45 44 1 8 := Elem.of (by kernel_rfl)
@[simp] theorem ts49 : tsize Try.prog 49 = some 1 := by kernel_rfl
@[simp] theorem ta49 : tagg Try.prog 49 = some false := by kernel_rfl
@[simp] theorem az49 : azero Try.prog 49 = some ([(.nilp)]) := by kernel_rfl
@[simp] theorem azv49 : azerov Try.prog 49 = some (.nilp) := by kernel_rfl
@[simp] theorem ts50 : tsize Try.prog 50 = some 3 := by kernel_rfl
@[simp] theorem ta50 : tagg Try.prog 50 = some true := by kernel_rfl
@[simp] theorem az50 : azero Try.prog 50 = some ([(.nils), (.int .i64 0), (.int .i64 0)]) := by kernel_rfl
@[simp] theorem azv50 : azerov Try.prog 50 = some (.agg ([(.nils), (.int .i64 0), (.int .i64 0)])) := by kernel_rfl
@[simp] theorem af50_0 : afield Try.prog 50 0 = some (0, 22) := by kernel_rfl
@[simp] theorem af50_1 : afield Try.prog 50 1 = some (1, 3) := by kernel_rfl
@[simp] theorem af50_2 : afield Try.prog 50 2 = some (2, 3) := by kernel_rfl
@[simp] theorem ts51 : tsize Try.prog 51 = some 3 := by kernel_rfl
@[simp] theorem ta51 : tagg Try.prog 51 = some true := by kernel_rfl
@[simp] theorem az51 : azero Try.prog 51 = some ([(.nils), (.int .i64 0), (.int .i64 0)]) := by kernel_rfl
@[simp] theorem azv51 : azerov Try.prog 51 = some (.agg ([(.nils), (.int .i64 0), (.int .i64 0)])) := by kernel_rfl
@[simp] theorem af51_0 : afield Try.prog 51 0 = some (0, 22) := by kernel_rfl
@[simp] theorem af51_1 : afield Try.prog 51 1 = some (1, 3) := by kernel_rfl
@[simp] theorem af51_2 : afield Try.prog 51 2 = some (2, 3) := by kernel_rfl
@[simp] theorem ts53 : tsize Try.prog 53 = some 3 := by kernel_rfl
@[simp] theorem ta53 : tagg Try.prog 53 = some true := by kernel_rfl
@[simp] theorem az53 : azero Try.prog 53 = some ([(.nils), (.int .i64 0), (.int .i64 0)]) := by kernel_rfl
@[simp] theorem azv53 : azerov Try.prog 53 = some (.agg ([(.nils), (.int .i64 0), (.int .i64 0)])) := by kernel_rfl
@[simp] theorem af53_0 : afield Try.prog 53 0 = some (0, 22) := by kernel_rfl
@[simp] theorem af53_1 : afield Try.prog 53 1 = some (1, 3) := by kernel_rfl
@[simp] theorem af53_2 : afield Try.prog 53 2 = some (2, 27) := by kernel_rfl
@[simp] theorem ts54 : tsize Try.prog 54 = some 3 := by kernel_rfl
@[simp] theorem ta54 : tagg Try.prog 54 = some true := by kernel_rfl
@[simp] theorem az54 : azero Try.prog 54 = some ([(.nils), (.int .i64 0), (.int .i64 0)]) := by kernel_rfl
@[simp] theorem azv54 : azerov Try.prog 54 = some (.agg ([(.nils), (.int .i64 0), (.int .i64 0)])) := by kernel_rfl
@[simp] theorem af54_0 : afield Try.prog 54 0 = some (0, 22) := by kernel_rfl
@[simp] theorem af54_1 : afield Try.prog 54 1 = some (1, 3) := by kernel_rfl
@[simp] theorem af54_2 : afield Try.prog 54 2 = some (2, 27) := by kernel_rfl
@[simp] theorem ts55 : tsize Try.prog 55 = some 1 := by kernel_rfl
@[simp] theorem ta55 : tagg Try.prog 55 = some false := by kernel_rfl
@[simp] theorem az55 : azero Try.prog 55 = some ([(.int .u64 0)]) := by kernel_rfl
@[simp] theorem azv55 : azerov Try.prog 55 = some (.int .u64 0) := by kernel_rfl
@[simp] theorem ts57 : tsize Try.prog 57 = some 1 := by kernel_rfl
@[simp] theorem ta57 : tagg Try.prog 57 = some false := by kernel_rfl
@[simp] theorem az57 : azero Try.prog 57 = some ([(.int .u64 0)]) := by kernel_rfl
@[simp] theorem azv57 : azerov Try.prog 57 = some (.int .u64 0) := by kernel_rfl
@[simp] theorem ts66 : tsize Try.prog 66 = some 1 := by kernel_rfl
@[simp] theorem ta66 : tagg Try.prog 66 = some false := by kernel_rfl
@[simp] theorem az66 : azero Try.prog 66 = some ([(.int .u32 0)]) := by kernel_rfl
@[simp] theorem azv66 : azerov Try.prog 66 = some (.int .u32 0) := by kernel_rfl
@[simp] theorem ts70 : tsize Try.prog 70 = some 1 := by kernel_rfl
@[simp] theorem ta70 : tagg Try.prog 70 = some false := by kernel_rfl
@[simp] theorem az70 : azero Try.prog 70 = some ([(.nilp)]) := by kernel_rfl
@[simp] theorem azv70 : azerov Try.prog 70 = some (.nilp) := by kernel_rfl
@[simp] theorem ng3 : nogo Try.f3 = false := by kernel_rfl
attribute [simp] Try.func3
@[simp] theorem ng4 : nogo Try.f4 = false := by kernel_rfl
attribute [simp] Try.func4
@[simp] theorem ng5 : nogo Try.f5 = false := by kernel_rfl
attribute [simp] Try.func5
@[simp] theorem ng6 : nogo Try.f6 = false := by kernel_rfl
attribute [simp] Try.func6
@[simp] theorem ng7 : nogo Try.f7 = false := by kernel_rfl
attribute [simp] Try.func7
@[simp] theorem ng8 : nogo Try.f8 = false := by kernel_rfl
attribute [simp] Try.func8
@[simp] theorem ng9 : nogo Try.f9 = false := by kernel_rfl
attribute [simp] Try.func9
@[simp] theorem ng10 : nogo Try.f10 = false := by kernel_rfl
attribute [simp] Try.func10
@[simp] theorem ng11 : nogo Try.f11 = false := by kernel_rfl
attribute [simp] Try.func11
@[simp] theorem ng12 : nogo Try.f12 = false := by kernel_rfl
attribute [simp] Try.func12
@[simp] theorem ng13 : nogo Try.f13 = false := by kernel_rfl
attribute [simp] Try.func13
@[simp] theorem ng14 : nogo Try.f14 = false := by kernel_rfl
attribute [simp] Try.func14
@[simp] theorem ng15 : nogo Try.f15 = false := by kernel_rfl
attribute [simp] Try.func15
@[simp] theorem ng16 : nogo Try.f16 = false := by kernel_rfl
attribute [simp] Try.func16
@[simp] theorem ng17 : nogo Try.f17 = false := by kernel_rfl
attribute [simp] Try.func17
@[simp] theorem ng18 : nogo Try.f18 = false := by kernel_rfl
attribute [simp] Try.func18
@[simp] theorem ng19 : nogo Try.f19 = false := by kernel_rfl
attribute [simp] Try.func19
@[simp] theorem ng20 : nogo Try.f20 = false := by kernel_rfl
attribute [simp] Try.func20
@[simp] theorem ng21 : nogo Try.f21 = false := by kernel_rfl
attribute [simp] Try.func21
@[simp] theorem ng22 : nogo Try.f22 = false := by kernel_rfl
attribute [simp] Try.func22
@[simp] theorem ng23 : nogo Try.f23 = false := by kernel_rfl
attribute [simp] Try.func23
@[simp] theorem ng24 : nogo Try.f24 = false := by kernel_rfl
attribute [simp] Try.func24
@[simp] theorem ng25 : nogo Try.f25 = false := by kernel_rfl
attribute [simp] Try.func25
@[simp] theorem ng26 : nogo Try.f26 = false := by kernel_rfl
attribute [simp] Try.func26
@[simp] theorem ng27 : nogo Try.f27 = false := by kernel_rfl
attribute [simp] Try.func27
@[simp] theorem ng28 : nogo Try.f28 = false := by kernel_rfl
attribute [simp] Try.func28
@[simp] theorem ng29 : nogo Try.f29 = false := by kernel_rfl
attribute [simp] Try.func29
@[simp] theorem ng30 : nogo Try.f30 = false := by kernel_rfl
attribute [simp] Try.func30
@[simp] theorem ng31 : nogo Try.f31 = false := by kernel_rfl
attribute [simp] Try.func31
@[simp] theorem ng32 : nogo Try.f32 = false := by kernel_rfl
attribute [simp] Try.func32
@[simp] theorem ng33 : nogo Try.f33 = false := by kernel_rfl
attribute [simp] Try.func33
@[simp] theorem ng34 : nogo Try.f34 = false := by kernel_rfl
attribute [simp] Try.func34
end Go.Proofs.Ytnjpfjdnidekgaa
