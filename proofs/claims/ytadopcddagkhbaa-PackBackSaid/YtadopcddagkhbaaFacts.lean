/- Facts on the seat's types and functions, for stepping. -/
import Derived.Test.YtadopcddagkhbaaProg
import Derived.Test.YtadopcddagkhbaaAbsV
namespace Go.Proofs.Ytadopcddagkhbaa
open Go Go.YtadopcddagkhbaaAbs
@[simp] theorem ts2 : tsize Try.prog 2 = some 1 := by kernel_rfl
@[simp] theorem ta2 : tagg Try.prog 2 = some false := by kernel_rfl
@[simp] theorem az2 : azero Try.prog 2 = some ([(.int .i64 0)]) := by kernel_rfl
@[simp] theorem azv2 : azerov Try.prog 2 = some (.int .i64 0) := by kernel_rfl
@[simp] theorem ts3 : tsize Try.prog 3 = some 1 := by kernel_rfl
@[simp] theorem ta3 : tagg Try.prog 3 = some false := by kernel_rfl
@[simp] theorem az3 : azero Try.prog 3 = some ([(.int .i64 0)]) := by kernel_rfl
@[simp] theorem azv3 : azerov Try.prog 3 = some (.int .i64 0) := by kernel_rfl
@[simp] theorem ts4 : tsize Try.prog 4 = some 1 := by kernel_rfl
@[simp] theorem ta4 : tagg Try.prog 4 = some false := by kernel_rfl
@[simp] theorem az4 : azero Try.prog 4 = some ([(.bool false)]) := by kernel_rfl
@[simp] theorem azv4 : azerov Try.prog 4 = some (.bool false) := by kernel_rfl
@[simp] theorem ts5 : tsize Try.prog 5 = some 1 := by kernel_rfl
@[simp] theorem ta5 : tagg Try.prog 5 = some false := by kernel_rfl
@[simp] theorem az5 : azero Try.prog 5 = some ([(.int .u8 0)]) := by kernel_rfl
@[simp] theorem azv5 : azerov Try.prog 5 = some (.int .u8 0) := by kernel_rfl
@[simp] theorem ts9 : tsize Try.prog 9 = some 1 := by kernel_rfl
@[simp] theorem ta9 : tagg Try.prog 9 = some false := by kernel_rfl
@[simp] theorem az9 : azero Try.prog 9 = some ([(.str .empty)]) := by kernel_rfl
@[simp] theorem azv9 : azerov Try.prog 9 = some (.str .empty) := by kernel_rfl
@[simp] theorem ts12 : tsize Try.prog 12 = some 1 := by kernel_rfl
@[simp] theorem ta12 : tagg Try.prog 12 = some false := by kernel_rfl
@[simp] theorem az12 : azero Try.prog 12 = some ([(.int .u64 0)]) := by kernel_rfl
@[simp] theorem azv12 : azerov Try.prog 12 = some (.int .u64 0) := by kernel_rfl
@[simp] theorem ts13 : tsize Try.prog 13 = some 2 := by kernel_rfl
@[simp] theorem ta13 : tagg Try.prog 13 = some true := by kernel_rfl
@[simp] theorem az13 : azero Try.prog 13 = some ([(.str .empty), (.int .u64 0)]) := by kernel_rfl
@[simp] theorem azv13 : azerov Try.prog 13 = some (.agg ([(.str .empty), (.int .u64 0)])) := by kernel_rfl
@[simp] theorem af13_0 : afield Try.prog 13 0 = some (0, 9) := by kernel_rfl
@[simp] theorem af13_1 : afield Try.prog 13 1 = some (1, 12) := by kernel_rfl
@[simp] theorem ts21 : tsize Try.prog 21 = some 1 := by kernel_rfl
@[simp] theorem ta21 : tagg Try.prog 21 = some false := by kernel_rfl
@[simp] theorem az21 : azero Try.prog 21 = some ([(.int .i32 0)]) := by kernel_rfl
@[simp] theorem azv21 : azerov Try.prog 21 = some (.int .i32 0) := by kernel_rfl
@[simp] theorem ts23 : tsize Try.prog 23 = some 1 := by kernel_rfl
@[simp] theorem ta23 : tagg Try.prog 23 = some false := by kernel_rfl
@[simp] theorem az23 : azero Try.prog 23 = some ([(.nils)]) := by kernel_rfl
@[simp] theorem azv23 : azerov Try.prog 23 = some (.nils) := by kernel_rfl
theorem el23 : Elem Try.prog 23 5 1 1 := Elem.of (by kernel_rfl)
@[simp] theorem ts26 : tsize Try.prog 26 = some 1 := by kernel_rfl
@[simp] theorem ta26 : tagg Try.prog 26 = some false := by kernel_rfl
@[simp] theorem az26 : azero Try.prog 26 = some ([(.int .i64 0)]) := by kernel_rfl
@[simp] theorem azv26 : azerov Try.prog 26 = some (.int .i64 0) := by kernel_rfl
@[simp] theorem ts29 : tsize Try.prog 29 = some 1 := by kernel_rfl
@[simp] theorem ta29 : tagg Try.prog 29 = some false := by kernel_rfl
@[simp] theorem az29 : azero Try.prog 29 = some ([(.nils)]) := by kernel_rfl
@[simp] theorem azv29 : azerov Try.prog 29 = some (.nils) := by kernel_rfl
theorem el29 : Elem Try.prog 29 32 3 32 := Elem.of (by kernel_rfl)
@[simp] theorem ts31 : tsize Try.prog 31 = some 3 := by kernel_rfl
@[simp] theorem ta31 : tagg Try.prog 31 = some true := by kernel_rfl
@[simp] theorem az31 : azero Try.prog 31 = some ([(.int .i64 0), (.int .i64 0), (.str .empty)]) := by kernel_rfl
@[simp] theorem azv31 : azerov Try.prog 31 = some (.agg ([(.int .i64 0), (.int .i64 0), (.str .empty)])) := by kernel_rfl
@[simp] theorem af31_0 : afield Try.prog 31 0 = some (0, 3) := by kernel_rfl
@[simp] theorem af31_1 : afield Try.prog 31 1 = some (1, 3) := by kernel_rfl
@[simp] theorem af31_2 : afield Try.prog 31 2 = some (2, 9) := by kernel_rfl
@[simp] theorem ts32 : tsize Try.prog 32 = some 3 := by kernel_rfl
@[simp] theorem ta32 : tagg Try.prog 32 = some true := by kernel_rfl
@[simp] theorem az32 : azero Try.prog 32 = some ([(.int .i64 0), (.int .i64 0), (.str .empty)]) := by kernel_rfl
@[simp] theorem azv32 : azerov Try.prog 32 = some (.agg ([(.int .i64 0), (.int .i64 0), (.str .empty)])) := by kernel_rfl
@[simp] theorem af32_0 : afield Try.prog 32 0 = some (0, 3) := by kernel_rfl
@[simp] theorem af32_1 : afield Try.prog 32 1 = some (1, 3) := by kernel_rfl
@[simp] theorem af32_2 : afield Try.prog 32 2 = some (2, 9) := by kernel_rfl
@[simp] theorem ts35 : tsize Try.prog 35 = some 1 := by kernel_rfl
@[simp] theorem ta35 : tagg Try.prog 35 = some false := by kernel_rfl
@[simp] theorem az35 : azero Try.prog 35 = some ([(.nilp)]) := by kernel_rfl
@[simp] theorem azv35 : azerov Try.prog 35 = some (.nilp) := by kernel_rfl
@[simp] theorem ts40 : tsize Try.prog 40 = some 1 := by kernel_rfl
@[simp] theorem ta40 : tagg Try.prog 40 = some false := by kernel_rfl
@[simp] theorem az40 : azero Try.prog 40 = some ([(.nils)]) := by kernel_rfl
@[simp] theorem azv40 : azerov Try.prog 40 = some (.nils) := by kernel_rfl
theorem el40 : Elem Try.prog 40 3 1 8 := Elem.of (by kernel_rfl)
@[simp] theorem ts41 : tsize Try.prog 41 = some 1 := by kernel_rfl
@[simp] theorem ta41 : tagg Try.prog 41 = some false := by kernel_rfl
@[simp] theorem az41 : azero Try.prog 41 = some ([(.nils)]) := by kernel_rfl
@[simp] theorem azv41 : azerov Try.prog 41 = some (.nils) := by kernel_rfl
theorem el41 : Elem Try.prog 41 9 1 16 := Elem.of (by kernel_rfl)
@[simp] theorem ts47 : tsize Try.prog 47 = some 1 := by kernel_rfl
@[simp] theorem ta47 : tagg Try.prog 47 = some false := by kernel_rfl
@[simp] theorem az47 : azero Try.prog 47 = some ([(.nilp)]) := by kernel_rfl
@[simp] theorem azv47 : azerov Try.prog 47 = some (.nilp) := by kernel_rfl
@[simp] theorem ts48 : tsize Try.prog 48 = some 3 := by kernel_rfl
@[simp] theorem ta48 : tagg Try.prog 48 = some true := by kernel_rfl
@[simp] theorem az48 : azero Try.prog 48 = some ([(.nils), (.int .i64 0), (.int .i64 0)]) := by kernel_rfl
@[simp] theorem azv48 : azerov Try.prog 48 = some (.agg ([(.nils), (.int .i64 0), (.int .i64 0)])) := by kernel_rfl
@[simp] theorem af48_0 : afield Try.prog 48 0 = some (0, 23) := by kernel_rfl
@[simp] theorem af48_1 : afield Try.prog 48 1 = some (1, 3) := by kernel_rfl
@[simp] theorem af48_2 : afield Try.prog 48 2 = some (2, 3) := by kernel_rfl
@[simp] theorem ts49 : tsize Try.prog 49 = some 3 := by kernel_rfl
@[simp] theorem ta49 : tagg Try.prog 49 = some true := by kernel_rfl
@[simp] theorem az49 : azero Try.prog 49 = some ([(.nils), (.int .i64 0), (.int .i64 0)]) := by kernel_rfl
@[simp] theorem azv49 : azerov Try.prog 49 = some (.agg ([(.nils), (.int .i64 0), (.int .i64 0)])) := by kernel_rfl
@[simp] theorem af49_0 : afield Try.prog 49 0 = some (0, 23) := by kernel_rfl
@[simp] theorem af49_1 : afield Try.prog 49 1 = some (1, 3) := by kernel_rfl
@[simp] theorem af49_2 : afield Try.prog 49 2 = some (2, 3) := by kernel_rfl
@[simp] theorem ts50 : tsize Try.prog 50 = some 1 := by kernel_rfl
@[simp] theorem ta50 : tagg Try.prog 50 = some false := by kernel_rfl
@[simp] theorem az50 : azero Try.prog 50 = some ([(.int .u64 0)]) := by kernel_rfl
@[simp] theorem azv50 : azerov Try.prog 50 = some (.int .u64 0) := by kernel_rfl
@[simp] theorem ts51 : tsize Try.prog 51 = some 1 := by kernel_rfl
@[simp] theorem ta51 : tagg Try.prog 51 = some false := by kernel_rfl
@[simp] theorem az51 : azero Try.prog 51 = some ([(.int .u64 0)]) := by kernel_rfl
@[simp] theorem azv51 : azerov Try.prog 51 = some (.int .u64 0) := by kernel_rfl
@[simp] theorem ts52 : tsize Try.prog 52 = some 3 := by kernel_rfl
@[simp] theorem ta52 : tagg Try.prog 52 = some true := by kernel_rfl
@[simp] theorem az52 : azero Try.prog 52 = some ([(.nils), (.int .i64 0), (.int .i64 0)]) := by kernel_rfl
@[simp] theorem azv52 : azerov Try.prog 52 = some (.agg ([(.nils), (.int .i64 0), (.int .i64 0)])) := by kernel_rfl
@[simp] theorem af52_0 : afield Try.prog 52 0 = some (0, 23) := by kernel_rfl
@[simp] theorem af52_1 : afield Try.prog 52 1 = some (1, 3) := by kernel_rfl
@[simp] theorem af52_2 : afield Try.prog 52 2 = some (2, 26) := by kernel_rfl
@[simp] theorem ts53 : tsize Try.prog 53 = some 3 := by kernel_rfl
@[simp] theorem ta53 : tagg Try.prog 53 = some true := by kernel_rfl
@[simp] theorem az53 : azero Try.prog 53 = some ([(.nils), (.int .i64 0), (.int .i64 0)]) := by kernel_rfl
@[simp] theorem azv53 : azerov Try.prog 53 = some (.agg ([(.nils), (.int .i64 0), (.int .i64 0)])) := by kernel_rfl
@[simp] theorem af53_0 : afield Try.prog 53 0 = some (0, 23) := by kernel_rfl
@[simp] theorem af53_1 : afield Try.prog 53 1 = some (1, 3) := by kernel_rfl
@[simp] theorem af53_2 : afield Try.prog 53 2 = some (2, 26) := by kernel_rfl
@[simp] theorem ts63 : tsize Try.prog 63 = some 1 := by kernel_rfl
@[simp] theorem ta63 : tagg Try.prog 63 = some false := by kernel_rfl
@[simp] theorem az63 : azero Try.prog 63 = some ([(.int .u32 0)]) := by kernel_rfl
@[simp] theorem azv63 : azerov Try.prog 63 = some (.int .u32 0) := by kernel_rfl
@[simp] theorem ts67 : tsize Try.prog 67 = some 1 := by kernel_rfl
@[simp] theorem ta67 : tagg Try.prog 67 = some false := by kernel_rfl
@[simp] theorem az67 : azero Try.prog 67 = some ([(.nilp)]) := by kernel_rfl
@[simp] theorem azv67 : azerov Try.prog 67 = some (.nilp) := by kernel_rfl
@[simp] theorem ng3 : nogo Try.f3 = false := by kernel_rfl
attribute [simp] Try.func3
@[simp] theorem ng4 : nogo Try.f4 = false := by kernel_rfl
attribute [simp] Try.func4
@[simp] theorem ng5 : nogo Try.f5 = false := by kernel_rfl
attribute [simp] Try.func5
@[simp] theorem ng6 : nogo Try.f6 = false := by kernel_rfl
attribute [simp] Try.func6
@[simp] theorem ng7 : nogo Try.f7 = false := by kernel_rfl
attribute [simp] Try.func7
@[simp] theorem ng8 : nogo Try.f8 = false := by kernel_rfl
attribute [simp] Try.func8
@[simp] theorem ng9 : nogo Try.f9 = false := by kernel_rfl
attribute [simp] Try.func9
@[simp] theorem ng10 : nogo Try.f10 = false := by kernel_rfl
attribute [simp] Try.func10
@[simp] theorem ng11 : nogo Try.f11 = false := by kernel_rfl
attribute [simp] Try.func11
@[simp] theorem ng12 : nogo Try.f12 = false := by kernel_rfl
attribute [simp] Try.func12
@[simp] theorem ng13 : nogo Try.f13 = false := by kernel_rfl
attribute [simp] Try.func13
@[simp] theorem ng14 : nogo Try.f14 = false := by kernel_rfl
attribute [simp] Try.func14
@[simp] theorem ng15 : nogo Try.f15 = false := by kernel_rfl
attribute [simp] Try.func15
@[simp] theorem ng16 : nogo Try.f16 = false := by kernel_rfl
attribute [simp] Try.func16
@[simp] theorem ng17 : nogo Try.f17 = false := by kernel_rfl
attribute [simp] Try.func17
@[simp] theorem ng18 : nogo Try.f18 = false := by kernel_rfl
attribute [simp] Try.func18
@[simp] theorem ng19 : nogo Try.f19 = false := by kernel_rfl
attribute [simp] Try.func19
@[simp] theorem ng20 : nogo Try.f20 = false := by kernel_rfl
attribute [simp] Try.func20
@[simp] theorem ng21 : nogo Try.f21 = false := by kernel_rfl
attribute [simp] Try.func21
@[simp] theorem ng22 : nogo Try.f22 = false := by kernel_rfl
attribute [simp] Try.func22
@[simp] theorem ng23 : nogo Try.f23 = false := by kernel_rfl
attribute [simp] Try.func23
@[simp] theorem ng24 : nogo Try.f24 = false := by kernel_rfl
attribute [simp] Try.func24
@[simp] theorem ng25 : nogo Try.f25 = false := by kernel_rfl
attribute [simp] Try.func25
@[simp] theorem ng26 : nogo Try.f26 = false := by kernel_rfl
attribute [simp] Try.func26
@[simp] theorem ng27 : nogo Try.f27 = false := by kernel_rfl
attribute [simp] Try.func27
@[simp] theorem ng28 : nogo Try.f28 = false := by kernel_rfl
attribute [simp] Try.func28
@[simp] theorem ng29 : nogo Try.f29 = false := by kernel_rfl
attribute [simp] Try.func29
@[simp] theorem ng30 : nogo Try.f30 = false := by kernel_rfl
attribute [simp] Try.func30
@[simp] theorem ng31 : nogo Try.f31 = false := by kernel_rfl
attribute [simp] Try.func31
end Go.Proofs.Ytadopcddagkhbaa
