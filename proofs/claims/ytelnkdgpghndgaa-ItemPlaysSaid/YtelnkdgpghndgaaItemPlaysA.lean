/- Contracts of the functions that the law reaches, over the abstract machine. -/
import Derived.Test.YtelnkdgpghndgaaMachC
import Derived.Test.YtelnkdgpghndgaaProg
import Derived.Test.YtelnkdgpghndgaaMachD
import Derived.Test.YtelnkdgpghndgaaMachA
import Derived.Test.YtelnkdgpghndgaaMachB
/- The chapter's closed law, by the kernel. -/
namespace Go.Proofs.Ytelnkdgpghndgaa
open Go Go.YtelnkdgpghndgaaAbs Go.RowKit
theorem mixed : Try.prog.follows .mixedOrders = true := by kernel_rfl
set_option maxRecDepth 100000 in
theorem run : ((acall Try.prog 3000000 3 [] Heap.none).map fun r => sameAV r.1 (.bool true)) = some true := by kernel_rfl
theorem runs_ok : ∀ w, Calls Try.prog 3 #[] w fun e w' => e = .returned (.bool true) ∧ Below w.heap.size w w' := fun w => closed_call mixed run w
end Go.Proofs.Ytelnkdgpghndgaa
/- Facts on the seat's types and functions, for stepping. -/
namespace Go.Proofs.Ytelnkdgpghndgaa
open Go Go.YtelnkdgpghndgaaAbs
@[simp] theorem ts2 : tsize Try.prog 2 = some 1 := by kernel_rfl
@[simp] theorem ta2 : tagg Try.prog 2 = some false := by kernel_rfl
@[simp] theorem az2 : azero Try.prog 2 = some ([(.int .i64 0)]) := by kernel_rfl
@[simp] theorem azv2 : azerov Try.prog 2 = some (.int .i64 0) := by kernel_rfl
@[simp] theorem ts3 : tsize Try.prog 3 = some 1 := by kernel_rfl
@[simp] theorem ta3 : tagg Try.prog 3 = some false := by kernel_rfl
@[simp] theorem az3 : azero Try.prog 3 = some ([(.int .i64 0)]) := by kernel_rfl
@[simp] theorem azv3 : azerov Try.prog 3 = some (.int .i64 0) := by kernel_rfl
@[simp] theorem ts4 : tsize Try.prog 4 = some 1 := by kernel_rfl
@[simp] theorem ta4 : tagg Try.prog 4 = some false := by kernel_rfl
@[simp] theorem az4 : azero Try.prog 4 = some ([(.bool false)]) := by kernel_rfl
@[simp] theorem azv4 : azerov Try.prog 4 = some (.bool false) := by kernel_rfl
@[simp] theorem ts5 : tsize Try.prog 5 = some 1 := by kernel_rfl
@[simp] theorem ta5 : tagg Try.prog 5 = some false := by kernel_rfl
@[simp] theorem az5 : azero Try.prog 5 = some ([(.int .u8 0)]) := by kernel_rfl
@[simp] theorem azv5 : azerov Try.prog 5 = some (.int .u8 0) := by kernel_rfl
@[simp] theorem ts9 : tsize Try.prog 9 = some 1 := by kernel_rfl
@[simp] theorem ta9 : tagg Try.prog 9 = some false := by kernel_rfl
@[simp] theorem az9 : azero Try.prog 9 = some ([(.str .empty)]) := by kernel_rfl
@[simp] theorem azv9 : azerov Try.prog 9 = some (.str .empty) := by kernel_rfl
@[simp] theorem ts12 : tsize Try.prog 12 = some 1 := by kernel_rfl
@[simp] theorem ta12 : tagg Try.prog 12 = some false := by kernel_rfl
@[simp] theorem az12 : azero Try.prog 12 = some ([(.int .u64 0)]) := by kernel_rfl
@[simp] theorem azv12 : azerov Try.prog 12 = some (.int .u64 0) := by kernel_rfl
@[simp] theorem ts13 : tsize Try.prog 13 = some 2 := by kernel_rfl
@[simp] theorem ta13 : tagg Try.prog 13 = some true := by kernel_rfl
@[simp] theorem az13 : azero Try.prog 13 = some ([(.str .empty), (.int .u64 0)]) := by kernel_rfl
@[simp] theorem azv13 : azerov Try.prog 13 = some (.agg ([(.str .empty), (.int .u64 0)])) := by kernel_rfl
@[simp] theorem af13_0 : afield Try.prog 13 0 = some (0, 9) := by kernel_rfl
@[simp] theorem af13_1 : afield Try.prog 13 1 = some (1, 12) := by kernel_rfl
@[simp] theorem ts21 : tsize Try.prog 21 = some 1 := by kernel_rfl
@[simp] theorem ta21 : tagg Try.prog 21 = some false := by kernel_rfl
@[simp] theorem az21 : azero Try.prog 21 = some ([(.int .i32 0)]) := by kernel_rfl
@[simp] theorem azv21 : azerov Try.prog 21 = some (.int .i32 0) := by kernel_rfl
@[simp] theorem ts22 : tsize Try.prog 22 = some 1 := by kernel_rfl
@[simp] theorem ta22 : tagg Try.prog 22 = some false := by kernel_rfl
@[simp] theorem az22 : azero Try.prog 22 = some ([(.nilp)]) := by kernel_rfl
@[simp] theorem azv22 : azerov Try.prog 22 = some (.nilp) := by kernel_rfl
@[simp] theorem ts23 : tsize Try.prog 23 = some 1 := by kernel_rfl
@[simp] theorem ta23 : tagg Try.prog 23 = some false := by kernel_rfl
@[simp] theorem az23 : azero Try.prog 23 = some ([(.int .i64 0)]) := by kernel_rfl
@[simp] theorem azv23 : azerov Try.prog 23 = some (.int .i64 0) := by kernel_rfl
@[simp] theorem ts26 : tsize Try.prog 26 = some 1 := by kernel_rfl
@[simp] theorem ta26 : tagg Try.prog 26 = some false := by kernel_rfl
@[simp] theorem az26 : azero Try.prog 26 = some ([(.nils)]) := by kernel_rfl
@[simp] theorem azv26 : azerov Try.prog 26 = some (.nils) := by kernel_rfl
theorem el26 : Elem Try.prog 26 9 1 16 := Elem.of (by kernel_rfl)
@[simp] theorem ts33 : tsize Try.prog 33 = some 1 := by kernel_rfl
@[simp] theorem ta33 : tagg Try.prog 33 = some false := by kernel_rfl
@[simp] theorem az33 : azero Try.prog 33 = some ([(.nils)]) := by kernel_rfl
@[simp] theorem azv33 : azerov Try.prog 33 = some (.nils) := by kernel_rfl
theorem el33 : Elem Try.prog 33 5 1 1 := Elem.of (by kernel_rfl)
@[simp] theorem ts37 : tsize Try.prog 37 = some 1 := by kernel_rfl
@[simp] theorem ta37 : tagg Try.prog 37 = some false := by kernel_rfl
@[simp] theorem az37 : azero Try.prog 37 = some ([(.nils)]) := by kernel_rfl
@[simp] theorem azv37 : azerov Try.prog 37 = some (.nils) := by kernel_rfl
theorem el37 : Elem Try.prog 37 41 5 56 := Elem.of (by kernel_rfl)
@[simp] theorem ts39 : tsize Try.prog 39 = some 1 := by kernel_rfl
@[simp] theorem ta39 : tagg Try.prog 39 = some false := by kernel_rfl
@[simp] theorem az39 : azero Try.prog 39 = some ([(.nils)]) := by kernel_rfl
@[simp] theorem azv39 : azerov Try.prog 39 = some (.nils) := by kernel_rfl
theorem el39 : Elem Try.prog 39 4 1 1 := Elem.of (by kernel_rfl)
@[simp] theorem ts40 : tsize Try.prog 40 = some 5 := by kernel_rfl
@[simp] theorem ta40 : tagg Try.prog 40 = some true := by kernel_rfl
@[simp] theorem az40 : azero Try.prog 40 = some ([(.int .i64 0), (.int .i64 0), (.str .empty), (.str .empty), (.bool false)]) := by kernel_rfl
@[simp] theorem azv40 : azerov Try.prog 40 = some (.agg ([(.int .i64 0), (.int .i64 0), (.str .empty), (.str .empty), (.bool false)])) := by kernel_rfl
@[simp] theorem af40_0 : afield Try.prog 40 0 = some (0, 3) := by kernel_rfl
@[simp] theorem af40_1 : afield Try.prog 40 1 = some (1, 3) := by kernel_rfl
@[simp] theorem af40_2 : afield Try.prog 40 2 = some (2, 9) := by kernel_rfl
@[simp] theorem af40_3 : afield Try.prog 40 3 = some (3, 9) := by kernel_rfl
@[simp] theorem af40_4 : afield Try.prog 40 4 = some (4, 4) := by kernel_rfl
@[simp] theorem ts41 : tsize Try.prog 41 = some 5 := by kernel_rfl
@[simp] theorem ta41 : tagg Try.prog 41 = some true := by kernel_rfl
@[simp] theorem az41 : azero Try.prog 41 = some ([(.int .i64 0), (.int .i64 0), (.str .empty), (.str .empty), (.bool false)]) := by kernel_rfl
@[simp] theorem azv41 : azerov Try.prog 41 = some (.agg ([(.int .i64 0), (.int .i64 0), (.str .empty), (.str .empty), (.bool false)])) := by kernel_rfl
@[simp] theorem af41_0 : afield Try.prog 41 0 = some (0, 3) := by kernel_rfl
@[simp] theorem af41_1 : afield Try.prog 41 1 = some (1, 3) := by kernel_rfl
@[simp] theorem af41_2 : afield Try.prog 41 2 = some (2, 9) := by kernel_rfl
@[simp] theorem af41_3 : afield Try.prog 41 3 = some (3, 9) := by kernel_rfl
@[simp] theorem af41_4 : afield Try.prog 41 4 = some (4, 4) := by kernel_rfl
@[simp] theorem ts44 : tsize Try.prog 44 = some 1 := by kernel_rfl
@[simp] theorem ta44 : tagg Try.prog 44 = some false := by kernel_rfl
@[simp] theorem az44 : azero Try.prog 44 = some ([(.nils)]) := by kernel_rfl
@[simp] theorem azv44 : azerov Try.prog 44 = some (.nils) := by kernel_rfl
theorem el44 : Elem Try.prog 44 3 1 8 := Elem.of (by kernel_rfl)
@[simp] theorem ts48 : tsize Try.prog 48 = some 1 := by kernel_rfl
@[simp] theorem ta48 : tagg Try.prog 48 = some false := by kernel_rfl
@[simp] theorem az48 : azero Try.prog 48 = some ([(.nilp)]) := by kernel_rfl
@[simp] theorem azv48 : azerov Try.prog 48 = some (.nilp) := by kernel_rfl
@[simp] theorem ts53 : tsize Try.prog 53 = some 1 := by kernel_rfl
@[simp] theorem ta53 : tagg Try.prog 53 = some false := by kernel_rfl
@[simp] theorem az53 : azero Try.prog 53 = some ([(.nilp)]) := by kernel_rfl
@[simp] theorem azv53 : azerov Try.prog 53 = some (.nilp) := by kernel_rfl
@[simp] theorem ts54 : tsize Try.prog 54 = some 1 := by kernel_rfl
@[simp] theorem ta54 : tagg Try.prog 54 = some false := by kernel_rfl
@[simp] theorem az54 : azero Try.prog 54 = some ([(.nils)]) := by kernel_rfl
@[simp] theorem azv54 : azerov Try.prog 54 = some (.nils) := by kernel_rfl
theorem el54 : Elem Try.prog 54 60 4 40 := Elem.of (by kernel_rfl)
@[simp] theorem ts55 : tsize Try.prog 55 = some 2 := by kernel_rfl
@[simp] theorem ta55 : tagg Try.prog 55 = some true := by kernel_rfl
@[simp] theorem az55 : azero Try.prog 55 = some ([(.nilp), (.nils)]) := by kernel_rfl
@[simp] theorem azv55 : azerov Try.prog 55 = some (.agg ([(.nilp), (.nils)])) := by kernel_rfl
@[simp] theorem af55_0 : afield Try.prog 55 0 = some (0, 53) := by kernel_rfl
@[simp] theorem af55_1 : afield Try.prog 55 1 = some (1, 54) := by kernel_rfl
@[simp] theorem ts56 : tsize Try.prog 56 = some 2 := by kernel_rfl
@[simp] theorem ta56 : tagg Try.prog 56 = some true := by kernel_rfl
@[simp] theorem az56 : azero Try.prog 56 = some ([(.nilp), (.nils)]) := by kernel_rfl
@[simp] theorem azv56 : azerov Try.prog 56 = some (.agg ([(.nilp), (.nils)])) := by kernel_rfl
@[simp] theorem af56_0 : afield Try.prog 56 0 = some (0, 53) := by kernel_rfl
@[simp] theorem af56_1 : afield Try.prog 56 1 = some (1, 54) := by kernel_rfl
@[simp] theorem ts57 : tsize Try.prog 57 = some 2 := by kernel_rfl
@[simp] theorem ta57 : tagg Try.prog 57 = some true := by kernel_rfl
@[simp] theorem az57 : azero Try.prog 57 = some ([(.int .i64 0), (.int .i64 0)]) := by kernel_rfl
@[simp] theorem azv57 : azerov Try.prog 57 = some (.agg ([(.int .i64 0), (.int .i64 0)])) := by kernel_rfl
@[simp] theorem af57_0 : afield Try.prog 57 0 = some (0, 3) := by kernel_rfl
@[simp] theorem af57_1 : afield Try.prog 57 1 = some (1, 3) := by kernel_rfl
@[simp] theorem ts58 : tsize Try.prog 58 = some 2 := by kernel_rfl
@[simp] theorem ta58 : tagg Try.prog 58 = some true := by kernel_rfl
@[simp] theorem az58 : azero Try.prog 58 = some ([(.int .i64 0), (.int .i64 0)]) := by kernel_rfl
@[simp] theorem azv58 : azerov Try.prog 58 = some (.agg ([(.int .i64 0), (.int .i64 0)])) := by kernel_rfl
@[simp] theorem af58_0 : afield Try.prog 58 0 = some (0, 3) := by kernel_rfl
@[simp] theorem af58_1 : afield Try.prog 58 1 = some (1, 3) := by kernel_rfl
@[simp] theorem ts59 : tsize Try.prog 59 = some 4 := by kernel_rfl
@[simp] theorem ta59 : tagg Try.prog 59 = some true := by kernel_rfl
@[simp] theorem az59 : azero Try.prog 59 = some ([(.str .empty), (.int .i64 0), (.int .i64 0), (.bool false)]) := by kernel_rfl
@[simp] theorem azv59 : azerov Try.prog 59 = some (.agg ([(.str .empty), (.int .i64 0), (.int .i64 0), (.bool false)])) := by kernel_rfl
@[simp] theorem af59_0 : afield Try.prog 59 0 = some (0, 9) := by kernel_rfl
@[simp] theorem af59_1 : afield Try.prog 59 1 = some (1, 58) := by kernel_rfl
@[simp] theorem af59_2 : afield Try.prog 59 2 = some (3, 4) := by kernel_rfl
@[simp] theorem ts60 : tsize Try.prog 60 = some 4 := by kernel_rfl
@[simp] theorem ta60 : tagg Try.prog 60 = some true := by kernel_rfl
@[simp] theorem az60 : azero Try.prog 60 = some ([(.str .empty), (.int .i64 0), (.int .i64 0), (.bool false)]) := by kernel_rfl
@[simp] theorem azv60 : azerov Try.prog 60 = some (.agg ([(.str .empty), (.int .i64 0), (.int .i64 0), (.bool false)])) := by kernel_rfl
@[simp] theorem af60_0 : afield Try.prog 60 0 = some (0, 9) := by kernel_rfl
@[simp] theorem af60_1 : afield Try.prog 60 1 = some (1, 58) := by kernel_rfl
@[simp] theorem af60_2 : afield Try.prog 60 2 = some (3, 4) := by kernel_rfl
@[simp] theorem ts64 : tsize Try.prog 64 = some 1 := by kernel_rfl
@[simp] theorem ta64 : tagg Try.prog 64 = some false := by kernel_rfl
@[simp] theorem az64 : azero Try.prog 64 = some ([(.nils)]) := by kernel_rfl
@[simp] theorem azv64 : azerov Try.prog 64 = some (.nils) := by kernel_rfl
theorem el64 : Elem Try.prog 64 91 5 88 := Elem.of (by kernel_rfl)
@[simp] theorem ts65 : tsize Try.prog 65 = some 3 := by kernel_rfl
@[simp] theorem ta65 : tagg Try.prog 65 = some true := by kernel_rfl
@[simp] theorem az65 : azero Try.prog 65 = some ([(.int .i64 0), (.int .i64 0), (.nils)]) := by kernel_rfl
@[simp] theorem azv65 : azerov Try.prog 65 = some (.agg ([(.int .i64 0), (.int .i64 0), (.nils)])) := by kernel_rfl
@[simp] theorem af65_0 : afield Try.prog 65 0 = some (0, 3) := by kernel_rfl
@[simp] theorem af65_1 : afield Try.prog 65 1 = some (1, 3) := by kernel_rfl
@[simp] theorem af65_2 : afield Try.prog 65 2 = some (2, 64) := by kernel_rfl
@[simp] theorem ts66 : tsize Try.prog 66 = some 3 := by kernel_rfl
@[simp] theorem ta66 : tagg Try.prog 66 = some true := by kernel_rfl
@[simp] theorem az66 : azero Try.prog 66 = some ([(.int .i64 0), (.int .i64 0), (.nils)]) := by kernel_rfl
@[simp] theorem azv66 : azerov Try.prog 66 = some (.agg ([(.int .i64 0), (.int .i64 0), (.nils)])) := by kernel_rfl
@[simp] theorem af66_0 : afield Try.prog 66 0 = some (0, 3) := by kernel_rfl
@[simp] theorem af66_1 : afield Try.prog 66 1 = some (1, 3) := by kernel_rfl
@[simp] theorem af66_2 : afield Try.prog 66 2 = some (2, 64) := by kernel_rfl
@[simp] theorem ts67 : tsize Try.prog 67 = some 1 := by kernel_rfl
@[simp] theorem ta67 : tagg Try.prog 67 = some false := by kernel_rfl
@[simp] theorem az67 : azero Try.prog 67 = some ([(.nilp)]) := by kernel_rfl
@[simp] theorem azv67 : azerov Try.prog 67 = some (.nilp) := by kernel_rfl
@[simp] theorem ts70 : tsize Try.prog 70 = some 1 := by kernel_rfl
@[simp] theorem ta70 : tagg Try.prog 70 = some false := by kernel_rfl
@[simp] theorem az70 : azero Try.prog 70 = some ([(.nilp)]) := by kernel_rfl
@[simp] theorem azv70 : azerov Try.prog 70 = some (.nilp) := by kernel_rfl
@[simp] theorem ts72 : tsize Try.prog 72 = some 1 := by kernel_rfl
@[simp] theorem ta72 : tagg Try.prog 72 = some false := by kernel_rfl
@[simp] theorem az72 : azero Try.prog 72 = some ([(.nils)]) := by kernel_rfl
@[simp] theorem azv72 : azerov Try.prog 72 = some (.nils) := by kernel_rfl
theorem el72 : Elem Try.prog 72 79 6 56 := Elem.of (by kernel_rfl)
@[simp] theorem ts73 : tsize Try.prog 73 = some 4 := by kernel_rfl
@[simp] theorem ta73 : tagg Try.prog 73 = some true := by kernel_rfl
@[simp] theorem az73 : azero Try.prog 73 = some ([(.nilp), (.nilp), (.nils), (.nils)]) := by kernel_rfl
@[simp] theorem azv73 : azerov Try.prog 73 = some (.agg ([(.nilp), (.nilp), (.nils), (.nils)])) := by kernel_rfl
@[simp] theorem af73_0 : afield Try.prog 73 0 = some (0, 67) := by kernel_rfl
@[simp] theorem af73_1 : afield Try.prog 73 1 = some (1, 70) := by kernel_rfl
@[simp] theorem af73_2 : afield Try.prog 73 2 = some (2, 72) := by kernel_rfl
@[simp] theorem af73_3 : afield Try.prog 73 3 = some (3, 44) := by kernel_rfl
@[simp] theorem ts74 : tsize Try.prog 74 = some 4 := by kernel_rfl
@[simp] theorem ta74 : tagg Try.prog 74 = some true := by kernel_rfl
@[simp] theorem az74 : azero Try.prog 74 = some ([(.nilp), (.nilp), (.nils), (.nils)]) := by kernel_rfl
@[simp] theorem azv74 : azerov Try.prog 74 = some (.agg ([(.nilp), (.nilp), (.nils), (.nils)])) := by kernel_rfl
@[simp] theorem af74_0 : afield Try.prog 74 0 = some (0, 67) := by kernel_rfl
@[simp] theorem af74_1 : afield Try.prog 74 1 = some (1, 70) := by kernel_rfl
@[simp] theorem af74_2 : afield Try.prog 74 2 = some (2, 72) := by kernel_rfl
@[simp] theorem af74_3 : afield Try.prog 74 3 = some (3, 44) := by kernel_rfl
@[simp] theorem ts78 : tsize Try.prog 78 = some 6 := by kernel_rfl
@[simp] theorem ta78 : tagg Try.prog 78 = some true := by kernel_rfl
@[simp] theorem az78 : azero Try.prog 78 = some ([(.str .empty), (.int .i64 0), (.int .i64 0), (.bool false), (.int .i64 0), (.int .i64 0)]) := by kernel_rfl
@[simp] theorem azv78 : azerov Try.prog 78 = some (.agg ([(.str .empty), (.int .i64 0), (.int .i64 0), (.bool false), (.int .i64 0), (.int .i64 0)])) := by kernel_rfl
@[simp] theorem af78_0 : afield Try.prog 78 0 = some (0, 9) := by kernel_rfl
@[simp] theorem af78_1 : afield Try.prog 78 1 = some (1, 58) := by kernel_rfl
@[simp] theorem af78_2 : afield Try.prog 78 2 = some (3, 4) := by kernel_rfl
@[simp] theorem af78_3 : afield Try.prog 78 3 = some (4, 3) := by kernel_rfl
@[simp] theorem af78_4 : afield Try.prog 78 4 = some (5, 3) := by kernel_rfl
@[simp] theorem ts79 : tsize Try.prog 79 = some 6 := by kernel_rfl
@[simp] theorem ta79 : tagg Try.prog 79 = some true := by kernel_rfl
@[simp] theorem az79 : azero Try.prog 79 = some ([(.str .empty), (.int .i64 0), (.int .i64 0), (.bool false), (.int .i64 0), (.int .i64 0)]) := by kernel_rfl
@[simp] theorem azv79 : azerov Try.prog 79 = some (.agg ([(.str .empty), (.int .i64 0), (.int .i64 0), (.bool false), (.int .i64 0), (.int .i64 0)])) := by kernel_rfl
@[simp] theorem af79_0 : afield Try.prog 79 0 = some (0, 9) := by kernel_rfl
@[simp] theorem af79_1 : afield Try.prog 79 1 = some (1, 58) := by kernel_rfl
@[simp] theorem af79_2 : afield Try.prog 79 2 = some (3, 4) := by kernel_rfl
@[simp] theorem af79_3 : afield Try.prog 79 3 = some (4, 3) := by kernel_rfl
@[simp] theorem af79_4 : afield Try.prog 79 4 = some (5, 3) := by kernel_rfl
@[simp] theorem ts90 : tsize Try.prog 90 = some 5 := by kernel_rfl
@[simp] theorem ta90 : tagg Try.prog 90 = some true := by kernel_rfl
@[simp] theorem az90 : azero Try.prog 90 = some ([(.int .i64 0), (.int .i64 0), (.nils), (.nils), (.nils)]) := by kernel_rfl
@[simp] theorem azv90 : azerov Try.prog 90 = some (.agg ([(.int .i64 0), (.int .i64 0), (.nils), (.nils), (.nils)])) := by kernel_rfl
@[simp] theorem af90_0 : afield Try.prog 90 0 = some (0, 3) := by kernel_rfl
@[simp] theorem af90_1 : afield Try.prog 90 1 = some (1, 3) := by kernel_rfl
@[simp] theorem af90_2 : afield Try.prog 90 2 = some (2, 44) := by kernel_rfl
@[simp] theorem af90_3 : afield Try.prog 90 3 = some (3, 26) := by kernel_rfl
@[simp] theorem af90_4 : afield Try.prog 90 4 = some (4, 39) := by kernel_rfl
@[simp] theorem ts91 : tsize Try.prog 91 = some 5 := by kernel_rfl
@[simp] theorem ta91 : tagg Try.prog 91 = some true := by kernel_rfl
@[simp] theorem az91 : azero Try.prog 91 = some ([(.int .i64 0), (.int .i64 0), (.nils), (.nils), (.nils)]) := by kernel_rfl
@[simp] theorem azv91 : azerov Try.prog 91 = some (.agg ([(.int .i64 0), (.int .i64 0), (.nils), (.nils), (.nils)])) := by kernel_rfl
@[simp] theorem af91_0 : afield Try.prog 91 0 = some (0, 3) := by kernel_rfl
@[simp] theorem af91_1 : afield Try.prog 91 1 = some (1, 3) := by kernel_rfl
@[simp] theorem af91_2 : afield Try.prog 91 2 = some (2, 44) := by kernel_rfl
@[simp] theorem af91_3 : afield Try.prog 91 3 = some (3, 26) := by kernel_rfl
@[simp] theorem af91_4 : afield Try.prog 91 4 = some (4, 39) := by kernel_rfl
@[simp] theorem ts92 : tsize Try.prog 92 = some 1 := by kernel_rfl
@[simp] theorem ta92 : tagg Try.prog 92 = some false := by kernel_rfl
@[simp] theorem az92 : azero Try.prog 92 = some ([(.nils)]) := by kernel_rfl
@[simp] theorem azv92 : azerov Try.prog 92 = some (.nils) := by kernel_rfl
theorem el92 : Elem Try.prog 92 97 4 48 := Elem.of (by kernel_rfl)
@[simp] theorem ts93 : tsize Try.prog 93 = some 4 := by kernel_rfl
@[simp] theorem ta93 : tagg Try.prog 93 = some true := by kernel_rfl
@[simp] theorem az93 : azero Try.prog 93 = some ([(.int .i64 0), (.int .i64 0), (.int .i64 0), (.nils)]) := by kernel_rfl
@[simp] theorem azv93 : azerov Try.prog 93 = some (.agg ([(.int .i64 0), (.int .i64 0), (.int .i64 0), (.nils)])) := by kernel_rfl
@[simp] theorem af93_0 : afield Try.prog 93 0 = some (0, 3) := by kernel_rfl
@[simp] theorem af93_1 : afield Try.prog 93 1 = some (1, 3) := by kernel_rfl
@[simp] theorem af93_2 : afield Try.prog 93 2 = some (2, 3) := by kernel_rfl
@[simp] theorem af93_3 : afield Try.prog 93 3 = some (3, 92) := by kernel_rfl
@[simp] theorem ts94 : tsize Try.prog 94 = some 4 := by kernel_rfl
@[simp] theorem ta94 : tagg Try.prog 94 = some true := by kernel_rfl
@[simp] theorem az94 : azero Try.prog 94 = some ([(.int .i64 0), (.int .i64 0), (.int .i64 0), (.nils)]) := by kernel_rfl
@[simp] theorem azv94 : azerov Try.prog 94 = some (.agg ([(.int .i64 0), (.int .i64 0), (.int .i64 0), (.nils)])) := by kernel_rfl
@[simp] theorem af94_0 : afield Try.prog 94 0 = some (0, 3) := by kernel_rfl
@[simp] theorem af94_1 : afield Try.prog 94 1 = some (1, 3) := by kernel_rfl
@[simp] theorem af94_2 : afield Try.prog 94 2 = some (2, 3) := by kernel_rfl
@[simp] theorem af94_3 : afield Try.prog 94 3 = some (3, 92) := by kernel_rfl
@[simp] theorem ts95 : tsize Try.prog 95 = some 1 := by kernel_rfl
@[simp] theorem ta95 : tagg Try.prog 95 = some false := by kernel_rfl
@[simp] theorem az95 : azero Try.prog 95 = some ([(.nilm)]) := by kernel_rfl
@[simp] theorem azv95 : azerov Try.prog 95 = some (.nilm) := by kernel_rfl
@[simp] theorem ts96 : tsize Try.prog 96 = some 4 := by kernel_rfl
@[simp] theorem ta96 : tagg Try.prog 96 = some true := by kernel_rfl
@[simp] theorem az96 : azero Try.prog 96 = some ([(.int .i64 0), (.nils), (.nilm), (.int .i64 0)]) := by kernel_rfl
@[simp] theorem azv96 : azerov Try.prog 96 = some (.agg ([(.int .i64 0), (.nils), (.nilm), (.int .i64 0)])) := by kernel_rfl
@[simp] theorem af96_0 : afield Try.prog 96 0 = some (0, 3) := by kernel_rfl
@[simp] theorem af96_1 : afield Try.prog 96 1 = some (1, 44) := by kernel_rfl
@[simp] theorem af96_2 : afield Try.prog 96 2 = some (2, 95) := by kernel_rfl
@[simp] theorem af96_3 : afield Try.prog 96 3 = some (3, 3) := by kernel_rfl
@[simp] theorem ts97 : tsize Try.prog 97 = some 4 := by kernel_rfl
@[simp] theorem ta97 : tagg Try.prog 97 = some true := by kernel_rfl
@[simp] theorem az97 : azero Try.prog 97 = some ([(.int .i64 0), (.nils), (.nilm), (.int .i64 0)]) := by kernel_rfl
@[simp] theorem azv97 : azerov Try.prog 97 = some (.agg ([(.int .i64 0), (.nils), (.nilm), (.int .i64 0)])) := by kernel_rfl
@[simp] theorem af97_0 : afield Try.prog 97 0 = some (0, 3) := by kernel_rfl
@[simp] theorem af97_1 : afield Try.prog 97 1 = some (1, 44) := by kernel_rfl
@[simp] theorem af97_2 : afield Try.prog 97 2 = some (2, 95) := by kernel_rfl
@[simp] theorem af97_3 : afield Try.prog 97 3 = some (3, 3) := by kernel_rfl
@[simp] theorem ts98 : tsize Try.prog 98 = some 1 := by kernel_rfl
@[simp] theorem ta98 : tagg Try.prog 98 = some false := by kernel_rfl
@[simp] theorem az98 : azero Try.prog 98 = some ([(.nils)]) := by kernel_rfl
@[simp] theorem azv98 : azerov Try.prog 98 = some (.nils) := by kernel_rfl
theorem el98 : Elem Try.prog 98 105 1 24 := Elem.of (by kernel_rfl)
@[simp] theorem ts99 : tsize Try.prog 99 = some 4 := by kernel_rfl
@[simp] theorem ta99 : tagg Try.prog 99 = some true := by kernel_rfl
@[simp] theorem az99 : azero Try.prog 99 = some ([(.nils), (.nils), (.int .i64 0), (.int .i64 0)]) := by kernel_rfl
@[simp] theorem azv99 : azerov Try.prog 99 = some (.agg ([(.nils), (.nils), (.int .i64 0), (.int .i64 0)])) := by kernel_rfl
@[simp] theorem af99_0 : afield Try.prog 99 0 = some (0, 98) := by kernel_rfl
@[simp] theorem af99_1 : afield Try.prog 99 1 = some (1, 98) := by kernel_rfl
@[simp] theorem af99_2 : afield Try.prog 99 2 = some (2, 3) := by kernel_rfl
@[simp] theorem af99_3 : afield Try.prog 99 3 = some (3, 3) := by kernel_rfl
@[simp] theorem ts100 : tsize Try.prog 100 = some 4 := by kernel_rfl
@[simp] theorem ta100 : tagg Try.prog 100 = some true := by kernel_rfl
@[simp] theorem az100 : azero Try.prog 100 = some ([(.nils), (.nils), (.int .i64 0), (.int .i64 0)]) := by kernel_rfl
@[simp] theorem azv100 : azerov Try.prog 100 = some (.agg ([(.nils), (.nils), (.int .i64 0), (.int .i64 0)])) := by kernel_rfl
@[simp] theorem af100_0 : afield Try.prog 100 0 = some (0, 98) := by kernel_rfl
@[simp] theorem af100_1 : afield Try.prog 100 1 = some (1, 98) := by kernel_rfl
@[simp] theorem af100_2 : afield Try.prog 100 2 = some (2, 3) := by kernel_rfl
@[simp] theorem af100_3 : afield Try.prog 100 3 = some (3, 3) := by kernel_rfl
@[simp] theorem ts101 : tsize Try.prog 101 = some 1 := by kernel_rfl
@[simp] theorem ta101 : tagg Try.prog 101 = some false := by kernel_rfl
@[simp] theorem az101 : azero Try.prog 101 = some ([(.nilp)]) := by kernel_rfl
@[simp] theorem azv101 : azerov Try.prog 101 = some (.nilp) := by kernel_rfl
@[simp] theorem ts102 : tsize Try.prog 102 = some 1 := by kernel_rfl
@[simp] theorem ta102 : tagg Try.prog 102 = some false := by kernel_rfl
@[simp] theorem az102 : azero Try.prog 102 = some ([(.nilp)]) := by kernel_rfl
@[simp] theorem azv102 : azerov Try.prog 102 = some (.nilp) := by kernel_rfl
@[simp] theorem ts105 : tsize Try.prog 105 = some 1 := by kernel_rfl
@[simp] theorem ta105 : tagg Try.prog 105 = some false := by kernel_rfl
@[simp] theorem az105 : azero Try.prog 105 = some ([(.nils)]) := by kernel_rfl
@[simp] theorem azv105 : azerov Try.prog 105 = some (.nils) := by kernel_rfl
theorem el105 : Elem Try.prog 105 107 2 24 := Elem.of (by kernel_rfl)
@[simp] theorem ts106 : tsize Try.prog 106 = some 2 := by kernel_rfl
@[simp] theorem ta106 : tagg Try.prog 106 = some true := by kernel_rfl
@[simp] theorem az106 : azero Try.prog 106 = some ([(.str .empty), (.int .i64 0)]) := by kernel_rfl
@[simp] theorem azv106 : azerov Try.prog 106 = some (.agg ([(.str .empty), (.int .i64 0)])) := by kernel_rfl
@[simp] theorem af106_0 : afield Try.prog 106 0 = some (0, 9) := by kernel_rfl
@[simp] theorem af106_1 : afield Try.prog 106 1 = some (1, 3) := by kernel_rfl
@[simp] theorem ts107 : tsize Try.prog 107 = some 2 := by kernel_rfl
@[simp] theorem ta107 : tagg Try.prog 107 = some true := by kernel_rfl
@[simp] theorem az107 : azero Try.prog 107 = some ([(.str .empty), (.int .i64 0)]) := by kernel_rfl
@[simp] theorem azv107 : azerov Try.prog 107 = some (.agg ([(.str .empty), (.int .i64 0)])) := by kernel_rfl
@[simp] theorem af107_0 : afield Try.prog 107 0 = some (0, 9) := by kernel_rfl
@[simp] theorem af107_1 : afield Try.prog 107 1 = some (1, 3) := by kernel_rfl
@[simp] theorem ts108 : tsize Try.prog 108 = some 1 := by kernel_rfl
@[simp] theorem ta108 : tagg Try.prog 108 = some false := by kernel_rfl
@[simp] theorem az108 : azero Try.prog 108 = some ([(.nilp)]) := by kernel_rfl
@[simp] theorem azv108 : azerov Try.prog 108 = some (.nilp) := by kernel_rfl
@[simp] theorem ts109 : tsize Try.prog 109 = some 1 := by kernel_rfl
@[simp] theorem ta109 : tagg Try.prog 109 = some false := by kernel_rfl
@[simp] theorem az109 : azero Try.prog 109 = some ([(.int .u32 0)]) := by kernel_rfl
@[simp] theorem azv109 : azerov Try.prog 109 = some (.int .u32 0) := by kernel_rfl
@[simp] theorem ts120 : tsize Try.prog 120 = some 1 := by kernel_rfl
@[simp] theorem ta120 : tagg Try.prog 120 = some false := by kernel_rfl
@[simp] theorem az120 : azero Try.prog 120 = some ([(.nilp)]) := by kernel_rfl
@[simp] theorem azv120 : azerov Try.prog 120 = some (.nilp) := by kernel_rfl
@[simp] theorem ng3 : nogo Try.f3 = false := by kernel_rfl
attribute [simp] Try.func3
@[simp] theorem ng4 : nogo Try.f4 = false := by kernel_rfl
attribute [simp] Try.func4
@[simp] theorem ng5 : nogo Try.f5 = false := by kernel_rfl
attribute [simp] Try.func5
@[simp] theorem ng6 : nogo Try.f6 = false := by kernel_rfl
attribute [simp] Try.func6
@[simp] theorem ng7 : nogo Try.f7 = false := by kernel_rfl
attribute [simp] Try.func7
@[simp] theorem ng8 : nogo Try.f8 = false := by kernel_rfl
attribute [simp] Try.func8
@[simp] theorem ng9 : nogo Try.f9 = false := by kernel_rfl
attribute [simp] Try.func9
@[simp] theorem ng10 : nogo Try.f10 = false := by kernel_rfl
attribute [simp] Try.func10
@[simp] theorem ng11 : nogo Try.f11 = false := by kernel_rfl
attribute [simp] Try.func11
@[simp] theorem ng12 : nogo Try.f12 = false := by kernel_rfl
attribute [simp] Try.func12
@[simp] theorem ng13 : nogo Try.f13 = false := by kernel_rfl
attribute [simp] Try.func13
@[simp] theorem ng14 : nogo Try.f14 = false := by kernel_rfl
attribute [simp] Try.func14
@[simp] theorem ng15 : nogo Try.f15 = false := by kernel_rfl
attribute [simp] Try.func15
@[simp] theorem ng16 : nogo Try.f16 = false := by kernel_rfl
attribute [simp] Try.func16
@[simp] theorem ng17 : nogo Try.f17 = false := by kernel_rfl
attribute [simp] Try.func17
@[simp] theorem ng18 : nogo Try.f18 = false := by kernel_rfl
attribute [simp] Try.func18
@[simp] theorem ng19 : nogo Try.f19 = false := by kernel_rfl
attribute [simp] Try.func19
@[simp] theorem ng20 : nogo Try.f20 = false := by kernel_rfl
attribute [simp] Try.func20
@[simp] theorem ng21 : nogo Try.f21 = false := by kernel_rfl
attribute [simp] Try.func21
@[simp] theorem ng22 : nogo Try.f22 = false := by kernel_rfl
attribute [simp] Try.func22
@[simp] theorem ng23 : nogo Try.f23 = false := by kernel_rfl
attribute [simp] Try.func23
@[simp] theorem ng24 : nogo Try.f24 = false := by kernel_rfl
attribute [simp] Try.func24
@[simp] theorem ng25 : nogo Try.f25 = false := by kernel_rfl
attribute [simp] Try.func25
@[simp] theorem ng26 : nogo Try.f26 = false := by kernel_rfl
attribute [simp] Try.func26
@[simp] theorem ng27 : nogo Try.f27 = false := by kernel_rfl
attribute [simp] Try.func27
@[simp] theorem ng28 : nogo Try.f28 = false := by kernel_rfl
attribute [simp] Try.func28
@[simp] theorem ng29 : nogo Try.f29 = false := by kernel_rfl
attribute [simp] Try.func29
@[simp] theorem ng30 : nogo Try.f30 = false := by kernel_rfl
attribute [simp] Try.func30
@[simp] theorem ng31 : nogo Try.f31 = false := by kernel_rfl
attribute [simp] Try.func31
@[simp] theorem ng32 : nogo Try.f32 = false := by kernel_rfl
attribute [simp] Try.func32
@[simp] theorem ng33 : nogo Try.f33 = false := by kernel_rfl
attribute [simp] Try.func33
@[simp] theorem ng34 : nogo Try.f34 = false := by kernel_rfl
attribute [simp] Try.func34
@[simp] theorem ng35 : nogo Try.f35 = false := by kernel_rfl
attribute [simp] Try.func35
@[simp] theorem ng36 : nogo Try.f36 = false := by kernel_rfl
attribute [simp] Try.func36
@[simp] theorem ng37 : nogo Try.f37 = false := by kernel_rfl
attribute [simp] Try.func37
@[simp] theorem ng38 : nogo Try.f38 = false := by kernel_rfl
attribute [simp] Try.func38
@[simp] theorem ng39 : nogo Try.f39 = false := by kernel_rfl
attribute [simp] Try.func39
@[simp] theorem ng40 : nogo Try.f40 = false := by kernel_rfl
attribute [simp] Try.func40
@[simp] theorem ng41 : nogo Try.f41 = false := by kernel_rfl
attribute [simp] Try.func41
@[simp] theorem ng42 : nogo Try.f42 = false := by kernel_rfl
attribute [simp] Try.func42
@[simp] theorem ng43 : nogo Try.f43 = false := by kernel_rfl
attribute [simp] Try.func43
@[simp] theorem ng44 : nogo Try.f44 = false := by kernel_rfl
attribute [simp] Try.func44
@[simp] theorem ng45 : nogo Try.f45 = false := by kernel_rfl
attribute [simp] Try.func45
@[simp] theorem ng46 : nogo Try.f46 = false := by kernel_rfl
attribute [simp] Try.func46
@[simp] theorem ng47 : nogo Try.f47 = false := by kernel_rfl
attribute [simp] Try.func47
@[simp] theorem ng48 : nogo Try.f48 = false := by kernel_rfl
attribute [simp] Try.func48
@[simp] theorem ng49 : nogo Try.f49 = false := by kernel_rfl
attribute [simp] Try.func49
@[simp] theorem ng50 : nogo Try.f50 = false := by kernel_rfl
attribute [simp] Try.func50
@[simp] theorem ng51 : nogo Try.f51 = false := by kernel_rfl
attribute [simp] Try.func51
@[simp] theorem ng52 : nogo Try.f52 = false := by kernel_rfl
attribute [simp] Try.func52
end Go.Proofs.Ytelnkdgpghndgaa
/- Rows of bytes. -/
namespace Go.Proofs.Ytelnkdgpghndgaa
open Go Go.YtelnkdgpghndgaaAbs
set_option linter.unusedSimpArgs false
set_option linter.unusedVariables false

/-- A byte's cell. -/
def bb (b : UInt8) : AV := .int .u8 (b.toNat : Nat)
theorem rdl_byte {h : Heap} {cs : List AV} {xs : List UInt8} (r : RdL kByte h cs xs) : cs = xs.map bb := by
  obtain ⟨r1, r2⟩ := r
  have r1 : cs.length = xs.length * 1 := r1
  refine List.ext_getElem? fun j => ?_
  rw [List.getElem?_map]
  cases hx : xs[j]? with
  | none =>
    rw [List.getElem?_eq_none]
    · rfl
    · have := List.getElem?_eq_none_iff.1 hx
      omega
  | some x =>
    have : (cs.drop (j * 1)).take 1 = [.int .u8 (x.toNat : Nat)] := r2 j x hx
    rw [Nat.mul_one] at this
    have e := congrArg (·[0]?) this
    simp only [List.getElem?_take, List.getElem?_drop] at e
    simpa [bb] using e
theorem sla_bytes {h : Heap} {v : AV} {xs : List UInt8} (r : SlA kByte h v xs) : Sl 1 xs.length h v (xs.map bb) := by
  obtain ⟨c, c1, c2⟩ := r.sl
  rw [rdl_byte c2] at c1
  exact c1
theorem bb_get {l : List UInt8} {j : Nat} {x : UInt8} (h : l[j]? = some x) : (l.map bb)[j]? = some (bb x) := by rw [List.getElem?_map, h]; rfl
theorem getb {α : Type} {l : List α} {j : Nat} (h : j < l.length) : ∃ x, l[j]? = some x := ⟨l[j], by simp [h]⟩
theorem bb_one (l : List UInt8) : (l.map bb).all AV.one = true := by
  rw [List.all_map, List.all_eq_true]
  intro x _
  rfl
theorem abytes_bb : ∀ l : List UInt8, abytes (l.map bb) = some l
  | [] => rfl
  | b :: l => by
    show (match abytes (l.map bb) with
      | some r => some (UInt8.ofNat ((b.toNat : Int)).toNat :: r)
      | none => none) = _
    rw [abytes_bb l, Int.toNat_natCast, UInt8.ofNat_toNat]
/-- Bytes as a text. -/
theorem aconv_bs {P : Program} {h : Heap} {src dst e : TypeId} {n : Nat} {v : AV} {l : List UInt8} (r : Sl 1 n h v (l.map bb))
    (hs : P.underlying src = some (.slice e)) (hd : P.underlying dst = some .string) (he : P.underlying e = some (.int .u8)) : aconv P h src dst v = some (.str ⟨⟨l⟩⟩, h) := by
  have hl := r.length
  unfold aconv
  rw [hs, hd]
  rcases r with ⟨rfl, r2, rfl⟩ | ⟨rfl, r2, rfl⟩ | ⟨b, i, cap, ex, c, ro, rfl, r2, r3, r4, r5, r6, r7⟩
  · have : l = [] := by simpa using r2
    subst this
    simp only [he]
    rfl
  · have : l = [] := by simpa using r2
    subst this
    simp only [he]
    rfl
  · simp only [he]
    unfold Heap.row
    rw [r3]
    simp only
    rw [if_pos (by omega)]
    have r6' : (c.drop i).take n = l.map bb := by rw [← r6, Nat.mul_one]
    rw [r6', abytes_bb]
/-- A new slice of one byte. -/
theorem sl_new1 (h : Heap) (b : UInt8) (ex : Bool) : Sl 1 1 (h.new (.cells [.int .u8 (b.toNat : Nat)] false)) (.sl h.next 0 1 1 1 ex) ([b].map bb) :=
  .inr (.inr ⟨h.next, 0, 1, ex, [.int .u8 (b.toNat : Nat)], false, rfl, Nat.lt_succ_self _, get_new_self _ _, rfl, by simp, rfl, Nat.le_refl _⟩)
end Go.Proofs.Ytelnkdgpghndgaa
/- Rows of numbers and of texts, as arguments have them. -/
namespace Go.Proofs.Ytelnkdgpghndgaa
open Go Go.YtelnkdgpghndgaaAbs
set_option linter.unusedSimpArgs false
set_option linter.unusedVariables false

theorem rdl_map {α : Type} {K : Kind α} {f : α → AV} (hs : K.sz = 1) (hf : ∀ h cs x, K.rd h cs x → cs = [f x]) {h : Heap} {cs : List AV} {xs : List α} (r : RdL K h cs xs) : cs = xs.map f := by
  obtain ⟨r1, r2⟩ := r
  rw [hs, Nat.mul_one] at r1
  refine List.ext_getElem? fun j => ?_
  rw [List.getElem?_map]
  cases hx : xs[j]? with
  | none =>
    rw [List.getElem?_eq_none]
    · rfl
    · have := List.getElem?_eq_none_iff.1 hx
      omega
  | some x =>
    have := hf _ _ _ (r2 j x hx)
    rw [hs, Nat.mul_one] at this
    have e := congrArg (·[0]?) this
    simp only [List.getElem?_take, List.getElem?_drop] at e
    simpa using e
theorem sla_map {α : Type} {K : Kind α} {f : α → AV} (hs : K.sz = 1) (hf : ∀ h cs x, K.rd h cs x → cs = [f x]) {h : Heap} {v : AV} {xs : List α} (r : SlA K h v xs) : Sl 1 xs.length h v (xs.map f) ∧ ∀ x ∈ xs, ∃ h cs, K.rd h cs x := by
  obtain ⟨c, c1, c2⟩ := r.sl
  refine ⟨?_, fun x hx => ?_⟩
  · rw [rdl_map hs hf c2] at c1
    rw [hs] at c1
    exact c1
  · obtain ⟨j, hj⟩ := List.getElem?_of_mem hx
    exact ⟨_, _, c2.2 j x hj⟩
/-- Numbers. -/
def ii (n : Int) : AV := .int .i64 n
theorem sla_ints {h : Heap} {v : AV} {xs : List Int} (r : SlA (kInt .i64) h v xs) : Sl 1 xs.length h v (xs.map ii) ∧ ∀ x ∈ xs, -9223372036854775808 ≤ x ∧ x ≤ 9223372036854775807 := by
  obtain ⟨r1, r2⟩ := sla_map (K := kInt .i64) (f := ii) rfl (fun _ _ _ q => q.1) r
  exact ⟨r1, fun x hx => by obtain ⟨_, _, q⟩ := r2 x hx; exact wf64 q.2⟩
theorem ii_get {l : List Int} {j : Nat} {x : Int} (h : l[j]? = some x) : (l.map ii)[j]? = some (ii x) := by rw [List.getElem?_map, h]; rfl
theorem ii_one (l : List Int) : (l.map ii).all AV.one = true := by
  rw [List.all_map, List.all_eq_true]
  intro x _
  rfl
/-- Texts. -/
def ss (s : ByteArray) : AV := .str s
theorem sla_strs {h : Heap} {v : AV} {xs : List ByteArray} (r : SlA kStr h v xs) : Sl 1 xs.length h v (xs.map ss) ∧ ∀ x ∈ xs, x.size ≤ maxLen := by
  obtain ⟨r1, r2⟩ := sla_map (K := kStr) (f := ss) rfl (fun _ _ _ q => q.1) r
  exact ⟨r1, fun x hx => by obtain ⟨_, _, q⟩ := r2 x hx; exact q.2⟩
theorem ss_get {l : List ByteArray} {j : Nat} {x : ByteArray} (h : l[j]? = some x) : (l.map ss)[j]? = some (ss x) := by rw [List.getElem?_map, h]; rfl
theorem ss_one (l : List ByteArray) : (l.map ss).all AV.one = true := by
  rw [List.all_map, List.all_eq_true]
  intro x _
  rfl
end Go.Proofs.Ytelnkdgpghndgaa
/- item's row of nodes in plain words: a ring. -/
namespace Go.Proofs.Ytelnkdgpghndgaa
open Go Go.YtelnkdgpghndgaaAbs
set_option linter.unusedSimpArgs false
set_option linter.unusedVariables false

structure Nd where
  key : ByteArray
  ci : Nat
  ch : Nat
  pin : Bool
  nx : Nat
  pv : Nat
def nd0 : Nd := ⟨.empty, 0, 0, false, 0, 0⟩
def nxN (N : List Nd) (i : Nat) : Nat := ((N[i]?).map (·.nx)).getD 0
def pvN (N : List Nd) (i : Nat) : Nat := ((N[i]?).map (·.pv)).getD 0
def datN (N : List Nd) (i : Nat) : Option (ByteArray × Nat × Nat × Bool) := (N[i]?).map fun n => (n.key, n.ci, n.ch, n.pin)
def setNx (N : List Nd) (j v : Nat) : List Nd := N.modify j fun n => { n with nx := v }
def setPv (N : List Nd) (j v : Nat) : List Nd := N.modify j fun n => { n with pv := v }
theorem len_nx (N : List Nd) (j v : Nat) : (setNx N j v).length = N.length := by simp [setNx]
theorem len_pv (N : List Nd) (j v : Nat) : (setPv N j v).length = N.length := by simp [setPv]
theorem nx_nx {N : List Nd} {j v k : Nat} (hj : j < N.length) : nxN (setNx N j v) k = if k = j then v else nxN N k := by
  unfold nxN setNx
  rw [List.getElem?_modify]
  by_cases q : j = k
  · subst q
    simp [hj]
  · rw [if_neg (fun e => q e.symm)]
    cases N[k]? <;> simp [q]
theorem pv_pv {N : List Nd} {j v k : Nat} (hj : j < N.length) : pvN (setPv N j v) k = if k = j then v else pvN N k := by
  unfold pvN setPv
  rw [List.getElem?_modify]
  by_cases q : j = k
  · subst q
    simp [hj]
  · rw [if_neg (fun e => q e.symm)]
    cases N[k]? <;> simp [q]
theorem pv_nx {N : List Nd} {j v k : Nat} : pvN (setNx N j v) k = pvN N k := by
  unfold pvN setNx
  rw [List.getElem?_modify]
  cases N[k]? with
  | none => rfl
  | some n => by_cases q : j = k <;> simp [q]
theorem nx_pv {N : List Nd} {j v k : Nat} : nxN (setPv N j v) k = nxN N k := by
  unfold nxN setPv
  rw [List.getElem?_modify]
  cases N[k]? with
  | none => rfl
  | some n => by_cases q : j = k <;> simp [q]
theorem dat_nx {N : List Nd} {j v k : Nat} : datN (setNx N j v) k = datN N k := by
  unfold datN setNx
  rw [List.getElem?_modify]
  cases N[k]? with
  | none => rfl
  | some n => by_cases q : j = k <;> simp [q]
theorem dat_pv {N : List Nd} {j v k : Nat} : datN (setPv N j v) k = datN N k := by
  unfold datN setPv
  rw [List.getElem?_modify]
  cases N[k]? with
  | none => rfl
  | some n => by_cases q : j = k <;> simp [q]
/-- From a node on, through the row, back to 0. -/
def Lk (nx pv : Nat → Nat) : Nat → List Nat → Prop
  | a, [] => nx a = 0 ∧ pv 0 = a
  | a, i :: R => nx a = i ∧ pv i = a ∧ Lk nx pv i R
section
variable {nx pv nx' pv' : Nat → Nat}
theorem Lk.at : ∀ {R : List Nat} {a : Nat}, Lk nx pv a R → ∀ {p x y : Nat}, (a :: R)[p]? = some x → (R ++ [0])[p]? = some y → nx x = y ∧ pv y = x
  | [], a, h, 0, x, y, hx, hy => by
    simp at hx hy
    subst hx hy
    exact h
  | [], a, h, p + 1, x, y, hx, hy => by simp at hx
  | i :: R, a, h, 0, x, y, hx, hy => by
    simp at hx hy
    subst hx hy
    exact ⟨h.1, h.2.1⟩
  | i :: R, a, h, p + 1, x, y, hx, hy => h.2.2.at (p := p) (by simpa using hx) (by simpa using hy)
theorem Lk.frame : ∀ {R : List Nat} {a : Nat}, Lk nx pv a R → (∀ j, j ∈ a :: R → nx' j = nx j) → (∀ j, j ∈ R ++ [0] → pv' j = pv j) → Lk nx' pv' a R
  | [], a, h, h1, h2 => ⟨by rw [h1 a (by simp)]; exact h.1, by rw [h2 0 (by simp)]; exact h.2⟩
  | i :: R, a, h, h1, h2 => ⟨by rw [h1 a (by simp)]; exact h.1, by rw [h2 i (by simp)]; exact h.2.1, h.2.2.frame (fun j hj => h1 j (List.mem_cons_of_mem _ hj)) (fun j hj => h2 j (by
      simp only [List.cons_append, List.mem_cons]
      exact .inr hj))⟩
theorem Lk.pv_mem : ∀ {A B : List Nat} {a i : Nat}, Lk nx pv a (A ++ i :: B) → pv i ∈ a :: A
  | [], B, a, i, h => by rw [show pv i = a from h.2.1]; simp
  | c :: A, B, a, i, h => List.mem_cons_of_mem _ (Lk.pv_mem (A := A) (B := B) h.2.2)
theorem Lk.nx_mem : ∀ {A B : List Nat} {a i : Nat}, Lk nx pv a (A ++ i :: B) → nx i ∈ B ++ [0]
  | [], [], a, i, h => by rw [show nx i = 0 from h.2.2.1]; simp
  | [], b :: B, a, i, h => by rw [show nx i = b from h.2.2.1]; simp
  | c :: A, B, a, i, h => Lk.nx_mem (A := A) (B := B) h.2.2
/-- One goes out of the row. -/
theorem Lk.out : ∀ {A B : List Nat} {a i : Nat}, Lk nx pv a (A ++ i :: B) → (a :: (A ++ i :: B)).Nodup → 0 ∉ A ++ i :: B → (∀ j, nx' j = if j = pv i then nx i else nx j) → (∀ j, pv' j = if j = nx i then pv i else pv j) → Lk nx' pv' a (A ++ B)
  | [], [], a, i, h, hn, h0, e1, e2 => by
    obtain ⟨h1, h2, h3, h4⟩ := h
    exact ⟨by rw [e1, h2, if_pos rfl, h3], by rw [e2, h3, if_pos rfl, h2]⟩
  | [], b :: B, a, i, h, hn, h0, e1, e2 => by
    obtain ⟨h1, h2, h3, h4, h5⟩ := h
    simp only [List.nil_append, List.nodup_cons, List.mem_cons, not_or] at hn h0
    refine ⟨by rw [e1, h2, if_pos rfl, h3], by rw [e2, h3, if_pos rfl, h2], h5.frame (fun j hj => ?_) (fun j hj => ?_)⟩
    · rw [e1, if_neg]
      intro q
      rw [h2] at q
      subst q
      rcases List.mem_cons.1 hj with z | z
      · exact hn.1.2.1 z
      · exact hn.1.2.2 z
    · rw [e2, if_neg]
      intro q
      rw [h3] at q
      subst q
      rcases List.mem_append.1 hj with z | z
      · exact hn.2.2.1 z
      · exact h0.2.1 (List.mem_singleton.1 z).symm
  | c :: A, B, a, i, h, hn, h0, e1, e2 => by
    obtain ⟨h1, h2, h5⟩ := h
    have m1 := Lk.pv_mem (A := A) (B := B) h5
    have m2 := Lk.nx_mem (A := A) (B := B) h5
    have hn' := hn
    simp only [List.cons_append, List.nodup_cons, List.mem_cons, not_or] at hn h0
    refine ⟨?_, ?_, h5.out (A := A) (B := B) (by simpa using hn.2) h0.2 e1 e2⟩
    · rw [e1, if_neg]
      · exact h1
      · intro q
        rw [← q] at m1
        rcases List.mem_cons.1 m1 with z | z
        · exact hn.1.1 z
        · exact hn.1.2 (List.mem_append.2 (.inl z))
    · rw [e2, if_neg]
      · exact h2
      · intro q
        rw [← q] at m2
        rcases List.mem_append.1 m2 with z | z
        · exact hn.2.1 (List.mem_append.2 (.inr (List.mem_cons_of_mem _ z)))
        · exact h0.1 (List.mem_singleton.1 z).symm
/-- One goes in to the front. -/
theorem Lk.in {R : List Nat} {i : Nat} (h : Lk nx pv 0 R) (hn : R.Nodup) (h0 : 0 ∉ R) (hi : i ∉ R) (hi0 : i ≠ 0) (e1 : ∀ j, nx' j = if j = 0 then i else if j = i then nx 0 else nx j) (e2 : ∀ j, pv' j = if j = nx 0 then i else if j = i then 0 else pv j) : Lk nx' pv' 0 (i :: R) := by
  cases R with
  | nil =>
    obtain ⟨h1, h2⟩ := h
    refine ⟨by rw [e1, if_pos rfl], by rw [e2, h1, if_neg hi0, if_pos rfl], ?_, ?_⟩
    · rw [e1, if_neg hi0, if_pos rfl, h1]
    · rw [e2, h1, if_pos rfl]
  | cons b R =>
    obtain ⟨h1, h2, h3⟩ := h
    simp only [List.mem_cons, not_or] at hi h0
    simp only [List.nodup_cons] at hn
    refine ⟨by rw [e1, if_pos rfl], by rw [e2, h1, if_neg hi.1, if_pos rfl], by rw [e1, if_neg hi0, if_pos rfl, h1], by rw [e2, h1, if_pos rfl], h3.frame (fun j hj => ?_) (fun j hj => ?_)⟩
    · have hj0 : j ≠ 0 := fun q => by
        subst q
        rcases List.mem_cons.1 hj with z | z
        · exact h0.1 z
        · exact h0.2 z
      have hji : j ≠ i := fun q => by
        subst q
        rcases List.mem_cons.1 hj with z | z
        · exact hi.1 z
        · exact hi.2 z
      rw [e1, if_neg hj0, if_neg hji]
    · have hjb : j ≠ b := fun q => by
        subst q
        rcases List.mem_append.1 hj with z | z
        · exact hn.1 z
        · exact h0.1 (List.mem_singleton.1 z).symm
      have hji : j ≠ i := fun q => by
        subst q
        rcases List.mem_append.1 hj with z | z
        · exact hi.2 z
        · exact hi0 (List.mem_singleton.1 z)
      rw [e2, h1, if_neg hjb, if_neg hji]
end
structure Ring (N : List Nd) (R : List Nat) : Prop where
  nd : (0 :: R).Nodup
  lt : ∀ i, i ∈ 0 :: R → i < N.length
  lk : Lk (nxN N) (pvN N) 0 R
section
variable {N N' : List Nd} {R A B : List Nat} {i : Nat}
theorem Ring.frame (G : Ring N R) (hl : N.length ≤ N'.length) (h : ∀ j, j ∈ 0 :: R → nxN N' j = nxN N j ∧ pvN N' j = pvN N j) : Ring N' R :=
  ⟨G.nd, fun i hi => Nat.lt_of_lt_of_le (G.lt i hi) hl, G.lk.frame (fun j hj => (h j hj).1) (fun j hj => (h j (by
    rcases List.mem_append.1 hj with z | z
    · exact List.mem_cons_of_mem _ z
    · rw [List.mem_singleton.1 z]; simp)).2)⟩
def outN (N : List Nd) (i : Nat) : List Nd := setPv (setNx N (pvN N i) (nxN N i)) (nxN N i) (pvN N i)
theorem Ring.out (G : Ring N (A ++ i :: B)) : pvN N i < N.length ∧ nxN N i < N.length ∧ Ring (outN N i) (A ++ B) := by
  have m1 := G.lk.pv_mem
  have m2 := G.lk.nx_mem
  have l1 : pvN N i < N.length := G.lt _ (by
    rcases List.mem_cons.1 m1 with z | z
    · rw [z]; simp
    · exact List.mem_cons_of_mem _ (List.mem_append.2 (.inl z)))
  have l2 : nxN N i < N.length := G.lt _ (by
    rcases List.mem_append.1 m2 with z | z
    · exact List.mem_cons_of_mem _ (List.mem_append.2 (.inr (List.mem_cons_of_mem _ z)))
    · rw [List.mem_singleton.1 z]; simp)
  have nd := G.nd
  refine ⟨l1, l2, ?_, fun j hj => ?_, ?_⟩
  · refine nd.sublist ?_
    exact (List.Sublist.append (List.Sublist.refl A) (List.sublist_cons_self i B)).cons_cons 0
  · unfold outN
    rw [len_pv, len_nx]
    refine G.lt j ?_
    rcases List.mem_cons.1 hj with z | z
    · rw [z]; simp
    · refine List.mem_cons_of_mem _ ?_
      rcases List.mem_append.1 z with z | z
      · exact List.mem_append.2 (.inl z)
      · exact List.mem_append.2 (.inr (List.mem_cons_of_mem _ z))
  · refine G.lk.out nd (List.nodup_cons.1 nd).1 (fun j => ?_) (fun j => ?_)
    · unfold outN
      rw [nx_pv, nx_nx l1]
    · unfold outN
      rw [pv_pv (by rw [len_nx]; exact l2), pv_nx]
def inN (N : List Nd) (i : Nat) : List Nd := setPv (setNx (setNx (setPv N i 0) i (nxN N 0)) 0 i) (nxN N 0) i
theorem Ring.in (G : Ring N R) (hi : i ∉ 0 :: R) (hl : i < N.length) : nxN N 0 < N.length ∧ Ring (inN N i) (i :: R) := by
  simp only [List.mem_cons, not_or] at hi
  have nd := List.nodup_cons.1 G.nd
  have h0 : 0 < N.length := G.lt 0 (by simp)
  have l1 : nxN N 0 < N.length := by
    have := G.lk
    cases R with
    | nil => rw [show nxN N 0 = 0 from this.1]; exact h0
    | cons b R => rw [show nxN N 0 = b from this.1]; exact G.lt b (by simp)
  refine ⟨l1, ?_, fun j hj => ?_, ?_⟩
  · simp only [List.nodup_cons, List.mem_cons, not_or]
    exact ⟨⟨fun q => hi.1 q.symm, nd.1⟩, hi.2, nd.2⟩
  · unfold inN
    simp only [len_pv, len_nx]
    simp only [List.mem_cons] at hj
    rcases hj with rfl | rfl | z
    · exact h0
    · exact hl
    · exact G.lt j (by simp [z])
  · refine G.lk.in nd.2 nd.1 hi.2 hi.1 (fun j => ?_) (fun j => ?_)
    · unfold inN
      rw [nx_pv, nx_nx (by simpa [len_nx, len_pv] using h0), nx_nx (by simpa [len_pv] using hl), nx_pv]
    · unfold inN
      rw [pv_pv (by simpa [len_nx, len_pv] using l1), pv_nx, pv_nx, pv_pv hl]
theorem out_len (N : List Nd) (i : Nat) : (outN N i).length = N.length := by unfold outN; rw [len_pv, len_nx]
theorem in_len (N : List Nd) (i : Nat) : (inN N i).length = N.length := by unfold inN; simp [len_pv, len_nx]
theorem out_dat (N : List Nd) (i j : Nat) : datN (outN N i) j = datN N j := by unfold outN; rw [dat_pv, dat_nx]
theorem in_dat (N : List Nd) (i j : Nat) : datN (inN N i) j = datN N j := by unfold inN; rw [dat_pv, dat_nx, dat_nx, dat_pv]
end
end Go.Proofs.Ytelnkdgpghndgaa
/- chain.Hash and depotref5.Hash. -/
namespace Go.Proofs.Ytelnkdgpghndgaa
open Go Go.YtelnkdgpghndgaaAbs
set_option linter.unusedSimpArgs false
set_option linter.unusedVariables false

theorem i64s {n : Int} (h : -9223372036854775808 ≤ n) (h' : n ≤ 9223372036854775807) : fwrap .i64 n = n := i64w n h h'
def hstep (h : Nat) (b : UInt8) : Nat := ((h ^^^ b.toNat) * 16777619) % 4294967296
def hash (l : List UInt8) : Nat := l.foldl hstep 2166136261
theorem hash_eq (l : List UInt8) : hash l = l.foldl hstep 2166136261 := rfl
theorem hstep_lt (h : Nat) (b : UInt8) : hstep h b < 4294967296 := Nat.mod_lt _ (by decide)
theorem fold_lt (l : List UInt8) (h : Nat) (hh : h < 4294967296) : l.foldl hstep h < 4294967296 := by
  induction l generalizing h with
  | nil => exact hh
  | cons b l ih => exact ih _ (hstep_lt h b)
theorem hash_lt (l : List UInt8) : hash l < 4294967296 := fold_lt l _ (by decide)
theorem fwrap_u32 (n : Nat) : fwrap .u32 (n : Int) = ((n % 4294967296 : Nat) : Int) := rfl
theorem xor_u32 (v b : Nat) (f1 : v < 4294967296) (f2 : b < 4294967296) : v % modulus .u32 ^^^ b % modulus .u32 = v ^^^ b := by
  simp only [modulus]
  rw [Nat.mod_eq_of_lt f1, Nat.mod_eq_of_lt f2]
theorem xor_lt32 (v b : Nat) (f1 : v < 4294967296) (f2 : b < 4294967296) : v ^^^ b < 4294967296 := Nat.xor_lt_two_pow (n := 32) f1 f2
theorem mul_cast (n : Nat) : (n : Int) * 16777619 = ((n * 16777619 : Nat) : Int) := by omega
theorem step_eq (v b : Nat) (f1 : v < 4294967296) (f2 : b < 4294967296) :
    fwrap .u32 (fwrap .u32 ((v % modulus .u32 ^^^ b % modulus .u32 : Nat) : Int) * 16777619) = (((v ^^^ b) * 16777619 % 4294967296 : Nat) : Int) := by
  rw [xor_u32 v b f1 f2, fwrap_u32, Nat.mod_eq_of_lt (xor_lt32 v b f1 f2), mul_cast, fwrap_u32]
theorem hstep_eq (v : Nat) (b : UInt8) (f1 : v < 4294967296) : fwrap .u32 (fwrap .u32 ((v % modulus .u32 ^^^ b.toNat % modulus .u32 : Nat) : Int) * 16777619) = ((hstep v b : Nat) : Int) :=
  step_eq v b.toNat f1 (by have := b.toNat_lt; omega)
theorem fold_take {α β : Type} (f : β → α → β) (l : List α) (z : β) (i : Nat) (b : α) (h : l[i]? = some b) : (l.take (i + 1)).foldl f z = f ((l.take i).foldl f z) b := by
  rw [List.take_add_one, h, List.foldl_append]
  rfl
theorem fwrap_byte (b : UInt8) : fwrap .u32 (b.toNat : Nat) = (b.toNat : Nat) := by
  have := b.toNat_lt
  simp [fwrap] <;> omega

theorem hash_ok (k : Nat) (s : ByteArray) (hs : s.size < k) (hm : s.size < 2 ^ 62) (h : Heap) : acall Try.prog (k + 1) 52 [.str s] h = some (.int .u32 (hash s.data.toList : Nat), h) := by
  rw [acall_text [] Try.func52 (by kernel_rfl)]
  refine afuncT_of rfl (by simp [Try.f52]) ?_
  simp [Try.f52]
  refine W_loop (fun j st => ∃ i, j = s.size - i ∧ i ≤ s.size ∧ st.h = h ∧ st.t.get 0 = some (.str s) ∧ st.t.get 6 = some (.int .i64 (s.size : Nat)) ∧ st.t.get 7 = some (.int .i64 (i : Nat)) ∧
    st.t.get 3 = some (.int .u32 ((s.data.toList.take i).foldl hstep 2166136261 : Nat))) s.size (by omega) ⟨0, by simp⟩ ?_
  rintro j ⟨t, h'⟩ ⟨i, rfl, hi, rfl, h0, h6, h7, h3⟩
  simp only at h0 h6 h7 h3
  by_cases hlt : i < s.size
  · have hb : s.data[i]? = some s.data[i] := by simp
    have hl : s.data.toList[i]? = some s.data[i] := by simp
    simp (disch := omega) [h0, h6, h7, h3, hlt, hb, fwrap_byte, i64w, Nat.not_le.2 hlt]
    refine ⟨s.size - (i + 1), by omega, i + 1, rfl, by omega, by simp, ?_⟩
    rw [fold_take _ _ _ _ _ hl]
    exact hstep_eq _ _ (fold_lt _ _ (by decide))
  · have : i = s.size := by omega
    subst this
    have : s.data.toList.take s.size = s.data.toList := List.take_of_length_le (by rw [Array.length_toList]; exact Nat.le_refl _)
    rw [this, ← hash_eq] at h3
    simp [h0, h6, h7, h3]

end Go.Proofs.Ytelnkdgpghndgaa
/- chain.Chain: what it is, in heap and in plain words; New, bucket, find, Shape, Len. The document's own has the same cells. -/
namespace Go.Proofs.Ytelnkdgpghndgaa
open Go Go.YtelnkdgpghndgaaAbs
set_option linter.unusedSimpArgs false
set_option linter.unusedVariables false
set_option maxRecDepth 4000

abbrev Ent := ByteArray × Int
def ec (e : Ent) : List AV := [.str e.1, .int .i64 e.2]
theorem ec_len (e : Ent) : (ec e).length = 2 := rfl
theorem ec_one (L : List Ent) : (cat ec L).all AV.one = true := by
  induction L with
  | nil => rfl
  | cons e L ih => rw [cat_cons, List.all_append, ih]; rfl
/-- Buckets, old buckets, how many of these were moved, how many keys there are. -/
structure Ch where
  now : List (List Ent)
  old : List (List Ent)
  moved : Nat
  len : Nat
def hsh (k : ByteArray) : Nat := hash k.data.toList
theorem hsh_lt (k : ByteArray) : hsh k < 4294967296 := hash_lt _
/-- Where in a bucket a key stands. -/
def findE (key : ByteArray) : List Ent → Option Nat
  | [] => none
  | e :: L => if e.1 = key then some 0 else (findE key L).map (· + 1)
theorem findE_skip (key : ByteArray) : ∀ (i : Nat) (L : List Ent), (∀ e, e ∈ L.take i → e.1 ≠ key) → findE key L = (findE key (L.drop i)).map (· + i)
  | 0, L, h => by simp
  | i + 1, [], h => by simp [findE]
  | i + 1, e :: L, h => by
    have h1 := h e (by simp)
    have ih := findE_skip key i L (fun x hx => h x (by simp [hx]))
    simp only [findE, if_neg h1, List.drop_succ_cons, ih, Option.map_map]
    congr 1
def findZ (key : ByteArray) (L : List Ent) : Int := match findE key L with
  | some i => (i : Nat)
  | none => -1
theorem findE_lt {key : ByteArray} : ∀ {L : List Ent} {i : Nat}, findE key L = some i → ∃ e, L[i]? = some e ∧ e.1 = key
  | [], i, h => by simp [findE] at h
  | e :: L, i, h => by
    simp only [findE] at h
    split at h
    · rename_i he; cases h; exact ⟨e, rfl, he⟩
    · rw [Option.map_eq_some_iff] at h
      obtain ⟨j, h1, rfl⟩ := h
      obtain ⟨x, h2, h3⟩ := findE_lt h1
      exact ⟨x, by simpa using h2, h3⟩
/-- In which row a key's bucket stands: of the old ones? which? -/
def Ch.sel (c : Ch) (key : ByteArray) : Bool × Nat :=
  if 0 < c.old.length ∧ c.moved ≤ hsh key % c.old.length then (true, hsh key % c.old.length) else (false, hsh key % c.now.length)
def Ch.rows (c : Ch) (s : Bool) : List (List Ent) := if s then c.old else c.now
def Ch.row (c : Ch) (s : Bool × Nat) : List Ent := ((c.rows s.1)[s.2]?).getD []
def Ch.setRow (c : Ch) (s : Bool × Nat) (L : List Ent) : Ch := if s.1 then { c with old := c.old.set s.2 L } else { c with now := c.now.set s.2 L }
theorem sel_lt {c : Ch} (h : 0 < c.now.length) (key : ByteArray) : (c.sel key).2 < (c.rows (c.sel key).1).length := by
  unfold Ch.sel
  split
  · rename_i q
    exact Nat.mod_lt _ q.1
  · exact Nat.mod_lt _ h
theorem sel_row {c : Ch} (h : 0 < c.now.length) (key : ByteArray) : (c.rows (c.sel key).1)[(c.sel key).2]? = some (c.row (c.sel key)) := by
  have := sel_lt h key
  unfold Ch.row
  rw [List.getElem?_eq_getElem this]
  rfl

/-- A table in the heap: its block, the two slices of buckets, the buckets. -/
structure ChO (h : Heap) (b : Nat) (c : Ch) (vn vo : AV) (rn ro : List AV) : Prop where
  str : h.get b = some (.cells [vn, vo, .int .i64 (c.moved : Nat), .int .i64 (c.len : Nat)] false)
  lt : b < h.next
  now : RowsO ec 2 h vn rn c.now
  old : RowsO ec 2 h vo ro c.old
  apart : Apart (.ptr b 0 :: vn :: vo :: (rn ++ ro))
def fpC (b : Nat) (vn vo : AV) (rn ro : List AV) : List Nat := blks (.ptr b 0 :: vn :: vo :: (rn ++ ro))
/-- .. and the blocks where it stands. -/
def ChRep (h : Heap) (b : Nat) (c : Ch) (fp : List Nat) : Prop := ∃ vn vo rn ro, ChO h b c vn vo rn ro ∧ fp = fpC b vn vo rn ro
section
variable {h h' : Heap} {b : Nat} {c : Ch} {vn vo : AV} {rn ro : List AV}
theorem ChO.keep {F : Nat → Prop} (O : ChO h b c vn vo rn ro) (K : Keep h.next F h h') (hF : ∀ d, d ∈ fpC b vn vo rn ro → ¬ F d) : ChO h' b c vn vo rn ro := by
  have m1 : ∀ d, d ∈ blks (vn :: rn) → d ∈ fpC b vn vo rn ro := fun d hd => by
    obtain ⟨u, hu, hu'⟩ := mem_blks.1 hd
    exact mem_blks.2 ⟨u, by rcases List.mem_cons.1 hu with rfl | hu <;> simp [*], hu'⟩
  have m2 : ∀ d, d ∈ blks (vo :: ro) → d ∈ fpC b vn vo rn ro := fun d hd => by
    obtain ⟨u, hu, hu'⟩ := mem_blks.1 hd
    exact mem_blks.2 ⟨u, by rcases List.mem_cons.1 hu with rfl | hu <;> simp [*], hu'⟩
  have mb : b ∈ fpC b vn vo rn ro := mem_blks.2 ⟨.ptr b 0, by simp, rfl⟩
  exact ⟨by rw [K.2 b O.lt (hF b mb)]; exact O.str, Nat.lt_of_lt_of_le O.lt K.1, O.now.keep K fun d hd => hF d (m1 d hd), O.old.keep K fun d hd => hF d (m2 d hd), O.apart⟩
theorem ChO.ext (O : ChO h b c vn vo rn ro) (K : Keep h.next nob h h') : ChO h' b c vn vo rn ro := O.keep K fun _ _ q => q
theorem ChO.fp_lt (O : ChO h b c vn vo rn ro) {d : Nat} (hd : d ∈ fpC b vn vo rn ro) : d < h.next := by
  obtain ⟨u, hu, hu'⟩ := mem_blks.1 hd
  simp only [List.mem_cons, List.mem_append] at hu
  rcases hu with rfl | rfl | rfl | hu | hu
  · cases hu'; exact O.lt
  · exact O.now.own.lt hu'
  · exact O.old.own.lt hu'
  · exact O.now.lt (mem_blks.2 ⟨u, by simp [hu], hu'⟩)
  · exact O.old.lt (mem_blks.2 ⟨u, by simp [hu], hu'⟩)
theorem ChO.ld0 (O : ChO h b c vn vo rn ro) {ty : TypeId} (ht : tagg Try.prog ty = some false) : aload Try.prog h ty b 0 = some vn := ldc O.str ht rfl
theorem ChO.ld1 (O : ChO h b c vn vo rn ro) {ty : TypeId} (ht : tagg Try.prog ty = some false) : aload Try.prog h ty b 1 = some vo := ldc O.str ht rfl
theorem ChO.ld2 (O : ChO h b c vn vo rn ro) {ty : TypeId} (ht : tagg Try.prog ty = some false) : aload Try.prog h ty b 2 = some (.int .i64 (c.moved : Nat)) := ldc O.str ht rfl
theorem ChO.ld3 (O : ChO h b c vn vo rn ro) {ty : TypeId} (ht : tagg Try.prog ty = some false) : aload Try.prog h ty b 3 = some (.int .i64 (c.len : Nat)) := ldc O.str ht rfl
theorem ChO.lenN (O : ChO h b c vn vo rn ro) (k : Heap) (e : TypeId) : vlen' k vn (some (.slice e)) = some (.int .i64 (c.now.length : Nat)) := by rw [O.now.own.sl.len', O.now.len]
theorem ChO.lenO (O : ChO h b c vn vo rn ro) (k : Heap) (e : TypeId) : vlen' k vo (some (.slice e)) = some (.int .i64 (c.old.length : Nat)) := by rw [O.old.own.sl.len', O.old.len]
theorem ChO.idxN (O : ChO h b c vn vo rn ro) {P : Program} {ty e : TypeId} (hu : P.underlying ty = some (.slice e)) (hs : tsize P e = some 1) {j : Nat} (hj : j < c.now.length) (k : IntKind) : aindex P ty vn (.int k (j : Nat)) = some (.ptr vn.blk (vn.off + j)) :=
  O.now.own.sl.idx1 hu hs (by rw [O.now.len]; exact hj) k
theorem ChO.idxO (O : ChO h b c vn vo rn ro) {P : Program} {ty e : TypeId} (hu : P.underlying ty = some (.slice e)) (hs : tsize P e = some 1) {j : Nat} (hj : j < c.old.length) (k : IntKind) : aindex P ty vo (.int k (j : Nat)) = some (.ptr vo.blk (vo.off + j)) :=
  O.old.own.sl.idx1 hu hs (by rw [O.old.len]; exact hj) k
/-- The slice of buckets, and the buckets, of now or of old. -/
def pick2 {α : Type} (s : Bool) (o n : α) : α := if s then o else n
theorem ChO.sub (O : ChO h b c vn vo rn ro) (s : Bool) : RowsO ec 2 h (pick2 s vo vn) (pick2 s ro rn) (c.rows s) ∧ Apart (pick2 s vo vn :: pick2 s ro rn) := by
  cases s with
  | true => exact ⟨O.old, O.apart.sub (by simp only [pick2, if_true]; exact .cons _ (.cons _ (.cons_cons _ (List.sublist_append_right _ _))))⟩
  | false => exact ⟨O.now, O.apart.sub (by simp only [pick2, if_false, Bool.false_eq_true]; exact .cons _ (.cons_cons _ (.cons _ (List.sublist_append_left _ _))))⟩
end
theorem tmodN (a n : Nat) : ((a : Int)).tmod (n : Int) = ((a % n : Nat) : Int) := rfl

theorem find_ok (k : Nat) (h : Heap) (r : AV) (key : ByteArray) (L : List Ent) (R : Sl 2 L.length h r (cat ec L)) (hk : L.length + 5 < k) (hl : L.length < 1000000000) :
    ∃ v' h', acall Try.prog (k + 1) 50 [r, .str key] h = some (v', h') ∧ v' = .int .i64 (findZ key L) ∧ Keep h.next nob h h' := by
  rw [acall_text [] Try.func50 (by kernel_rfl)]
  refine afuncT_ex rfl (by simp [Try.f50]) ?_
  simp [Try.f50, R.len']
  refine W_cutLoop 0 (fun st => st.t.get 5 = some (.int .i64 (findZ key L)) ∧ Keep h.next nob h st.h) ?_ ?_
  · refine W_loop (fun m st => ∃ i, m = L.length - i ∧ i ≤ L.length ∧ (∀ e, e ∈ L.take i → e.1 ≠ key) ∧ st.t.get 1 = some (.str key) ∧ st.t.get 5 = some (.int .i64 (-1)) ∧ st.t.get 8 = some r ∧ st.t.get 9 = some (.int .i64 (L.length : Nat)) ∧ st.t.get 10 = some (.int .i64 (i : Nat)) ∧ Keep h.next nob h st.h) L.length (by omega)
      ⟨0, by simp [Keep.refl]⟩ ?_
    rintro m ⟨t, h1⟩ ⟨i, rfl, hi, hno, q1, q5, q8, q9, q10, hK⟩
    simp only at q1 q5 q8 q9 q10 hK
    have R1 := R.ext hK
    have hf := findE_skip key i L hno
    by_cases hlt : i < L.length
    · obtain ⟨e, he⟩ : ∃ e, L[i]? = some e := ⟨L[i], by simp [hlt]⟩
      have ix := R1.idx (P := Try.prog) Try.underlying105 ts107 (j := i) hlt .i64
      have ld := R1.lds (P := Try.prog) ta107 ts107 (j := i * 2) (by rw [cat_len ec_len]; omega) (by omega)
      rw [cat_at ec_len he] at ld
      have hd : L.drop i = e :: L.drop (i + 1) := by
        obtain ⟨z1, z2⟩ := List.getElem?_eq_some_iff.1 he
        rw [List.drop_eq_getElem_cons z1, z2]
      rw [hd] at hf
      simp only [findE] at hf
      have al : alay (h1.new (.cells [.str .empty, .int .i64 0] false)) h1.next 0 (ec e) = some (h1.new (.cells (ec e) false)) := alay_new rfl
      have g : (h1.new (.cells (ec e) false)).get h1.next = some (.cells (ec e) false) := get_new_self _ _
      have hK2 : Keep h.next nob h (h1.new (.cells (ec e) false)) := hK.trans (Keep.new hK.1 _)
      have l0 := ldc (P := Try.prog) (ty := 9) g ta9 (i := 0) (x := .str e.1) rfl
      have rw1 : (AV.agg (ec e)).row1 = some (ec e) := rfl
      have le1 : (ec e).length = 2 := rfl
      generalize h1.new (.cells (ec e) false) = h2 at al hK2 l0
      by_cases hek : e.1 = key
      · rw [if_pos hek] at hf
        have hz : findZ key L = (i : Nat) := by unfold findZ; rw [hf]; simp
        simp [q1, q5, q8, q9, q10, isLt (show (i : Int) < (L.length : Int) by omega), ix, ld, rw1, le1, al, l0, hek, hz]
        exact hK2
      · rw [if_neg hek] at hf
        simp [q1, q5, q8, q9, q10, isLt (show (i : Int) < (L.length : Int) by omega), ix, ld, rw1, le1, al, l0, hek, i64s (n := (i : Int) + 1) (by omega) (by omega)]
        refine ⟨L.length - (i + 1), by omega, i + 1, rfl, by omega, fun x y hx => ?_, by simp, hK2⟩
        rw [List.take_add_one, he] at hx
        simp only [Option.toList, List.mem_append, List.mem_singleton] at hx
        rcases hx with hx | hx
        · exact hno _ hx
        · have : x = e.1 := by rw [← hx]
          rw [this]; exact hek
    · obtain rfl : i = L.length := by omega
      rw [List.drop_length] at hf
      have hz : findZ key L = -1 := by unfold findZ; rw [hf]; rfl
      simp [q1, q5, q8, q9, q10, hz]
      exact hK
  · rintro ⟨t, h1⟩ ⟨q5, hK⟩
    simp only at q5 hK
    simp [q5]
    exact hK
theorem hash_cv (key : ByteArray) : fwrap .i64 ((hash key.data.toList : Nat) : Int) = (hsh key : Nat) := by
  have := hsh_lt key
  show fwrap .i64 ((hsh key : Nat) : Int) = _
  exact i64w _ (by omega) (by omega)
/-- The bucket of a key. -/
theorem bucket_ok (k : Nat) (h : Heap) (b : Nat) (c : Ch) (vn vo : AV) (rn ro : List AV) (O : ChO h b c vn vo rn ro) (key : ByteArray) (hk : key.size + 5 < k) (hm : key.size < 1000000000) (h0 : 0 < c.now.length) (h1 : c.now.length < 100000) (h2 : c.old.length < 100000) (h3 : c.moved < 100000) :
    acall Try.prog (k + 2) 49 [.ptr b 0, .str key] h = some (.ptr (pick2 (c.sel key).1 vo vn).blk ((pick2 (c.sel key).1 vo vn).off + (c.sel key).2), h) := by
  rw [acall_text [] Try.func49 (by kernel_rfl)]
  refine afuncT_of rfl (by simp [Try.f49]) ?_
  have hh := hash_ok k key (by omega) (by omega) h
  have cv := hash_cv key
  have hl := hsh_lt key
  unfold Ch.sel
  generalize hsh key = H at *
  by_cases c1 : 0 < c.old.length
  · by_cases c2 : c.moved ≤ H % c.old.length
    · have hj := Nat.mod_lt H c1
      have ix := O.idxO (P := Try.prog) Try.underlying98 ts105 hj .i64
      rw [if_pos ⟨c1, c2⟩]
      have tm := tmodN H c.old.length
      have ne : ¬ c.old.length = 0 := by omega
      generalize H % c.old.length = j at *
      have wj := i64s (n := (j : Int)) (by omega) (by omega)
      have wl := i64s (n := ((c.old.length : Nat) : Int)) (by omega) (by omega)
      simp [Try.f49, hh, cv, O.ld0, O.ld1, O.ld2, O.lenO, O.lenN, isLt (show (0 : Int) < (c.old.length : Int) by omega), tm, ne, isLe (show (c.moved : Int) ≤ (j : Int) by omega), ix, pick2, wj]
    · have hj := Nat.mod_lt H h0
      have hj' := Nat.mod_lt H c1
      have ix := O.idxN (P := Try.prog) Try.underlying98 ts105 hj .i64
      rw [if_neg (fun q => c2 q.2)]
      have tm := tmodN H c.old.length
      have tm2 := tmodN H c.now.length
      have ne : ¬ c.old.length = 0 := by omega
      have ne2 : ¬ c.now.length = 0 := by omega
      generalize H % c.old.length = j at *
      generalize H % c.now.length = j2 at *
      have wj := i64s (n := (j : Int)) (by omega) (by omega)
      have wj2 := i64s (n := (j2 : Int)) (by omega) (by omega)
      simp [Try.f49, hh, cv, O.ld0, O.ld1, O.ld2, O.lenO, O.lenN, isLt (show (0 : Int) < (c.old.length : Int) by omega), tm, tm2, ne, ne2, isLt (show (j : Int) < (c.moved : Int) by omega), ix, pick2, wj, wj2]
  · have hj := Nat.mod_lt H h0
    have ix := O.idxN (P := Try.prog) Try.underlying98 ts105 hj .i64
    rw [if_neg (fun q => c1 q.1)]
    have tm2 := tmodN H c.now.length
    have ne2 : ¬ c.now.length = 0 := by omega
    have e0 : c.old.length = 0 := by omega
    generalize H % c.now.length = j2 at *
    have wj2 := i64s (n := (j2 : Int)) (by omega) (by omega)
    simp [Try.f49, hh, cv, O.ld0, O.ld1, O.ld2, O.lenO, O.lenN, e0, tm2, ne2, ix, pick2, wj2]
end Go.Proofs.Ytelnkdgpghndgaa
/- chain.Chain: a row is written anew; step. -/
namespace Go.Proofs.Ytelnkdgpghndgaa
open Go Go.YtelnkdgpghndgaaAbs
set_option linter.unusedSimpArgs false
set_option linter.unusedVariables false
set_option maxRecDepth 4000

section
variable {h h1 : Heap} {b : Nat} {c : Ch} {vn vo : AV} {rn ro : List AV}
theorem ChO.inFp (s : Bool) {j : Nat} {r : AV} (hr : (pick2 s ro rn)[j]? = some r) {d : Nat} (hd : Has r d) : d ∈ fpC b vn vo rn ro := by
  refine mem_blks.2 ⟨r, ?_, hd⟩
  have := List.mem_of_getElem? hr
  cases s <;> simp only [pick2, if_true, if_false, Bool.false_eq_true] at this <;> simp [this]
theorem ChO.inFpV (s : Bool) {d : Nat} (hd : Has (pick2 s vo vn) d) : d ∈ fpC b vn vo rn ro := by
  refine mem_blks.2 ⟨pick2 s vo vn, ?_, hd⟩
  cases s <;> simp [pick2]
theorem ChO.atB (rn ro : List AV) (vn vo : AV) : b ∈ fpC b vn vo rn ro := mem_blks.2 ⟨.ptr b 0, by simp, rfl⟩
/-- What else stands: apart from the row and from the slice of rows. -/
theorem ChO.rest (O : ChO h b c vn vo rn ro) (s : Bool) {j : Nat} {r : AV} (hr : (pick2 s ro rn)[j]? = some r) :
    (∀ d, Has r d → d ≠ b ∧ d ∉ blks (pick2 (!s) vo vn :: pick2 (!s) ro rn)) ∧ (∀ d, Has (pick2 s vo vn) d → d ≠ b ∧ d ∉ blks (pick2 (!s) vo vn :: pick2 (!s) ro rn)) := by
  have A := O.apart
  have hb : (AV.ptr b 0 :: vn :: vo :: (rn ++ ro))[0]? = some (.ptr b 0) := rfl
  have key : ∀ {k : Nat} {u : AV} {d : Nat}, (AV.ptr b 0 :: vn :: vo :: (rn ++ ro))[k]? = some u → Has u d → ∀ {k' : Nat} {u' : AV}, (AV.ptr b 0 :: vn :: vo :: (rn ++ ro))[k']? = some u' → Has u' d → k = k' := fun h1 h2 _ _ h3 h4 => A.get h1 h3 h2 h4
  cases s with
  | false =>
    simp only [pick2, Bool.not_false, if_true, if_false, Bool.false_eq_true] at hr ⊢
    have hjl := (List.getElem?_eq_some_iff.1 hr).1
    have ir : (AV.ptr b 0 :: vn :: vo :: (rn ++ ro))[j + 3]? = some r := by
      simp only [List.getElem?_cons_succ]; rw [List.getElem?_append_left hjl]; exact hr
    have io : ∀ u, u ∈ vo :: ro → ∃ k, (AV.ptr b 0 :: vn :: vo :: (rn ++ ro))[k]? = some u ∧ (k = 2 ∨ rn.length + 3 ≤ k) := fun u hu => by
      rcases List.mem_cons.1 hu with rfl | hu
      · exact ⟨2, rfl, .inl rfl⟩
      · obtain ⟨i, hi⟩ := List.getElem?_of_mem hu
        exact ⟨rn.length + i + 3, by simp only [List.getElem?_cons_succ]; rw [List.getElem?_append_right (by omega), Nat.add_sub_cancel_left]; exact hi, .inr (by omega)⟩
    refine ⟨fun d hd => ⟨fun q => ?_, fun q => ?_⟩, fun d hd => ⟨fun q => ?_, fun q => ?_⟩⟩
    · have := key ir hd hb (by rw [q]; rfl); omega
    · obtain ⟨u, hu, hu'⟩ := mem_blks.1 q
      obtain ⟨k, k1, k2⟩ := io u hu
      have := key ir hd k1 hu'; omega
    · have := key (k := 1) rfl hd hb (by rw [q]; rfl); omega
    · obtain ⟨u, hu, hu'⟩ := mem_blks.1 q
      obtain ⟨k, k1, k2⟩ := io u hu
      have := key (k := 1) rfl hd k1 hu'; omega
  | true =>
    simp only [pick2, Bool.not_true, if_true, if_false, Bool.false_eq_true] at hr ⊢
    have hjl := (List.getElem?_eq_some_iff.1 hr).1
    have ir : (AV.ptr b 0 :: vn :: vo :: (rn ++ ro))[rn.length + j + 3]? = some r := by
      simp only [List.getElem?_cons_succ]; rw [List.getElem?_append_right (by omega), Nat.add_sub_cancel_left]; exact hr
    have io : ∀ u, u ∈ vn :: rn → ∃ k, (AV.ptr b 0 :: vn :: vo :: (rn ++ ro))[k]? = some u ∧ (k = 1 ∨ (3 ≤ k ∧ k < rn.length + 3)) := fun u hu => by
      rcases List.mem_cons.1 hu with rfl | hu
      · exact ⟨1, rfl, .inl rfl⟩
      · obtain ⟨i, hi⟩ := List.getElem?_of_mem hu
        have := (List.getElem?_eq_some_iff.1 hi).1
        exact ⟨i + 3, by simp only [List.getElem?_cons_succ]; rw [List.getElem?_append_left (by omega)]; exact hi, .inr (by omega)⟩
    refine ⟨fun d hd => ⟨fun q => ?_, fun q => ?_⟩, fun d hd => ⟨fun q => ?_, fun q => ?_⟩⟩
    · have := key ir hd hb (by rw [q]; rfl); omega
    · obtain ⟨u, hu, hu'⟩ := mem_blks.1 q
      obtain ⟨k, k1, k2⟩ := io u hu
      have := key ir hd k1 hu'; omega
    · have := key (k := 2) rfl hd hb (by rw [q]; rfl); omega
    · obtain ⟨u, hu, hu'⟩ := mem_blks.1 q
      obtain ⟨k, k1, k2⟩ := io u hu
      have := key (k := 2) rfl hd k1 hu'; omega
/-- A row is written anew and put into its place. -/
theorem ChO.upd (O : ChO h b c vn vo rn ro) (s : Bool) {j : Nat} {r r' : AV} {L' : List Ent} (hr : (pick2 s ro rn)[j]? = some r) (K1 : Keep h.next (Has r) h h1) (M : Mine 2 L'.length h1 r' (cat ec L')) (Fr : From h r r') :
    ∃ h2 rn' ro', alay h1 (pick2 s vo vn).blk ((pick2 s vo vn).off + j) [r'] = some h2 ∧ ChO h2 b (c.setRow (s, j) L') vn vo rn' ro' ∧ (∀ d, d ∈ fpC b vn vo rn' ro' → (d ∈ fpC b vn vo rn ro ∧ (Has r d → Has r' d)) ∨ h.next ≤ d) ∧ Keep h.next (fun d => d ∈ fpC b vn vo rn ro) h h2 ∧ Keep h1.next (Has (pick2 s vo vn)) h1 h2 := by
  obtain ⟨R, A⟩ := O.sub s
  obtain ⟨h2, a1, a2, a3, a4, a5⟩ := R.set A hr K1 M Fr
  obtain ⟨x1, x2⟩ := O.rest s hr
  have K2 : Keep h.next (fun d => d ∈ fpC b vn vo rn ro) h h2 := a3.weak (Nat.le_refl _) fun d _ hd => hd.elim (fun q => ChO.inFp s hr q) (fun q => ChO.inFpV s q)
  have str : h2.get b = some (.cells [vn, vo, .int .i64 (c.moved : Nat), .int .i64 (c.len : Nat)] false) := by
    rw [a3.2 b O.lt (fun q => q.elim (fun q => (x1 b q).1 rfl) (fun q => (x2 b q).1 rfl))]
    exact O.str
  have other : RowsO ec 2 h2 (pick2 (!s) vo vn) (pick2 (!s) ro rn) (c.rows (!s)) := (O.sub (!s)).1.keep a3 fun d hd q => q.elim (fun q => (x1 d q).2 hd) (fun q => (x2 d q).2 hd)
  have fresh : ∀ d, Has r' d → Has r d ∨ d ∉ fpC b vn vo rn ro := fun d hd => (Fr d hd).elim .inl fun q => .inr fun z => by have := O.fp_lt z; omega
  cases s with
  | false =>
    simp only [pick2, if_false, Bool.false_eq_true, Bool.not_false, if_true, Ch.rows] at *
    have hjl := (List.getElem?_eq_some_iff.1 hr).1
    have e : (AV.ptr b 0 :: vn :: vo :: (rn ++ ro)).set (j + 3) r' = .ptr b 0 :: vn :: vo :: (rn.set j r' ++ ro) := by
      simp only [List.set_cons_succ]
      rw [List.set_append_left _ _ hjl]
    have ir : (AV.ptr b 0 :: vn :: vo :: (rn ++ ro))[j + 3]? = some r := by
      simp only [List.getElem?_cons_succ]; rw [List.getElem?_append_left hjl]; exact hr
    refine ⟨h2, rn.set j r', ro, a1, ⟨str, Nat.lt_of_lt_of_le O.lt a3.1, a2, other, ?_⟩, fun d hd => ?_, K2, a5⟩
    · rw [← e]
      exact O.apart.set ir fresh
    · unfold fpC at hd
      rw [← e] at hd
      rcases blks_set' hd with q | ⟨k, u, q1, q2, q3⟩
      · rcases Fr d q with q' | q'
        · exact .inl ⟨ChO.inFp false hr q', fun _ => q⟩
        · exact .inr q'
      · exact .inl ⟨mem_blks.2 ⟨u, List.mem_of_getElem? q2, q3⟩, fun z => absurd (O.apart.get q2 ir q3 z) q1⟩
  | true =>
    simp only [pick2, if_false, Bool.false_eq_true, Bool.not_true, if_true, Ch.rows] at *
    have e : (AV.ptr b 0 :: vn :: vo :: (rn ++ ro)).set (rn.length + j + 3) r' = .ptr b 0 :: vn :: vo :: (rn ++ ro.set j r') := by
      simp only [List.set_cons_succ]
      rw [List.set_append_right _ _ (by omega), Nat.add_sub_cancel_left]
    have ir : (AV.ptr b 0 :: vn :: vo :: (rn ++ ro))[rn.length + j + 3]? = some r := by
      simp only [List.getElem?_cons_succ]; rw [List.getElem?_append_right (by omega), Nat.add_sub_cancel_left]; exact hr
    refine ⟨h2, rn, ro.set j r', a1, ⟨str, Nat.lt_of_lt_of_le O.lt a3.1, other, a2, ?_⟩, fun d hd => ?_, K2, a5⟩
    · rw [← e]
      exact O.apart.set ir fresh
    · unfold fpC at hd
      rw [← e] at hd
      rcases blks_set' hd with q | ⟨k, u, q1, q2, q3⟩
      · rcases Fr d q with q' | q'
        · exact .inl ⟨ChO.inFp true hr q', fun _ => q⟩
        · exact .inr q'
      · exact .inl ⟨mem_blks.2 ⟨u, List.mem_of_getElem? q2, q3⟩, fun z => absurd (O.apart.get q2 ir q3 z) q1⟩
theorem cset_same {α : Type} {l : List α} {j : Nat} {x : α} (h : l[j]? = some x) : l.set j x = l := by
  refine List.ext_getElem? fun i => ?_
  have hj := (List.getElem?_eq_some_iff.1 h).1
  by_cases hij : j = i
  · subst hij; rw [List.getElem?_set_self hj, h]
  · rw [List.getElem?_set_ne hij]
/-- A row is written where it stands. -/
theorem ChO.upd0 (O : ChO h b c vn vo rn ro) (s : Bool) {j : Nat} {r : AV} {L' : List Ent} (hr : (pick2 s ro rn)[j]? = some r) (K1 : Keep h.next (Has r) h h1) (M : Mine 2 L'.length h1 r (cat ec L')) :
    ChO h1 b (c.setRow (s, j) L') vn vo rn ro ∧ Keep h.next (fun d => d ∈ fpC b vn vo rn ro) h h1 := by
  obtain ⟨R, A⟩ := O.sub s
  obtain ⟨x1, x2⟩ := O.rest s hr
  have hjl := (List.getElem?_eq_some_iff.1 hr).1
  have K2 : Keep h.next (fun d => d ∈ fpC b vn vo rn ro) h h1 := K1.weak (Nat.le_refl _) fun d _ hd => ChO.inFp s hr hd
  have str : h1.get b = some (.cells [vn, vo, .int .i64 (c.moved : Nat), .int .i64 (c.len : Nat)] false) := by
    rw [K1.2 b O.lt (fun q => (x1 b q).1 rfl)]
    exact O.str
  have other : RowsO ec 2 h1 (pick2 (!s) vo vn) (pick2 (!s) ro rn) (c.rows (!s)) := (O.sub (!s)).1.keep K1 fun d hd q => (x1 d q).2 hd
  have nvr : ∀ {k : Nat} {u : AV} {d : Nat}, (pick2 s vo vn :: pick2 s ro rn)[k]? = some u → k ≠ j + 1 → Has u d → ¬ Has r d := fun {k u d} hk hkj hu hv => by
    have := A.get (i := k) (j := j + 1) (v := u) (w := r) hk (by simpa using hr) hu hv
    exact hkj this
  have this_ : RowsO ec 2 h1 (pick2 s vo vn) (pick2 s ro rn) ((c.rows s).set j L') := by
    refine ⟨R.own.keep K1 fun d hd q => nvr (k := 0) rfl (by omega) hd q, by rw [List.length_set]; exact R.len, fun i u L hu hL => ?_⟩
    by_cases hij : i = j
    · subst hij
      rw [hr] at hu
      cases hu
      rw [List.getElem?_set_self (by rw [← R.len]; exact hjl)] at hL
      cases hL
      exact M
    · rw [List.getElem?_set_ne (Ne.symm hij)] at hL
      exact (R.each i u L hu hL).keep K1 fun d hd q => nvr (k := i + 1) (by simpa using hu) (by omega) hd q
  cases s with
  | false => exact ⟨⟨str, Nat.lt_of_lt_of_le O.lt K1.1, this_, other, O.apart⟩, K2⟩
  | true => exact ⟨⟨str, Nat.lt_of_lt_of_le O.lt K1.1, other, this_, O.apart⟩, K2⟩
/-- Its own block is written: the rows stay. -/
theorem ChO.setStr (O : ChO h b c vn vo rn ro) (o : AO) : RowsO ec 2 (h.set b o) vn rn c.now ∧ RowsO ec 2 (h.set b o) vo ro c.old := by
  have A := O.apart
  have nb : ∀ {d : Nat}, d ∈ blks (vn :: vo :: (rn ++ ro)) → d ≠ b := fun {d} hd q => by
    unfold Apart at A
    rw [blks_cons, List.nodup_append] at A
    exact A.2.2 b (by simp) d hd q.symm
  have K : Keep h.next (fun d => d = b) h (h.set b o) := Keep.set (F := fun d => d = b) (.inl rfl) _
  refine ⟨O.now.keep K fun d hd => nb ?_, O.old.keep K fun d hd => nb ?_⟩
  · obtain ⟨u, hu, hu'⟩ := mem_blks.1 hd
    exact mem_blks.2 ⟨u, by rcases List.mem_cons.1 hu with rfl | hu <;> simp [*], hu'⟩
  · obtain ⟨u, hu, hu'⟩ := mem_blks.1 hd
    exact mem_blks.2 ⟨u, by rcases List.mem_cons.1 hu with rfl | hu <;> simp [*], hu'⟩
theorem ChO.put2 (O : ChO h b c vn vo rn ro) (m : Nat) : ∃ h1, alay h b 2 [.int .i64 (m : Nat)] = some h1 ∧ ChO h1 b { c with moved := m } vn vo rn ro ∧ Keep h.next (fun d => d = b) h h1 ∧ h1.next = h.next := by
  obtain ⟨r1, r2⟩ := O.setStr (.cells [vn, vo, .int .i64 (m : Nat), .int .i64 (c.len : Nat)] false)
  exact ⟨_, by unfold alay; rw [O.str]; rfl, ⟨get_set_self _ _ _, O.lt, r1, r2, O.apart⟩, Keep.set (F := fun d => d = b) (.inl rfl) _, rfl⟩
theorem ChO.put3 (O : ChO h b c vn vo rn ro) (m : Nat) : ∃ h1, alay h b 3 [.int .i64 (m : Nat)] = some h1 ∧ ChO h1 b { c with len := m } vn vo rn ro ∧ Keep h.next (fun d => d = b) h h1 ∧ h1.next = h.next := by
  obtain ⟨r1, r2⟩ := O.setStr (.cells [vn, vo, .int .i64 (c.moved : Nat), .int .i64 (m : Nat)] false)
  exact ⟨_, by unfold alay; rw [O.str]; rfl, ⟨get_set_self _ _ _, O.lt, r1, r2, O.apart⟩, Keep.set (F := fun d => d = b) (.inl rfl) _, rfl⟩
/-- An entry is appended to a row. -/
theorem ChO.app (O : ChO h b c vn vo rn ro) (s : Bool) {j : Nat} {L : List Ent} (hL : (c.rows s)[j]? = some L) (hl : L.length < 1000000) (e : Ent) {st el : TypeId} {by_ : Nat} (E : Elem Try.prog st el 2 by_) :
    ∃ r r' h1 h2 rn' ro', (pick2 s ro rn)[j]? = some r ∧ Sl 2 L.length h r (cat ec L) ∧ aappend Try.prog (h.new (.cells (ec e) false)) st st r (.sl h.next 0 1 1 2 true) = some (r', h1) ∧ r'.one = true ∧ alay h1 (pick2 s vo vn).blk ((pick2 s vo vn).off + j) [r'] = some h2 ∧
      ChO h2 b (c.setRow (s, j) (L ++ [e])) vn vo rn' ro' ∧ (∀ d, d ∈ fpC b vn vo rn' ro' → d ∈ fpC b vn vo rn ro ∨ h.next ≤ d) ∧ Keep h.next (fun d => d ∈ fpC b vn vo rn ro) h h2 := by
  obtain ⟨R, A⟩ := O.sub s
  obtain ⟨r, hr, Mr⟩ := R.row hL
  obtain ⟨r', h1, a1, a2, a3, a4⟩ := Mr.push E (a := ec e) (ex := true) rfl rfl (by omega)
  rw [← cat_one (f := ec), ← cat_append] at a2
  have a2 : Mine 2 (L ++ [e]).length h1 r' (cat ec (L ++ [e])) := by rw [List.length_append]; exact a2
  obtain ⟨h2, rn', ro', b1, b2, b3, b4, b5⟩ := O.upd s hr a4 a2 a3
  exact ⟨r, r', h1, h2, rn', ro', hr, Mr.sl, a1, a2.oneV, b1, b2, fun d hd => (b3 d hd).imp (fun q => q.1) id, b4⟩
end
end Go.Proofs.Ytelnkdgpghndgaa
/- chain.Chain: step. -/
namespace Go.Proofs.Ytelnkdgpghndgaa
open Go Go.YtelnkdgpghndgaaAbs
set_option linter.unusedSimpArgs false
set_option linter.unusedVariables false
set_option maxRecDepth 4000

def move1 (now : List (List Ent)) (e : Ent) : List (List Ent) := now.set (hsh e.1 % now.length) ((now[hsh e.1 % now.length]?).getD [] ++ [e])
def Ch.step (c : Ch) : Ch := if c.old.length = 0 then c else
  if c.moved + 1 = c.old.length then ⟨((c.old[c.moved]?).getD []).foldl move1 c.now, [], 0, c.len⟩ else ⟨((c.old[c.moved]?).getD []).foldl move1 c.now, c.old.set c.moved [], c.moved + 1, c.len⟩
theorem move1_len (now : List (List Ent)) (e : Ent) : (move1 now e).length = now.length := by unfold move1; rw [List.length_set]
theorem moves_len : ∀ (l : List Ent) (now : List (List Ent)), (l.foldl move1 now).length = now.length
  | [], now => rfl
  | e :: l, now => by rw [List.foldl_cons, moves_len l, move1_len]
theorem move1_small {N : Nat} {now : List (List Ent)} (e : Ent) (h : ∀ L, L ∈ now → L.length ≤ N) : ∀ L, L ∈ move1 now e → L.length ≤ N + 1 := by
  intro L hL
  unfold move1 at hL
  rcases List.mem_or_eq_of_mem_set hL with q | rfl
  · have := h L q; omega
  · rw [List.length_append, List.length_singleton]
    cases hq : now[hsh e.1 % now.length]? with
    | none => simp
    | some M =>
      have := h M (List.mem_of_getElem? hq)
      simp
      omega
theorem moves_small : ∀ (l : List Ent) {N : Nat} {now : List (List Ent)}, (∀ L, L ∈ now → L.length ≤ N) → ∀ L, L ∈ l.foldl move1 now → L.length ≤ N + l.length
  | [], N, now, h, L, hL => h L hL
  | e :: l, N, now, h, L, hL => by
    have := moves_small l (move1_small e h) L hL
    rw [List.length_cons]
    omega
/-- What is asked of a table. -/
structure ChOk (c : Ch) : Prop where
  n0 : 0 < c.now.length
  n1 : c.now.length ≤ 10000
  o1 : c.old.length ≤ 10000
  mv : c.old.length ≠ 0 → c.moved < c.old.length
  m1 : c.moved ≤ 10000
  small : ∀ L, L ∈ c.now ++ c.old → L.length ≤ 100000
  keys : ∀ L, L ∈ c.now ++ c.old → ∀ e : Ent, e ∈ L → e.1.size ≤ 1000
  len : c.len ≤ 100000

theorem step_ok (k : Nat) (hk : 200000 < k) (h : Heap) (b : Nat) (c : Ch) (vn vo : AV) (rn ro : List AV) (O : ChO h b c vn vo rn ro) (C : ChOk c) :
    ∃ v' h', acall Try.prog (k + 2) 48 [.ptr b 0] h = some (v', h') ∧ (∃ vn' vo' rn' ro', ChO h' b c.step vn' vo' rn' ro' ∧ ∀ d, d ∈ fpC b vn' vo' rn' ro' → d ∈ fpC b vn vo rn ro ∨ h.next ≤ d) ∧ Keep h.next (fun d => d ∈ fpC b vn vo rn ro) h h' := by
  rw [acall_text [7, 8] Try.func48 (by kernel_rfl)]
  refine afuncT_ex rfl (by simp [Try.f48]) ?_
  unfold Ch.step
  by_cases c0 : c.old.length = 0
  · rw [if_pos c0]
    simp [Try.f48, O.ld1, O.lenO, c0]
    exact ⟨⟨vn, vo, rn, ro, O, fun d hd => .inl hd⟩, Keep.refl _ _ _⟩
  · rw [if_neg c0]
    have hm := C.mv c0
    have hm1 := C.m1
    obtain ⟨l, hl⟩ : ∃ l, c.old[c.moved]? = some l := ⟨c.old[c.moved], by simp [hm]⟩
    have hll : l.length ≤ 100000 := C.small l (List.mem_append.2 (.inr (List.mem_of_getElem? hl)))
    have hlk : ∀ e : Ent, e ∈ l → e.1.size ≤ 1000 := C.keys l (List.mem_append.2 (.inr (List.mem_of_getElem? hl)))
    rw [hl, Option.getD_some]
    obtain ⟨r, hr, Mr⟩ := O.old.row hl
    have hr' : (pick2 true ro rn)[c.moved]? = some r := hr
    have ix := O.idxO (P := Try.prog) Try.underlying98 ts105 hm .i64
    have ldr := O.old.own.sl.ld (P := Try.prog) ta105 hr
    have hrj : c.moved < ro.length := by rw [O.old.len]; exact hm
    -- the moved bucket goes
    obtain ⟨h2, rn2, ro2, a1, O2, f2, k2, k2'⟩ := O.upd true hr' (Keep.refl _ _ _) (Mine.nil 2 h) (r' := .nils) (L' := []) (fun c hc => by cases hc)
    have a1 : alay h vo.blk (vo.off + c.moved) [.nils] = some h2 := a1
    have O2 : ChO h2 b ⟨c.now, c.old.set c.moved [], c.moved, c.len⟩ vn vo rn2 ro2 := O2
    obtain ⟨h3, a3, O3, k3, n3⟩ := O2.put2 (c.moved + 1)
    have a3 : alay h2 b 2 [.int .i64 ((c.moved : Int) + 1)] = some h3 := a3
    have O3 : ChO h3 b ⟨c.now, c.old.set c.moved [], c.moved + 1, c.len⟩ vn vo rn2 ro2 := O3
    obtain ⟨x1, x2⟩ := O.rest true hr'
    -- its entries stay
    have rfp2 : ∀ d, Has r d → d ∉ fpC b vn vo rn2 ro2 := fun d hd q => by
      rcases f2 d q with z | z
      · have := z.2 hd; cases this
      · have := O.fp_lt (ChO.inFp true hr' hd); omega
    have fp2 : ∀ d, d ∈ fpC b vn vo rn2 ro2 → d ∈ fpC b vn vo rn ro ∨ h.next ≤ d := fun d hd => (f2 d hd).imp (fun q => q.1) id
    have k3' : Keep h.next (fun d => d ∈ fpC b vn vo rn ro) h h3 := k2.trans (k3.weak k2.1 fun d _ q => by
      have q : d = b := q
      rw [q]; exact ChO.atB rn ro vn vo)
    have M2 : Mine 2 l.length h2 r (cat ec l) := Mr.keep k2' fun d hd q => (O.rest true hr').2 d q |>.2 |> fun z => by
      have := O.apart.get (i := 2) (j := rn.length + c.moved + 3) (v := vo) (w := r) rfl (by simp only [List.getElem?_cons_succ]; rw [List.getElem?_append_right (by omega), Nat.add_sub_cancel_left]; exact hr) q hd
      omega
    have M3 : Mine 2 l.length h3 r (cat ec l) := M2.keep k3 fun d hd q => (x1 d hd).1 q
    have S3 := M3.sl
    have hpos3 : h.next ≤ h3.next := k3'.1
    -- the loop
    have mvd : ∀ i, (l.take (i + 1)).foldl move1 c.now = match l[i]? with | some e => move1 ((l.take i).foldl move1 c.now) e | none => (l.take i).foldl move1 c.now := fun i => by
      rw [List.take_add_one]
      cases l[i]? with
      | none => simp
      | some e => simp
    simp [Try.f48, O.ld1, O.lenO, c0, O.ld2, ix, ldr, a1, O2.ld2, i64s (n := (c.moved : Int) + 1) (by omega) (by omega), a3, Mr.sl.len']
    refine W_cutLoop 0 (fun st => st.t.get 0 = some (.ptr b 0) ∧ ∃ rn' ro', ChO st.h b ⟨l.foldl move1 c.now, c.old.set c.moved [], c.moved + 1, c.len⟩ vn vo rn' ro' ∧ (∀ d, d ∈ fpC b vn vo rn' ro' → d ∈ fpC b vn vo rn ro ∨ h.next ≤ d) ∧ Keep h.next (fun d => d ∈ fpC b vn vo rn ro) h st.h) ?_ ?_
    · refine W_loop (fun m st => ∃ (i : Nat) (rn' ro' : List AV), m = l.length - i ∧ i ≤ l.length ∧ st.t.get 0 = some (.ptr b 0) ∧ st.t.get 38 = some r ∧ st.t.get 39 = some (.int .i64 (l.length : Nat)) ∧ st.t.get 40 = some (.int .i64 (i : Nat)) ∧
        ChO st.h b ⟨(l.take i).foldl move1 c.now, c.old.set c.moved [], c.moved + 1, c.len⟩ vn vo rn' ro' ∧ (∀ d, d ∈ fpC b vn vo rn' ro' → d ∈ fpC b vn vo rn ro ∨ h.next ≤ d) ∧ Keep h.next (fun d => d ∈ fpC b vn vo rn ro) h st.h ∧ Mine 2 l.length st.h r (cat ec l) ∧ (∀ d, Has r d → d ∉ fpC b vn vo rn' ro')) l.length (by omega)
        ⟨0, rn2, ro2, by simp, by omega, rfl, rfl, rfl, rfl, O3, fp2, k3', M3, rfp2⟩ ?_
      rintro m ⟨t, h4⟩ ⟨i, rn4, ro4, rfl, hi, q0, q38, q39, q40, O4, f4, K4, M4, r4⟩
      simp only at q0 q38 q39 q40 O4 K4 M4
      have S4 := M4.sl
      by_cases hlt : i < l.length
      · obtain ⟨e, he⟩ : ∃ e, l[i]? = some e := ⟨l[i], by simp [hlt]⟩
        have hes := hlk e (List.mem_of_getElem? he)
        have mve := mvd i
        rw [he] at mve
        simp only at mve
        have hnl : ((l.take i).foldl move1 c.now).length = c.now.length := moves_len _ _
        have hsm := moves_small (l.take i) (N := 100000) (now := c.now) (fun L hL => C.small L (List.mem_append.2 (.inl hL)))
        have n0 := C.n0
        have n1 := C.n1
        generalize (l.take i).foldl move1 c.now = nw at *
        have ix := S4.idx (P := Try.prog) Try.underlying105 ts107 (j := i) hlt .i64
        have ld := S4.lds (P := Try.prog) ta107 ts107 (j := i * 2) (by rw [cat_len ec_len]; omega) (by omega)
        rw [cat_at ec_len he] at ld
        have al : alay (h4.new (.cells [.str .empty, .int .i64 0] false)) h4.next 0 (ec e) = some (h4.new (.cells (ec e) false)) := alay_new rfl
        have g : (h4.new (.cells (ec e) false)).get h4.next = some (.cells (ec e) false) := get_new_self _ _
        have k45 : Keep h4.next nob h4 (h4.new (.cells (ec e) false)) := Keep.new (Nat.le_refl _) _
        have n45 : h4.next < (h4.new (.cells (ec e) false)).next := Nat.lt_succ_self _
        have rw1 : (AV.agg (ec e)).row1 = some (ec e) := rfl
        have le1 : (ec e).length = 2 := rfl
        have ldS : aload Try.prog (h4.new (.cells (ec e) false)) 107 h4.next 0 = some (.agg (ec e)) := by simp [aload, Heap.row, g, ec]
        generalize h4.new (.cells (ec e) false) = h5 at al g k45 n45 ldS
        have O5 := O4.ext k45
        have l0 := ldc (P := Try.prog) (ty := 9) g ta9 (i := 0) (x := .str e.1) rfl
        obtain ⟨j, hj⟩ : ∃ j, j = hsh e.1 % nw.length := ⟨_, rfl⟩
        have hjn : j < nw.length := by rw [hj]; exact Nat.mod_lt _ (by omega)
        obtain ⟨L, hL⟩ : ∃ L, nw[j]? = some L := ⟨nw[j], by simp [hjn]⟩
        have hLl := hsm L (List.mem_of_getElem? hL)
        rw [List.length_take] at hLl
        obtain ⟨u, u', h6, h7, rn6, ro6, b1, b2, b3, b3', b4, b5, b6, b7⟩ := O5.app false hL (by omega) e el105
        simp [q0, q38, q39, q40, isLt (show (i : Int) < (l.length : Int) by omega), ix, ld, rw1, le1, al]
        have hh := hash_ok k e.1 (by omega) (by omega) h5
        have cv := hash_cv e.1
        have hlt32 := hsh_lt e.1
        have tm := tmodN (hsh e.1) nw.length
        rw [← hj] at tm
        have ne : ¬ nw.length = 0 := by omega
        have wj := i64s (n := (j : Int)) (by omega) (by omega)
        have ixN := O5.idxN (P := Try.prog) Try.underlying98 ts105 (j := j) hjn .i64
        have blt := O5.lt
        have smN := O5.now.own.sl.same
        have ag : Agree h5.next h5 h5 := fun _ _ => rfl
        refine W_drawn h5.next (by rfl) (by kernel_rfl) ?_
        simp [obl, mayEff, mayRead, sameAV, q0, q38, q39, q40, O5.ld0, O5.lenN, blt, smN, l0, n45, hh, ag, cv, tm, ne, wj, ixN, isMap]
        have b1 : rn4[j]? = some u := b1
        have b4 : alay h6 vn.blk (vn.off + j) [u'] = some h7 := b4
        have ldu := O5.now.own.sl.ld (P := Try.prog) ta105 b1
        have vlt := O5.now.own.sl.blk_lt (by have := O5.now.len; simp only at this; omega)
        have smu := b2.same
        have sme : sameAVs (ec e) (ec e) = true := by simp [sameAVs, sameAV, ec]
        have rwu := row1_one b3'
        have oneE : ∀ x : AV, x ∈ ec e → x.one = true := fun x hx => by
          simp only [ec, List.mem_cons, List.not_mem_nil, or_false] at hx
          rcases hx with rfl | rfl <;> rfl
        have ag2 : Agree h5.next h5 (h5.new (.cells (ec e) false)) := fun c hc => get_new_old hc
        refine W_split 6 h5.next (by rfl) (by kernel_rfl) (by rfl) ?_
        dsimp only [List.take, List.drop]
        simp [obl, mayEff, mayRead, sameAV, q0, q38, q39, q40, ldu, vlt, smu, ldS, n45, sme, aalloc, afill, rw1, le1, ag2, isMap]
        rw [if_pos oneE]
        simp [obl, mayEff, mayRead, ag2, b3, b4, rwu, q0, q38, q39, q40, i64s (n := (i : Int) + 1) (by omega) (by omega)]
        have nb := k45.1
        have n7 : h5.next ≤ h7.next := b7.1
        have cs : Ch.setRow ⟨nw, c.old.set c.moved [], c.moved + 1, c.len⟩ (false, j) (L ++ [e]) = ⟨(l.take (i + 1)).foldl move1 c.now, c.old.set c.moved [], c.moved + 1, c.len⟩ := by
          rw [mve]
          unfold move1
          rw [← hj, hL]
          rfl
        rw [cs] at b5
        refine ⟨l.length - (i + 1), by omega, i + 1, rfl, by omega, by omega, rn6, ro6, b5, fun d hd => ?_, ?_, ?_, fun d hd q => ?_⟩
        · rcases b6 d hd with z | z
          · exact f4 d z
          · have := K4.1; exact .inr (by omega)
        · refine K4.trans ⟨Nat.le_trans nb n7, fun d hd hn => ?_⟩
          have hd4 : d < h4.next := Nat.lt_of_lt_of_le hd K4.1
          rw [b7.2 d (by omega) (fun z => (f4 d z).elim hn (by omega)), k45.2 d hd4 id]
        · exact (M4.ext k45).keep b7 r4
        · rcases b6 d q with z | z
          · exact r4 d hd z
          · have := M4.lt hd; omega
      · obtain rfl : i = l.length := by omega
        rw [List.take_length] at O4
        simp [q0, q38, q39, q40]
        exact ⟨rn4, ro4, O4, f4, K4⟩
    · rintro ⟨t, h4⟩ ⟨q0, rn4, ro4, O4, f4, K4⟩
      simp only at q0 O4 K4
      have hol : (c.old.set c.moved []).length = c.old.length := by rw [List.length_set]
      have lO := O4.lenO
      simp only [hol] at lO
      have l2 := O4.ld2 (ty := 3) ta3
      simp only at l2
      by_cases hlast : c.moved + 1 = c.old.length
      · rw [if_pos hlast]
        have A' : Apart (.ptr b 0 :: vn :: .nils :: (rn4 ++ [])) := by
          have : Apart (.ptr b 0 :: vn :: rn4) := O4.apart.sub (.cons_cons _ (.cons_cons _ (.cons _ (List.sublist_append_left _ _))))
          unfold Apart at this ⊢
          have e : blks (.ptr b 0 :: vn :: .nils :: (rn4 ++ [])) = blks (.ptr b 0 :: vn :: rn4) := by
            rw [blks_cons, blks_cons, blks_cons, List.append_nil, blks_cons (.ptr b 0), blks_cons vn]
            rfl
          rw [e]
          exact this
        have aa : alay h4 b 1 [.nils] = some (h4.set b (.cells [vn, .nils, .int .i64 ((c.moved + 1 : Nat) : Int), .int .i64 (c.len : Nat)] false)) := by unfold alay; rw [O4.str]; rfl
        obtain ⟨w1, _⟩ := O4.setStr (.cells [vn, .nils, .int .i64 0, .int .i64 (c.len : Nat)] false)
        have bb : alay (h4.set b (.cells [vn, .nils, .int .i64 ((c.moved + 1 : Nat) : Int), .int .i64 (c.len : Nat)] false)) b 2 [.int .i64 0] = some (h4.set b (.cells [vn, .nils, .int .i64 0, .int .i64 (c.len : Nat)] false)) := by
          unfold alay; rw [get_set_self]; simp [layAt_cons, layAt_zero, layOver_cons, layOver_nil]
        have KK : Keep h4.next (fun d => d = b) h4 (h4.set b (.cells [vn, .nils, .int .i64 0, .int .i64 (c.len : Nat)] false)) := Keep.set (F := fun d => d = b) (.inl rfl) _
        have gg : (h4.set b (.cells [vn, .nils, .int .i64 0, .int .i64 (c.len : Nat)] false)).get b = some (.cells [vn, .nils, .int .i64 0, .int .i64 (c.len : Nat)] false) := get_set_self _ _ _
        have nn : b < (h4.set b (.cells [vn, .nils, .int .i64 0, .int .i64 (c.len : Nat)] false)).next := O4.lt
        generalize h4.set b (.cells [vn, .nils, .int .i64 ((c.moved + 1 : Nat) : Int), .int .i64 (c.len : Nat)] false) = h5 at aa bb
        generalize h4.set b (.cells [vn, .nils, .int .i64 0, .int .i64 (c.len : Nat)] false) = h6 at bb w1 KK gg nn
        have heq : ((c.moved : Int) + 1 = (c.old.length : Int)) := by omega
        simp [q0, l2, O4.ld1, lO, heq, aa, bb]
        refine ⟨⟨vn, .nils, rn4, [], ⟨gg, nn, w1, ⟨Mine.nil 1 h6, rfl, fun i r L hr _ => by simp at hr⟩, A'⟩, fun d hd => f4 d ?_⟩, K4.trans (KK.weak K4.1 fun d _ q => ?_)⟩
        · obtain ⟨u, hu, hu'⟩ := mem_blks.1 hd
          refine mem_blks.2 ⟨u, ?_, hu'⟩
          simp only [List.mem_cons, List.append_nil] at hu
          rcases hu with rfl | rfl | rfl | hu
          · simp
          · simp
          · cases hu'
          · simp [hu]
        · have q : d = b := q
          rw [q]
          exact ChO.atB rn ro vn vo
      · rw [if_neg hlast]
        have hne : ¬ ((c.moved : Int) + 1 = (c.old.length : Int)) := by omega
        simp [q0, l2, O4.ld1, lO, hne]
        exact ⟨⟨vn, vo, rn4, ro4, O4, f4⟩, K4⟩
end Go.Proofs.Ytelnkdgpghndgaa
/- chain.Chain: New, Get, Put, Drop, Len, Shape. -/
namespace Go.Proofs.Ytelnkdgpghndgaa
open Go Go.YtelnkdgpghndgaaAbs
set_option linter.unusedSimpArgs false
set_option linter.unusedVariables false
set_option maxRecDepth 4000

def Ch.new : Ch := ⟨[[], [], [], []], [], 0, 0⟩
def Ch.get (c : Ch) (key : ByteArray) : Option Int := (findE key (c.row (c.sel key))).bind fun i => ((c.row (c.sel key))[i]?).map (·.2)
def Ch.grow (c : Ch) : Ch := if c.old.length = 0 ∧ 2 * c.now.length < c.len ∧ c.now.length < 4096 then ⟨List.replicate (2 * c.now.length) [], c.now, c.moved, c.len⟩ else c
def Ch.add (c : Ch) (key : ByteArray) (n : Int) : Ch := { c.setRow (c.sel key) (c.row (c.sel key) ++ [(key, n)]) with len := c.len + 1 }
def Ch.put1 (c : Ch) (key : ByteArray) (n : Int) : Bool × Ch := match findE key (c.row (c.sel key)) with
  | some i => (false, c.setRow (c.sel key) ((c.row (c.sel key)).set i (key, n)))
  | none => (true, (c.add key n).grow)
def Ch.put (c : Ch) (key : ByteArray) (n : Int) : Bool × Ch := c.step.put1 key n
/-- The last one goes to the place of one that is dropped. -/
def swapOut (L : List Ent) (i : Nat) : List Ent := (L.set i ((L[L.length - 1]?).getD (.empty, 0))).take (L.length - 1)
def Ch.drop1 (c : Ch) (key : ByteArray) : Bool × Ch := match findE key (c.row (c.sel key)) with
  | some i => (true, { c.setRow (c.sel key) (swapOut (c.row (c.sel key)) i) with len := c.len - 1 })
  | none => (false, c)
def Ch.drop (c : Ch) (key : ByteArray) : Bool × Ch := c.step.drop1 key

theorem cnew_ok (k : Nat) (h : Heap) : ∃ v' h', acall Try.prog (k + 1) 28 [] h = some (v', h') ∧ ∃ (b : Nat) (vn vo : AV) (rn ro : List AV), v' = .ptr b 0 ∧ ChO h' b .new vn vo rn ro ∧ (∀ d, d ∈ fpC b vn vo rn ro → h.next ≤ d) ∧ Keep h.next nob h h' := by
  rw [acall_text [] Try.func28 (by kernel_rfl)]
  refine afuncT_ex rfl (by simp [Try.f28]) ?_
  simp [Try.f28, aalloc_makeC (P := Try.prog) el98 (z := [.nils]) az105 rfl rfl 4 4 (Nat.le_refl _) (by omega) (N := 4) (M := 4) rfl rfl, flat1, afill, row1_agg]
  have M : Mine 1 4 (h.new (.cells (List.replicate 4 AV.nils) false)) (.sl h.next 0 4 4 1 true) (List.replicate 4 AV.nils) := Mine.new (sz := 1) (n := 4) (m := 4) h (List.replicate 4 AV.nils) rfl (Nat.le_refl _) rfl true
  have M' := M.ext (Keep.new (Nat.le_refl _) (.cells [.sl h.next 0 4 4 1 true, .nils, .int .i64 0, .int .i64 0] false))
  have KK : Keep h.next nob h ((h.new (.cells (List.replicate 4 AV.nils) false)).new (.cells [.sl h.next 0 4 4 1 true, .nils, .int .i64 0, .int .i64 0] false)) := (Keep.new (Nat.le_refl _) _).trans (Keep.new (Nat.le_succ _) _)
  have gg : ((h.new (.cells (List.replicate 4 AV.nils) false)).new (.cells [.sl h.next 0 4 4 1 true, .nils, .int .i64 0, .int .i64 0] false)).get (h.next + 1) = some (.cells [.sl h.next 0 4 4 1 true, .nils, .int .i64 0, .int .i64 0] false) := get_new_self _ _
  have nn : h.next + 1 < ((h.new (.cells (List.replicate 4 AV.nils) false)).new (.cells [.sl h.next 0 4 4 1 true, .nils, .int .i64 0, .int .i64 0] false)).next := Nat.lt_succ_self _
  have key : ∃ (vn vo : AV) (rn ro : List AV), ChO ((h.new (.cells (List.replicate 4 AV.nils) false)).new (.cells [.sl h.next 0 4 4 1 true, .nils, .int .i64 0, .int .i64 0] false)) (h.next + 1) .new vn vo rn ro ∧ (∀ d, d ∈ fpC (h.next + 1) vn vo rn ro → h.next ≤ d) ∧
      Keep h.next nob h ((h.new (.cells (List.replicate 4 AV.nils) false)).new (.cells [.sl h.next 0 4 4 1 true, .nils, .int .i64 0, .int .i64 0] false)) := by
    refine ⟨.sl h.next 0 4 4 1 true, .nils, List.replicate 4 AV.nils, [], ⟨gg, nn, ⟨M', rfl, fun i r L hr hL => ?_⟩, ⟨Mine.nil 1 _, rfl, fun i r L hr _ => by simp at hr⟩, ?_⟩, ?_, KK⟩
    · have e1 : r = .nils := by
        rw [List.getElem?_replicate] at hr
        split at hr
        · exact (Option.some.inj hr).symm
        · cases hr
      have e2 : L = [] := by
        have : Ch.new.now = List.replicate 4 ([] : List Ent) := rfl
        rw [this, List.getElem?_replicate] at hL
        split at hL
        · exact (Option.some.inj hL).symm
        · cases hL
      subst e1 e2
      exact Mine.nil 2 _
    · unfold Apart
      simp [blks_cons]
    · intro d hd
      simp [fpC, blks_cons] at hd
      omega
  simpa using key

theorem pos_row (c : Ch) (key : ByteArray) (h : 0 < c.now.length) : (c.rows (c.sel key).1)[(c.sel key).2]? = some (c.row (c.sel key)) := sel_row h key
theorem row_small {c : Ch} (C : ChOk c) (key : ByteArray) : (c.row (c.sel key)).length ≤ 100000 := by
  have := pos_row c key C.n0
  refine C.small _ ?_
  have := List.mem_of_getElem? this
  unfold Ch.rows at this
  rw [List.mem_append]
  split at this
  · exact .inr this
  · exact .inl this

theorem get_ok (k : Nat) (hk : 200000 < k) (h : Heap) (b : Nat) (c : Ch) (vn vo : AV) (rn ro : List AV) (O : ChO h b c vn vo rn ro) (C : ChOk c) (key : ByteArray) (hm : key.size ≤ 1000) :
    ∃ v' h', acall Try.prog (k + 3) 35 [.ptr b 0, .str key] h = some (v', h') ∧ v' = .tup [.int .i64 ((c.get key).getD 0), .bool (c.get key).isSome] ∧ Keep h.next nob h h' := by
  rw [acall_text [] Try.func35 (by kernel_rfl)]
  refine afuncT_ex rfl (by simp [Try.f35]) ?_
  have n1 := C.n1; have o1 := C.o1; have m1 := C.m1; have n0 := C.n0
  have B := bucket_ok k h b c vn vo rn ro O key (by omega) (by omega) n0 (by omega) (by omega) (by omega)
  have hrow := pos_row c key n0
  have hsm := row_small C key
  unfold Ch.get
  generalize c.row (c.sel key) = L at *
  generalize c.sel key = s at *
  obtain ⟨R, A⟩ := O.sub s.1
  obtain ⟨r, hr, Mr⟩ := R.row hrow
  have ld := R.own.sl.ld (P := Try.prog) ta105 hr
  simp [Try.f35, B, ld]
  refine use (find_ok (k + 1) h r key L Mr.sl (by omega) (by omega)) ?_
  intro v h1 hq
  have e1 := hq.1
  have k1 := hq.2
  clear hq
  subst e1
  have S1 := (Mr.ext k1).sl
  unfold findZ
  cases hf : findE key L with
  | none => simp; exact k1
  | some i =>
    obtain ⟨e, he, hek⟩ := findE_lt hf
    have hil := (List.getElem?_eq_some_iff.1 he).1
    have ix := S1.idx (P := Try.prog) Try.underlying105 ts107 (j := i) hil .i64
    have f1 := S1.ld (P := Try.prog) ta3 (j := i * 2 + 1) (x := .int .i64 e.2) (by rw [cat_get ec_len he (by omega)]; rfl)
    rw [← Nat.add_assoc] at f1
    simp [isLe (show (0 : Int) ≤ (i : Int) by omega), ix, f1, he]
    exact k1
theorem len_ok (k : Nat) (h : Heap) (b : Nat) (c : Ch) (vn vo : AV) (rn ro : List AV) (O : ChO h b c vn vo rn ro) : acall Try.prog (k + 1) 38 [.ptr b 0] h = some (.int .i64 (c.len : Nat), h) := by
  rw [acall_text [] Try.func38 (by kernel_rfl)]
  refine afuncT_of rfl (by simp [Try.f38]) ?_
  simp [Try.f38, O.ld3]
end Go.Proofs.Ytelnkdgpghndgaa
/- chain.Chain: Put, Drop. -/
namespace Go.Proofs.Ytelnkdgpghndgaa
open Go Go.YtelnkdgpghndgaaAbs
set_option linter.unusedSimpArgs false
set_option linter.unusedVariables false
set_option maxRecDepth 4000

theorem setRow_len (c : Ch) (s : Bool × Nat) (L : List Ent) : (c.setRow s L).now.length = c.now.length ∧ (c.setRow s L).old.length = c.old.length ∧ (c.setRow s L).moved = c.moved ∧ (c.setRow s L).len = c.len := by
  unfold Ch.setRow
  split <;> simp
theorem fpCs {b : Nat} {vn vo : AV} {rn ro : List AV} {d : Nat} : d = b → d ∈ fpC b vn vo rn ro := fun q => by rw [q]; exact ChO.atB rn ro vn vo

/-- The buckets get old. -/
theorem ChO.grown {h : Heap} {b : Nat} {c : Ch} {vn vo : AV} {rn ro : List AV} (O : ChO h b c vn vo rn ro) (h0 : c.old.length = 0) (r p : Nat) (hp : p < r) :
    ∃ h1 h2, alay (h.bump r) b 1 [vn] = some h1 ∧ alay (h1.at_ (h.next + p) (.cells (List.replicate (2 * c.now.length) .nils) false)) b 0 [.sl (h.next + p) 0 (2 * c.now.length) (2 * c.now.length) 1 true] = some h2 ∧ h1.next = h.next + r ∧
      ChO h2 b ⟨List.replicate (2 * c.now.length) [], c.now, c.moved, c.len⟩ (.sl (h.next + p) 0 (2 * c.now.length) (2 * c.now.length) 1 true) vn (List.replicate (2 * c.now.length) .nils) rn ∧
      (∀ d, d ∈ fpC b (.sl (h.next + p) 0 (2 * c.now.length) (2 * c.now.length) 1 true) vn (List.replicate (2 * c.now.length) .nils) rn → d ∈ fpC b vn vo rn ro ∨ h.next ≤ d) ∧ Keep h.next (fun d => d = b) h h2 ∧ h2.next = h.next + r := by
  obtain ⟨M, hM⟩ : ∃ M, M = 2 * c.now.length := ⟨_, rfl⟩
  rw [← hM]
  have hb := O.lt
  have a1 : alay (h.bump r) b 1 [vn] = some ((h.bump r).set b (.cells [vn, vn, .int .i64 (c.moved : Nat), .int .i64 (c.len : Nat)] false)) := by
    unfold alay; rw [get_bump _ _ _ hb, O.str]; rfl
  have a2 : alay ((((h.bump r).set b (.cells [vn, vn, .int .i64 (c.moved : Nat), .int .i64 (c.len : Nat)] false)).at_ (h.next + p) (.cells (List.replicate M .nils) false))) b 0 [.sl (h.next + p) 0 M M 1 true] =
      some ((((h.bump r).set b (.cells [vn, vn, .int .i64 (c.moved : Nat), .int .i64 (c.len : Nat)] false)).at_ (h.next + p) (.cells (List.replicate M .nils) false)).set b (.cells [.sl (h.next + p) 0 M M 1 true, vn, .int .i64 (c.moved : Nat), .int .i64 (c.len : Nat)] false)) := by
    unfold alay; rw [Heap.get_at, if_neg (by omega), get_set_self]; rfl
  have K : Keep h.next (fun d => d = b) h ((((h.bump r).set b (.cells [vn, vn, .int .i64 (c.moved : Nat), .int .i64 (c.len : Nat)] false)).at_ (h.next + p) (.cells (List.replicate M .nils) false)).set b (.cells [.sl (h.next + p) 0 M M 1 true, vn, .int .i64 (c.moved : Nat), .int .i64 (c.len : Nat)] false)) :=
    ⟨Nat.le_add_right _ _, fun d hd hn => by rw [get_set_ne (fun q => hn q.symm), Heap.get_at, if_neg (by omega), get_set_ne (fun q => hn q.symm), get_bump _ _ _ hd]⟩
  have g1 : ((((h.bump r).set b (.cells [vn, vn, .int .i64 (c.moved : Nat), .int .i64 (c.len : Nat)] false)).at_ (h.next + p) (.cells (List.replicate M .nils) false)).set b (.cells [.sl (h.next + p) 0 M M 1 true, vn, .int .i64 (c.moved : Nat), .int .i64 (c.len : Nat)] false)).get b = some (.cells [.sl (h.next + p) 0 M M 1 true, vn, .int .i64 (c.moved : Nat), .int .i64 (c.len : Nat)] false) := get_set_self _ _ _
  have g2 : ((((h.bump r).set b (.cells [vn, vn, .int .i64 (c.moved : Nat), .int .i64 (c.len : Nat)] false)).at_ (h.next + p) (.cells (List.replicate M .nils) false)).set b (.cells [.sl (h.next + p) 0 M M 1 true, vn, .int .i64 (c.moved : Nat), .int .i64 (c.len : Nat)] false)).get (h.next + p) = some (.cells (List.replicate M .nils) false) := by
    rw [get_set_ne (by omega), Heap.get_at, if_pos rfl]
  have n2 : ((((h.bump r).set b (.cells [vn, vn, .int .i64 (c.moved : Nat), .int .i64 (c.len : Nat)] false)).at_ (h.next + p) (.cells (List.replicate M .nils) false)).set b (.cells [.sl (h.next + p) 0 M M 1 true, vn, .int .i64 (c.moved : Nat), .int .i64 (c.len : Nat)] false)).next = h.next + r := rfl
  have n1 : ((h.bump r).set b (.cells [vn, vn, .int .i64 (c.moved : Nat), .int .i64 (c.len : Nat)] false)).next = h.next + r := rfl
  generalize (h.bump r).set b (.cells [vn, vn, .int .i64 (c.moved : Nat), .int .i64 (c.len : Nat)] false) = h1 at *
  generalize (h1.at_ (h.next + p) (.cells (List.replicate M .nils) false)).set b (.cells [.sl (h.next + p) 0 M M 1 true, vn, .int .i64 (c.moved : Nat), .int .i64 (c.len : Nat)] false) = h2 at *
  have A := O.apart
  have nb : ∀ d, d ∈ blks (vn :: rn) → d ≠ b := fun d hd q => by
    unfold Apart at A
    rw [blks_cons, List.nodup_append] at A
    obtain ⟨u, hu, hu'⟩ := mem_blks.1 hd
    exact A.2.2 b (by simp) d (mem_blks.2 ⟨u, by rcases List.mem_cons.1 hu with rfl | hu <;> simp [*], hu'⟩) q.symm
  have bl : ∀ d, d ∈ blks (vn :: rn) → d < h.next := fun d hd => O.now.lt hd
  have bnil : ∀ m, blks (List.replicate m AV.nils) = [] := fun m => by
    induction m with
    | zero => rfl
    | succ m ih => rw [List.replicate_succ, blks_cons, ih]; rfl
  have fpE : fpC b (.sl (h.next + p) 0 M M 1 true) vn (List.replicate M .nils) rn = b :: (h.next + p) :: blks (vn :: rn) := by
    unfold fpC
    rw [blks_cons, blks_cons, blks_cons, blks_append, bnil, blks_cons vn rn]
    simp
  refine ⟨h1, h2, a1, a2, n1, ⟨g1, by omega, ⟨?_, by simp, fun i r' L hr hL => ?_⟩, O.now.keep K fun d hd => nb d hd, ?_⟩, fun d hd => ?_, K, n2⟩
  · refine .inr ⟨h.next + p, 0, M, true, _, by simp, .inl rfl, by omega, g2, by simp, by simp, by simp, by simp, ?_⟩
    rw [List.all_replicate]
    simp
  · have e1 := List.eq_of_mem_replicate (List.mem_of_getElem? hr)
    have e2 := List.eq_of_mem_replicate (List.mem_of_getElem? hL)
    subst e1 e2
    exact Mine.nil 2 _
  · have e := fpE
    unfold fpC at e
    unfold Apart
    rw [e, List.nodup_cons, List.nodup_cons]
    refine ⟨fun q => ?_, fun q => ?_, ?_⟩
    · rcases List.mem_cons.1 q with q | q
      · omega
      · exact nb b q rfl
    · have := bl _ q; omega
    · have : Apart (vn :: rn) := O.apart.sub (.cons _ (.cons_cons _ (.cons _ (List.sublist_append_left _ _))))
      exact this
  · rw [fpE] at hd
    rcases List.mem_cons.1 hd with q | hd
    · exact .inl (fpCs q)
    · rcases List.mem_cons.1 hd with q | hd
      · exact .inr (by omega)
      · obtain ⟨u, hu, hu'⟩ := mem_blks.1 hd
        exact .inl (mem_blks.2 ⟨u, by rcases List.mem_cons.1 hu with rfl | hu <;> simp [*], hu'⟩)

theorem put_ok (k : Nat) (hk : 200000 < k) (h : Heap) (b : Nat) (c : Ch) (vn vo : AV) (rn ro : List AV) (O : ChO h b c vn vo rn ro) (C : ChOk c) (C1 : ChOk c.step) (key : ByteArray) (hm : key.size ≤ 1000) (n : Int) :
    ∃ v' h', acall Try.prog (k + 3) 34 [.ptr b 0, .str key, .int .i64 n] h = some (v', h') ∧ v' = .bool (c.put key n).1 ∧ (∃ vn' vo' rn' ro', ChO h' b (c.put key n).2 vn' vo' rn' ro' ∧ ∀ d, d ∈ fpC b vn' vo' rn' ro' → d ∈ fpC b vn vo rn ro ∨ h.next ≤ d) ∧ Keep h.next (fun d => d ∈ fpC b vn vo rn ro) h h' := by
  obtain ⟨v1, h1, E1, ⟨vn1, vo1, rn1, ro1, O1, f1⟩, K1⟩ := step_ok k hk h b c vn vo rn ro O C
  unfold Ch.put
  generalize hc1 : c.step = c1 at *
  have n1 := C1.n1; have o1 := C1.o1; have m1 := C1.m1; have n0 := C1.n0; have l1 := C1.len
  have B := bucket_ok k h1 b c1 vn1 vo1 rn1 ro1 O1 key (by omega) (by omega) n0 (by omega) (by omega) (by omega)
  have hrow := pos_row c1 key n0
  have hsm := row_small C1 key
  have q1 := setRow_len c1 (c1.sel key)
  have eadd : c1.add key n = ⟨(c1.setRow (c1.sel key) (c1.row (c1.sel key) ++ [(key, n)])).now, (c1.setRow (c1.sel key) (c1.row (c1.sel key) ++ [(key, n)])).old, (c1.setRow (c1.sel key) (c1.row (c1.sel key) ++ [(key, n)])).moved, c1.len + 1⟩ := rfl
  unfold Ch.put1
  generalize hL : c1.row (c1.sel key) = L at *
  generalize hs : c1.sel key = s at *
  obtain ⟨R, A⟩ := O1.sub s.1
  obtain ⟨r, hr, Mr⟩ := R.row hrow
  have ld := R.own.sl.ld (P := Try.prog) ta105 hr
  obtain ⟨v2, h2, E2, e2, k2⟩ := find_ok (k + 1) h1 r key L Mr.sl (by omega) (by omega)
  subst e2
  have O2 := O1.ext k2
  have M2 := Mr.ext k2
  have R2 := R.ext k2
  have ld2 := R2.own.sl.ld (P := Try.prog) ta105 hr
  have K2 : Keep h.next (fun d => d ∈ fpC b vn vo rn ro) h h2 := K1.trans (k2.weak K1.1 fun _ _ q => q.elim)
  cases hf : findE key L with
  | some i =>
    have hz : findZ key L = (i : Nat) := by unfold findZ; rw [hf]
    rw [hz] at E2
    obtain ⟨e, he, hek⟩ := findE_lt hf
    have hil := (List.getElem?_eq_some_iff.1 he).1
    have ix := M2.sl.idx (P := Try.prog) Try.underlying105 ts107 (j := i) hil .i64
    have hset := cat_set1 ec_len (L := L) (j := i) (x := e) (y := (key, n)) he (o := 1) (by omega) (a := .int .i64 n) (by simp [ec, hek])
    obtain ⟨h3, a1, a2, a3, a4⟩ := M2.lay (j := i * 2 + 1) (vs := [.int .i64 n]) (by rw [M2.length]; simp; omega) (by omega) rfl
    rw [List.length_singleton, hset] at a2
    rw [← Nat.add_assoc] at a1
    have a2 : Mine 2 (L.set i (key, n)).length h3 r (cat ec (L.set i (key, n))) := by rw [List.length_set]; exact a2
    obtain ⟨b1, b2⟩ := O2.upd0 s.1 hr a3 a2
    rw [acall_text [11] Try.func34 (by kernel_rfl)]
    refine afuncT_ex rfl (by simp [Try.f34]) ?_
    simp [Try.f34, E1, B, ld, E2, isLe (show (0 : Int) ≤ (i : Int) by omega), ld2, ix, a1]
    refine ⟨⟨vn1, vo1, rn1, ro1, b1, f1⟩, K2.trans (b2.weak K2.1 fun d hd q => ?_)⟩
    rcases f1 d q with z | z
    · exact z
    · omega
  | none =>
    have hz : findZ key L = -1 := by unfold findZ; rw [hf]
    rw [hz] at E2
    obtain ⟨u, u', h4, h5, rn5, ro5, b1, b2, b3, b3', b4, b5, b6, b7⟩ := O2.app s.1 hrow (by omega) (key, n) el105
    obtain rfl : r = u := Option.some.inj (hr.symm.trans b1)
    obtain ⟨h6, d1, O6, k6, n6⟩ := b5.put3 (c1.len + 1)
    have q1' := q1 (L ++ [(key, n)])
    have O6 : ChO h6 b (c1.add key n) vn1 vo1 rn5 ro5 := by rw [eadd]; exact O6
    have t1 : (c1.add key n).now.length = c1.now.length := by rw [eadd]; exact q1'.1
    have t2 : (c1.add key n).old.length = c1.old.length := by rw [eadd]; exact q1'.2.1
    have t4 : (c1.add key n).len = c1.len + 1 := by rw [eadd]
    have l3 := b5.ld3 (ty := 3) ta3
    have l3 : aload Try.prog h5 3 b 3 = some (.int .i64 (c1.len : Nat)) := by rw [l3]; rw [show (c1.setRow (s.fst, s.snd) (L ++ [(key, n)])).len = c1.len from q1'.2.2.2]
    have d1 : alay h5 b 3 [.int .i64 ((c1.len : Int) + 1)] = some h6 := d1
    have fp6 : ∀ d, d ∈ fpC b vn1 vo1 rn5 ro5 → d ∈ fpC b vn vo rn ro ∨ h.next ≤ d := fun d hd => by
      rcases b6 d hd with z | z
      · exact f1 d z
      · have := K2.1; exact .inr (by omega)
    have K6 : Keep h.next (fun d => d ∈ fpC b vn vo rn ro) h h6 := by
      refine K2.trans ⟨Nat.le_trans b7.1 k6.1, fun d hd hn => ?_⟩
      have hd2 : d < h2.next := Nat.lt_of_lt_of_le hd K2.1
      rw [k6.2 d (Nat.lt_of_lt_of_le hd2 b7.1) (fun q => hn (fpCs q)), b7.2 d hd2 (fun z => (f1 d z).elim hn (by omega))]
    generalize hc2 : c1.add key n = c2 at *
    have x0 := O6.ld0 (ty := 98) ta98
    have x1 := O6.ld1 (ty := 98) ta98
    have x3 := O6.ld3 (ty := 3) ta3
    have y0 := O6.lenN
    have y1 := O6.lenO
    have w1 := i64s (n := (c1.len : Int) + 1) (by omega) (by omega)
    obtain ⟨W, hW⟩ : ∃ W, W = 2 * c2.now.length := ⟨_, rfl⟩
    have w2 : fwrap .i64 (2 * (c2.now.length : Int)) = (W : Nat) := by rw [i64w _ (by omega) (by omega)]; omega
    have rwu := row1_one b3'
    simp only []
    rw [acall_text [11] Try.func34 (by kernel_rfl)]
    refine afuncT_ex rfl (by simp [Try.f34]) ?_
    have b3 : aappend Try.prog (h2.new (.cells [.str key, .int .i64 n] false)) 105 105 r (.sl h2.next 0 1 1 2 true) = some (u', h4) := b3
    unfold Ch.grow
    by_cases g1 : c2.old.length = 0
    · by_cases g2 : 2 * c2.now.length < c2.len
      · by_cases g3 : c2.now.length < 4096
        · rw [if_pos ⟨g1, g2, g3⟩]
          obtain ⟨h7, h8, a1, a2, n7, O8, f8, k8, n8⟩ := O6.grown g1 15 8 (by omega)
          rw [← hW] at a2 O8 f8
          simp [Try.f34, E1, B, ld, E2, ld2, aalloc, afill, row1_agg, b3, b4, rwu, l3, w1, d1, x0, x1, x3, y0, y1, g1, w2, isLt (show (W : Int) < (c2.len : Int) by omega), isLt (show (c2.now.length : Int) < 4096 by omega)]
          refine W_late [0, 0, 0, 4, 12, 28, 0, 64, 192, 61, 573, 1597, 4095, 8191, 16383] [8] (by rfl) (by kernel_rfl) (by kernel_rfl) (by kernel_rfl) (by kernel_rfl) ?_
          have x0' : aload Try.prog (h6.bump 15) 98 b 0 = some vn1 := by rw [aload_bump O6.lt]; exact x0
          have rv := row1_one O6.now.own.oneV
          have nk : nextOk h6.next 15 h7 = true := by unfold nextOk; rw [n7]; exact Nat.ble_eq_true_of_le (Nat.le_refl _)
          have nk8 : nextOk h6.next 15 h8 = true := by unfold nextOk; rw [n8]; exact Nat.ble_eq_true_of_le (Nat.le_refl _)
          simp [resv, memN, isStore, isEff, isAlloc, mayEff, alate_make, x0', w2, insFl, rv, a1, nk, aalloc_make (P := Try.prog) el98 (z := [.nils]) az105 rfl rfl W W (Nat.le_refl _) (by omega), flat1, a2, nk8, show Nat.testBit 1597 8 = false by decide, show Nat.testBit 16383 8 = true by decide]
          rw [hW] at O8 f8
          refine ⟨⟨_, _, _, _, O8, fun d hd => ?_⟩, K6.trans (k8.weak K6.1 fun d _ q => fpCs q)⟩
          rcases f8 d hd with z | z
          · exact fp6 d z
          · have := K6.1; exact .inr (by omega)
        · rw [if_neg (fun q => g3 q.2.2)]
          simp [Try.f34, E1, B, ld, E2, ld2, aalloc, afill, row1_agg, b3, b4, rwu, l3, w1, d1, x0, x1, x3, y0, y1, g1, w2, isLt (show (W : Int) < (c2.len : Int) by omega), isLe (show (4096 : Int) ≤ (c2.now.length : Int) by omega)]
          exact ⟨⟨vn1, vo1, rn5, ro5, O6, fp6⟩, K6⟩
      · rw [if_neg (fun q => g2 q.2.1)]
        simp [Try.f34, E1, B, ld, E2, ld2, aalloc, afill, row1_agg, b3, b4, rwu, l3, w1, d1, x0, x1, x3, y0, y1, g1, w2, isLe (show (c2.len : Int) ≤ (W : Int) by omega)]
        exact ⟨⟨vn1, vo1, rn5, ro5, O6, fp6⟩, K6⟩
    · rw [if_neg (fun q => g1 q.1)]
      simp [Try.f34, E1, B, ld, E2, ld2, aalloc, afill, row1_agg, b3, b4, rwu, l3, w1, d1, x0, x1, x3, y0, y1, g1]
      exact ⟨⟨vn1, vo1, rn5, ro5, O6, fp6⟩, K6⟩

theorem swapOut_len {L : List Ent} {i : Nat} (h : i < L.length) : (swapOut L i).length = L.length - 1 := by
  unfold swapOut
  rw [List.length_take, List.length_set]
  omega
theorem drop_ok (k : Nat) (hk : 200000 < k) (h : Heap) (b : Nat) (c : Ch) (vn vo : AV) (rn ro : List AV) (O : ChO h b c vn vo rn ro) (C : ChOk c) (C1 : ChOk c.step) (key : ByteArray) (hm : key.size ≤ 1000) (hln : ∀ i, findE key (c.step.row (c.step.sel key)) = some i → 0 < c.step.len) :
    ∃ v' h', acall Try.prog (k + 3) 47 [.ptr b 0, .str key] h = some (v', h') ∧ v' = .bool (c.drop key).1 ∧ (∃ vn' vo' rn' ro', ChO h' b (c.drop key).2 vn' vo' rn' ro' ∧ ∀ d, d ∈ fpC b vn' vo' rn' ro' → d ∈ fpC b vn vo rn ro ∨ h.next ≤ d) ∧ Keep h.next (fun d => d ∈ fpC b vn vo rn ro) h h' := by
  obtain ⟨v1, h1, E1, ⟨vn1, vo1, rn1, ro1, O1, f1⟩, K1⟩ := step_ok k hk h b c vn vo rn ro O C
  unfold Ch.drop
  generalize hc1 : c.step = c1 at *
  have n1 := C1.n1; have o1 := C1.o1; have m1 := C1.m1; have n0 := C1.n0; have l1 := C1.len
  have B := bucket_ok k h1 b c1 vn1 vo1 rn1 ro1 O1 key (by omega) (by omega) n0 (by omega) (by omega) (by omega)
  have hrow := pos_row c1 key n0
  have hsm := row_small C1 key
  have q1 := setRow_len c1 (c1.sel key)
  unfold Ch.drop1
  generalize hL : c1.row (c1.sel key) = L at *
  generalize hs : c1.sel key = s at *
  obtain ⟨R, A⟩ := O1.sub s.1
  obtain ⟨r, hr, Mr⟩ := R.row hrow
  have ld := R.own.sl.ld (P := Try.prog) ta105 hr
  obtain ⟨v2, h2, E2, e2, k2⟩ := find_ok (k + 1) h1 r key L Mr.sl (by omega) (by omega)
  subst e2
  have O2 := O1.ext k2
  have M2 := Mr.ext k2
  have R2 := R.ext k2
  have ld2 := R2.own.sl.ld (P := Try.prog) ta105 hr
  have K2 : Keep h.next (fun d => d ∈ fpC b vn vo rn ro) h h2 := K1.trans (k2.weak K1.1 fun _ _ q => q.elim)
  cases hf : findE key L with
  | none =>
    have hz : findZ key L = -1 := by unfold findZ; rw [hf]
    rw [hz] at E2
    rw [acall_text [] Try.func47 (by kernel_rfl)]
    refine afuncT_ex rfl (by simp [Try.f47]) ?_
    simp [Try.f47, E1, B, ld, E2]
    exact ⟨⟨vn1, vo1, rn1, ro1, O2, f1⟩, K2⟩
  | some i =>
    have hz : findZ key L = (i : Nat) := by unfold findZ; rw [hf]
    rw [hz] at E2
    have hlp := hln i hf
    obtain ⟨e, he, hek⟩ := findE_lt hf
    have hil := (List.getElem?_eq_some_iff.1 he).1
    obtain ⟨p, hp⟩ : ∃ p, p = L.length - 1 := ⟨_, rfl⟩
    obtain ⟨e', he'⟩ : ∃ e', L[p]? = some e' := ⟨L[p]'(by omega), by simp⟩
    have ix := M2.sl.idx (P := Try.prog) Try.underlying105 ts107 (j := i) hil .i64
    have ixp := M2.sl.idx (P := Try.prog) Try.underlying105 ts107 (j := p) (by omega) .i64
    have ldp := M2.sl.lds (P := Try.prog) ta107 ts107 (j := p * 2) (by rw [M2.length]; omega) (by omega)
    rw [cat_at ec_len he'] at ldp
    obtain ⟨h3, a1, a2, a3, a4⟩ := M2.lay (j := i * 2) (vs := ec e') (by rw [M2.length]; simp [ec]; omega) (by omega) rfl
    rw [cat_set ec_len hil] at a2
    have a2 : Mine 2 (L.set i e').length h3 r (cat ec (L.set i e')) := by rw [List.length_set]; exact a2
    obtain ⟨O3, K3⟩ := O2.upd0 s.1 hr a3 a2
    have hr3 : (pick2 s.1 ro1 rn1)[s.2]? = some r := hr
    have R3 := (O3.sub s.1).1
    have ld3 := R3.own.sl.ld (P := Try.prog) ta105 hr
    obtain ⟨r', g1, g2, g3⟩ := a2.to (P := Try.prog) (ty := 105) Try.underlying105 ts107 (k := .i64) (j := p) (by rw [List.length_set]; omega)
    rw [cat_take ec_len] at g2
    have esw : swapOut L i = (L.set i e').take p := by unfold swapOut; rw [← hp, he']; rfl
    rw [← esw] at g2
    have g2 : Mine 2 (swapOut L i).length h3 r' (cat ec (swapOut L i)) := by rw [swapOut_len hil, ← hp]; exact g2
    obtain ⟨h4, rn4, ro4, b1, b2, b3, b4, b5⟩ := O3.upd s.1 hr (Keep.refl _ _ _) g2 (fun d hd => .inl (by unfold Has at hd ⊢; rw [← g3]; exact hd))
    obtain ⟨h5, d1, O5, k5, n5⟩ := b2.put3 (c1.len - 1)
    have q2 : ∀ L L', ((c1.setRow s L).setRow (s.1, s.2) L') = c1.setRow s L' := fun L L' => by
      unfold Ch.setRow
      cases s.1 <;> simp
    have O5' : ChO h5 b ⟨(c1.setRow s (swapOut L i)).now, (c1.setRow s (swapOut L i)).old, (c1.setRow s (swapOut L i)).moved, c1.len - 1⟩ vn1 vo1 rn4 ro4 := by
      rw [← q2 (L.set i e') (swapOut L i)]
      exact O5
    have l3 := b2.ld3 (ty := 3) ta3
    have l3 : aload Try.prog h4 3 b 3 = some (.int .i64 (c1.len : Nat)) := by
      rw [l3, show (((c1.setRow (s.fst, s.snd) (L.set i e')).setRow (s.fst, s.snd) (swapOut L i))).len = c1.len from (setRow_len _ _ _).2.2.2.trans (setRow_len _ _ _).2.2.2]
    have w1 : fwrap .i64 ((L.length : Int) - 1) = (p : Nat) := by rw [i64w _ (by omega) (by omega)]; omega
    obtain ⟨q, hq⟩ : ∃ q, q = c1.len - 1 := ⟨_, rfl⟩
    have w2 : fwrap .i64 ((c1.len : Int) - 1) = (q : Nat) := by rw [i64w _ (by omega) (by omega)]; omega
    rw [← hq] at d1
    have rwr := row1_one g2.oneV
    have rwe : (AV.agg (ec e')).row1 = some (ec e') := rfl
    have le : (ec e').length = 2 := rfl
    rw [acall_text [] Try.func47 (by kernel_rfl)]
    refine afuncT_ex rfl (by simp [Try.f47]) ?_
    simp [Try.f47, E1, B, ld, E2, isLe (show (0 : Int) ≤ (i : Int) by omega), ld2, M2.sl.len', w1, ixp, ldp, ix, rwe, le, a1, ld3, g1, rwr, b1, l3, w2, d1]
    refine ⟨⟨vn1, vo1, rn4, ro4, O5', fun d hd => ?_⟩, K2.trans ⟨Nat.le_trans K3.1 (Nat.le_trans b4.1 k5.1), fun d hd hn => ?_⟩⟩
    · rcases b3 d hd with z | z
      · exact f1 d z.1
      · have := K2.1; have := K3.1; exact .inr (by omega)
    · have hd2 : d < h2.next := Nat.lt_of_lt_of_le hd K2.1
      have nf : ¬ d ∈ fpC b vn1 vo1 rn1 ro1 := fun z => (f1 d z).elim hn (by omega)
      have hd3 : d < h3.next := Nat.lt_of_lt_of_le hd2 K3.1
      rw [k5.2 d (Nat.lt_of_lt_of_le hd3 b4.1) (fun z => hn (fpCs z)), b4.2 d hd3 nf, K3.2 d hd2 nf]
end Go.Proofs.Ytelnkdgpghndgaa
/- chain.Chain in plain words: how large it is; it is a map. -/
namespace Go.Proofs.Ytelnkdgpghndgaa
open Go Go.YtelnkdgpghndgaaAbs
set_option linter.unusedSimpArgs false
set_option linter.unusedVariables false
set_option maxRecDepth 4000

def total (rows : List (List Ent)) : Nat := (rows.map List.length).sum
theorem total_set : ∀ (rows : List (List Ent)) (j : Nat) (L L' : List Ent), rows[j]? = some L → total (rows.set j L') + L.length = total rows + L'.length
  | [], j, L, L', h => by simp at h
  | x :: rows, 0, L, L', h => by
    simp at h; subst h
    simp [total]; omega
  | x :: rows, j + 1, L, L', h => by
    have := total_set rows j L L' (by simpa using h)
    simp [total] at this ⊢
    omega
theorem total_le : ∀ (rows : List (List Ent)) (L : List Ent), L ∈ rows → L.length ≤ total rows
  | x :: rows, L, h => by
    rcases List.mem_cons.1 h with rfl | h
    · simp [total]
    · have := total_le rows L h
      simp [total] at this ⊢
      omega
theorem total_rep (n : Nat) : total (List.replicate n []) = 0 := by
  induction n with
  | zero => rfl
  | succ n ih => rw [List.replicate_succ]; simp [total] at ih ⊢
theorem total_zero : ∀ (rows : List (List Ent)), (∀ L, L ∈ rows → L = []) → total rows = 0
  | [], h => rfl
  | x :: rows, h => by
    have := total_zero rows (fun L hL => h L (by simp [hL]))
    have hx := h x (by simp)
    subst hx
    simp [total] at this ⊢
    exact this
theorem move1_total {now : List (List Ent)} (h : 0 < now.length) (e : Ent) : total (move1 now e) = total now + 1 := by
  have hj := Nat.mod_lt (hsh e.1) h
  obtain ⟨L, hL⟩ : ∃ L, now[hsh e.1 % now.length]? = some L := ⟨now[hsh e.1 % now.length], by simp [hj]⟩
  unfold move1
  rw [hL, Option.getD_some]
  have := total_set now _ L (L ++ [e]) hL
  rw [List.length_append, List.length_singleton] at this
  omega
theorem moves_total : ∀ (l : List Ent) {now : List (List Ent)}, 0 < now.length → total (l.foldl move1 now) = total now + l.length
  | [], now, h => rfl
  | e :: l, now, h => by
    rw [List.foldl_cons, moves_total l (by rw [move1_len]; exact h), move1_total h, List.length_cons]
    omega

/-- How large a table is. -/
structure ChI (N : Nat) (c : Ch) : Prop where
  n0 : 0 < c.now.length
  n1 : c.now.length ≤ 8192
  o1 : c.old.length ≤ 8192
  m0 : c.old.length = 0 → c.moved = 0
  mv : c.old.length ≠ 0 → c.moved < c.old.length
  emp : ∀ i L, i < c.moved → c.old[i]? = some L → L = []
  tot : total c.now + total c.old = c.len
  len : c.len ≤ N
  keys : ∀ L, L ∈ c.now ++ c.old → ∀ e : Ent, e ∈ L → e.1.size ≤ 1000
theorem ChI.ok {N : Nat} {c : Ch} (I : ChI N c) (hN : N ≤ 100000) : ChOk c := by
  have n1 := I.n1; have o1 := I.o1; have tot := I.tot; have len := I.len
  refine ⟨I.n0, by omega, by omega, I.mv, ?_, fun L hL => ?_, I.keys, by omega⟩
  · by_cases h : c.old.length = 0
    · have := I.m0 h; omega
    · have := I.mv h; omega
  · rcases List.mem_append.1 hL with h | h
    · have := total_le _ _ h; omega
    · have := total_le _ _ h; omega
theorem ChI.new (N : Nat) : ChI N .new := ⟨by decide, by decide, by decide, fun _ => rfl, fun h => absurd rfl h, fun i L hi _ => absurd hi (Nat.not_lt_zero i), rfl, Nat.zero_le _, fun L hL e he => by
  simp [Ch.new] at hL
  subst hL
  cases he⟩
theorem move1_keys {now : List (List Ent)} {e : Ent} {P : Ent → Prop} (he : P e) (h : ∀ L, L ∈ now → ∀ x : Ent, x ∈ L → P x) : ∀ L, L ∈ move1 now e → ∀ x : Ent, x ∈ L → P x := by
  intro L hL x hx
  unfold move1 at hL
  rcases List.mem_or_eq_of_mem_set hL with q | rfl
  · exact h L q x hx
  · rcases List.mem_append.1 hx with q | q
    · cases hq : now[hsh e.1 % now.length]? with
      | none => rw [hq] at q; cases q
      | some M => rw [hq] at q; exact h M (List.mem_of_getElem? hq) x q
    · rw [List.mem_singleton.1 q]; exact he
theorem moves_keys {P : Ent → Prop} : ∀ (l : List Ent) {now : List (List Ent)}, (∀ x : Ent, x ∈ l → P x) → (∀ L, L ∈ now → ∀ x : Ent, x ∈ L → P x) → ∀ L, L ∈ l.foldl move1 now → ∀ x : Ent, x ∈ L → P x
  | [], now, hl, h => h
  | e :: l, now, hl, h => moves_keys l (fun x hx => hl x (by simp [hx])) (move1_keys (hl e (by simp)) h)
theorem ChI.step {N : Nat} {c : Ch} (I : ChI N c) : ChI N c.step := by
  unfold Ch.step
  by_cases h0 : c.old.length = 0
  · rw [if_pos h0]; exact I
  · rw [if_neg h0]
    have hm := I.mv h0
    obtain ⟨l, hl⟩ : ∃ l, c.old[c.moved]? = some l := ⟨c.old[c.moved], by simp [hm]⟩
    rw [hl, Option.getD_some]
    have tot := I.tot
    have t1 := moves_total l I.n0
    have t2 := total_set c.old c.moved l [] hl
    have kl : ∀ x : Ent, x ∈ l → x.1.size ≤ 1000 := I.keys l (List.mem_append.2 (.inr (List.mem_of_getElem? hl)))
    have kn := moves_keys (P := fun x => x.1.size ≤ 1000) l kl (fun L hL => I.keys L (List.mem_append.2 (.inl hL)))
    simp at t2
    by_cases h1 : c.moved + 1 = c.old.length
    · rw [if_pos h1]
      have z : total (c.old.set c.moved []) = 0 := total_zero _ fun L hL => by
        obtain ⟨i, hi⟩ := List.getElem?_of_mem hL
        by_cases him : i = c.moved
        · subst him
          rw [List.getElem?_set_self hm] at hi
          cases hi; rfl
        · rw [List.getElem?_set_ne (Ne.symm him)] at hi
          have := (List.getElem?_eq_some_iff.1 hi).1
          exact I.emp i L (by omega) hi
      refine ⟨by simp only [moves_len]; exact I.n0, by simp only [moves_len]; exact I.n1, Nat.zero_le _, fun _ => rfl, fun q => absurd rfl q, fun i L hi _ => absurd hi (Nat.not_lt_zero i), ?_, I.len, fun L hL => kn L (by simpa using hL)⟩
      have : total ([] : List (List Ent)) = 0 := rfl
      simp only
      omega
    · rw [if_neg h1]
      refine ⟨by simp only [moves_len]; exact I.n0, by simp only [moves_len]; exact I.n1, by simp only [List.length_set]; exact I.o1, fun q => absurd (by simpa using q) h0, fun _ => by simp only [List.length_set]; omega, fun i L hi hL => ?_, by simp only; omega, I.len, fun L hL => ?_⟩
      · by_cases him : i = c.moved
        · subst him
          rw [List.getElem?_set_self hm] at hL
          cases hL; rfl
        · rw [List.getElem?_set_ne (Ne.symm him)] at hL
          have hi : i < c.moved + 1 := hi
          exact I.emp i L (by omega) hL
      rcases List.mem_append.1 hL with q | q
      · exact kn L q
      · rcases List.mem_or_eq_of_mem_set q with q | rfl
        · exact I.keys L (List.mem_append.2 (.inr q))
        · intro e he; cases he

/-! Rows that are set. -/
theorem rows_set (c : Ch) (s : Bool × Nat) (L : List Ent) (t : Bool) : (c.setRow s L).rows t = if t = s.1 then (c.rows t).set s.2 L else c.rows t := by
  obtain ⟨s1, s2⟩ := s
  unfold Ch.setRow Ch.rows
  cases s1 <;> cases t <;> simp
theorem mem_rows {c : Ch} {L : List Ent} : L ∈ c.now ++ c.old ↔ ∃ (s : Bool) (i : Nat), (c.rows s)[i]? = some L := by
  rw [List.mem_append]
  constructor
  · rintro (h | h)
    · obtain ⟨i, hi⟩ := List.getElem?_of_mem h
      exact ⟨false, i, hi⟩
    · obtain ⟨i, hi⟩ := List.getElem?_of_mem h
      exact ⟨true, i, hi⟩
  · rintro ⟨s, i, hi⟩
    cases s
    · exact .inl (List.mem_of_getElem? hi)
    · exact .inr (List.mem_of_getElem? hi)
theorem total_setRow {c : Ch} {s : Bool × Nat} {L L' : List Ent} (h : (c.rows s.1)[s.2]? = some L) : total (c.setRow s L').now + total (c.setRow s L').old + L.length = total c.now + total c.old + L'.length := by
  obtain ⟨s1, s2⟩ := s
  unfold Ch.setRow
  cases s1
  · have := total_set c.now s2 L L' h
    simp only [if_false, Bool.false_eq_true]
    omega
  · have := total_set c.old s2 L L' h
    simp only [if_true]
    omega
/-- A row of a key is set. -/
theorem ChI.setRow {N M : Nat} {c : Ch} (I : ChI N c) (key : ByteArray) {L' : List Ent} (hk : ∀ e : Ent, e ∈ L' → e.1.size ≤ 1000) {m : Nat} (hm : m + (c.row (c.sel key)).length = c.len + L'.length) (hM : m ≤ M) :
    ChI M { c.setRow (c.sel key) L' with len := m } := by
  have hrow := pos_row c key I.n0
  have q := setRow_len c (c.sel key) L'
  have t := total_setRow (L' := L') hrow
  have tot := I.tot
  refine ⟨by simp only; rw [q.1]; exact I.n0, by simp only; rw [q.1]; exact I.n1, by simp only; rw [q.2.1]; exact I.o1, fun h => by simp only at h ⊢; rw [q.2.2.1]; exact I.m0 (by rw [← q.2.1]; exact h),
    fun h => by simp only at h ⊢; rw [q.2.2.1, q.2.1]; exact I.mv (by rw [← q.2.1]; exact h), fun i L hi hL => ?_, by simp only; omega, hM, fun L hL e he => ?_⟩
  · simp only at hi hL
    rw [q.2.2.1] at hi
    have hs := rows_set c (c.sel key) L' true
    have hL : ((c.setRow (c.sel key) L').rows true)[i]? = some L := hL
    rw [hs] at hL
    have : ¬ (true = (c.sel key).1 ∧ i = (c.sel key).2) := fun z => by
      have hz := z.1
      have hi2 := z.2
      unfold Ch.sel at hz hi2
      split at hz
      · rename_i w
        rw [if_pos w] at hi2
        have := w.2
        omega
      · cases hz
    split at hL
    · rename_i h1
      rw [List.getElem?_set_ne (fun z => this ⟨h1, z.symm⟩)] at hL
      exact I.emp i L hi hL
    · exact I.emp i L hi hL
  · obtain ⟨s, i, hi⟩ := mem_rows.1 hL
    have hi : ((c.setRow (c.sel key) L').rows s)[i]? = some L := hi
    rw [rows_set] at hi
    by_cases h1 : s = (c.sel key).1
    · rw [if_pos h1] at hi
      by_cases hj : (c.sel key).2 = i
      · subst hj
        rw [h1, List.getElem?_set_self (sel_lt I.n0 key)] at hi
        cases hi
        exact hk e he
      · rw [List.getElem?_set_ne hj] at hi
        exact I.keys L (mem_rows.2 ⟨s, i, hi⟩) e he
    · rw [if_neg h1] at hi
      exact I.keys L (mem_rows.2 ⟨s, i, hi⟩) e he
theorem row_keys {N : Nat} {c : Ch} (I : ChI N c) (key : ByteArray) : ∀ e : Ent, e ∈ c.row (c.sel key) → e.1.size ≤ 1000 := I.keys _ (mem_rows.2 ⟨_, _, pos_row c key I.n0⟩)
theorem ChI.mono {N M : Nat} {c : Ch} (I : ChI N c) (h : N ≤ M) : ChI M c := ⟨I.n0, I.n1, I.o1, I.m0, I.mv, I.emp, I.tot, Nat.le_trans I.len h, I.keys⟩
theorem ChI.grow {N : Nat} {c : Ch} (I : ChI N c) : ChI N c.grow := by
  unfold Ch.grow
  split
  · rename_i h
    have n0 := I.n0
    have tot := I.tot
    have z : total c.old = 0 := by
      have : c.old = [] := List.eq_nil_of_length_eq_zero h.1
      rw [this]; rfl
    refine ⟨by simp; omega, by simp; omega, I.n1, fun q => I.m0 h.1, fun _ => ?_, fun i L hi _ => ?_, by simp only [total_rep]; omega, I.len, fun L hL e he => ?_⟩
    · have := I.m0 h.1
      simp only
      omega
    · have := I.m0 h.1
      simp only at hi
      omega
    · rcases List.mem_append.1 hL with q | q
      · have := List.eq_of_mem_replicate q
        subst this
        cases he
      · exact I.keys L (List.mem_append.2 (.inl q)) e he
  · exact I
theorem ChI.put {N : Nat} {c : Ch} (I : ChI N c) {key : ByteArray} (hk : key.size ≤ 1000) (n : Int) : ChI (N + 1) (c.put key n).2 := by
  have I1 := I.step
  unfold Ch.put
  generalize c.step = c1 at I1
  unfold Ch.put1
  have rk := row_keys I1 key
  have tot := I1.len
  split
  · rename_i i hf
    have z : ChI (N + 1) { c1.setRow (c1.sel key) ((c1.row (c1.sel key)).set i (key, n)) with len := c1.len } := ChI.setRow I1 key (L' := (c1.row (c1.sel key)).set i (key, n)) (m := c1.len) (M := N + 1) (fun e he => by
      rcases List.mem_or_eq_of_mem_set he with q | rfl
      · exact rk e q
      · exact hk) (by rw [List.length_set]) (by omega)
    have e := (setRow_len c1 (c1.sel key) ((c1.row (c1.sel key)).set i (key, n))).2.2.2
    have : ({ c1.setRow (c1.sel key) ((c1.row (c1.sel key)).set i (key, n)) with len := c1.len } : Ch) = c1.setRow (c1.sel key) ((c1.row (c1.sel key)).set i (key, n)) := by
      rw [← e]
    rw [this] at z
    exact z
  · refine ChI.grow ?_
    refine ChI.setRow I1 key (L' := c1.row (c1.sel key) ++ [(key, n)]) (m := c1.len + 1) (fun e he => ?_) (by rw [List.length_append, List.length_singleton]; omega) (by omega)
    rcases List.mem_append.1 he with q | q
    · exact rk e q
    · rw [List.mem_singleton.1 q]; exact hk
theorem swapOut_mem {L : List Ent} {i : Nat} {e : Ent} (h : e ∈ swapOut L i) : e ∈ L := by
  unfold swapOut at h
  have h := List.mem_of_mem_take h
  rcases List.mem_or_eq_of_mem_set h with q | rfl
  · exact q
  · cases hq : L[L.length - 1]? with
    | none =>
      have := List.getElem?_eq_none_iff.1 hq
      have : L = [] := List.eq_nil_of_length_eq_zero (by omega)
      subst this
      simp at h
    | some x => exact List.mem_of_getElem? hq
theorem found_pos {N : Nat} {c : Ch} (I : ChI N c) {key : ByteArray} {i : Nat} (hf : findE key (c.row (c.sel key)) = some i) : i < (c.row (c.sel key)).length ∧ 0 < c.len := by
  obtain ⟨e, he, _⟩ := findE_lt hf
  have h1 := (List.getElem?_eq_some_iff.1 he).1
  have h2 := total_setRow (L' := []) (pos_row c key I.n0)
  have tot := I.tot
  simp at h2
  exact ⟨h1, by omega⟩
theorem ChI.drop {N : Nat} {c : Ch} (I : ChI N c) (key : ByteArray) : ChI N (c.drop key).2 := by
  have I1 := I.step
  unfold Ch.drop
  generalize c.step = c1 at I1
  unfold Ch.drop1
  have rk := row_keys I1 key
  have tot := I1.len
  split
  · rename_i i hf
    obtain ⟨h1, h2⟩ := found_pos I1 hf
    exact ChI.setRow I1 key (L' := swapOut (c1.row (c1.sel key)) i) (m := c1.len - 1) (fun e he => rk e (swapOut_mem he)) (by rw [swapOut_len h1]; omega) (by omega)
  · exact I1
end Go.Proofs.Ytelnkdgpghndgaa
/- chain.Chain is a map. -/
namespace Go.Proofs.Ytelnkdgpghndgaa
open Go Go.YtelnkdgpghndgaaAbs
set_option linter.unusedSimpArgs false
set_option linter.unusedVariables false
set_option maxRecDepth 4000

/-- What a row has at a key. -/
def lookR (k : ByteArray) : List Ent → Option Int
  | [] => none
  | e :: L => if e.1 = k then some e.2 else lookR k L
theorem look_find (k : ByteArray) : ∀ L : List Ent, (findE k L).bind (fun i => (L[i]?).map (·.2)) = lookR k L
  | [] => rfl
  | e :: L => by
    simp only [findE, lookR]
    split
    · rfl
    · rw [← look_find k L]
      cases findE k L <;> simp
theorem get_look (c : Ch) (k : ByteArray) : c.get k = lookR k (c.row (c.sel k)) := look_find k _
theorem look_none {k : ByteArray} : ∀ {L : List Ent}, lookR k L = none ↔ ∀ e : Ent, e ∈ L → e.1 ≠ k
  | [] => by simp [lookR]
  | e :: L => by
    simp only [lookR]
    split
    · rename_i h; simp [h]
    · rename_i h
      rw [look_none (L := L)]
      simp [h]
theorem find_none {k : ByteArray} : ∀ {L : List Ent}, findE k L = none ↔ lookR k L = none
  | [] => by simp [findE, lookR]
  | e :: L => by
    simp only [findE, lookR]
    split
    · simp
    · rw [Option.map_eq_none_iff]; exact find_none
theorem look_append (k : ByteArray) : ∀ L M : List Ent, lookR k (L ++ M) = (lookR k L).or (lookR k M)
  | [], M => by simp [lookR]
  | e :: L, M => by
    simp only [List.cons_append, lookR]
    split
    · rfl
    · exact look_append k L M
theorem look_filter (k : ByteArray) (p : Ent → Bool) : ∀ L : List Ent, (∀ e : Ent, e ∈ L → e.1 = k → p e = true) → lookR k (L.filter p) = lookR k L
  | [], h => rfl
  | e :: L, h => by
    have ih := look_filter k p L (fun x hx => h x (by simp [hx]))
    by_cases hk : e.1 = k
    · rw [List.filter_cons_of_pos (h e (by simp) hk)]
      simp [lookR, hk]
    · by_cases hp : p e = true
      · rw [List.filter_cons_of_pos hp]
        simp [lookR, hk, ih]
      · rw [List.filter_cons_of_neg hp]
        simp [lookR, hk, ih]
/-- No key twice. -/
def Uniq (L : List Ent) : Prop := (L.map (·.1)).Nodup
theorem look_mem {k : ByteArray} {v : Int} : ∀ {L : List Ent}, Uniq L → (lookR k L = some v ↔ (k, v) ∈ L)
  | [], h => by simp [lookR]
  | e :: L, h => by
    unfold Uniq at h
    rw [List.map_cons, List.nodup_cons] at h
    simp only [lookR]
    split
    · rename_i hk
      constructor
      · intro q
        have q := Option.some.inj q
        subst hk; subst q
        simp
      · intro q
        rcases List.mem_cons.1 q with q | q
        · rw [← q]
        · exact absurd (List.mem_map.2 ⟨_, q, rfl⟩) (by rw [← hk]; exact h.1)
    · rename_i hk
      rw [look_mem (L := L) h.2]
      constructor
      · intro q; exact List.mem_cons_of_mem _ q
      · intro q
        rcases List.mem_cons.1 q with q | q
        · exact absurd (by rw [← q]) hk
        · exact q
theorem look_ext {L M : List Ent} (hL : Uniq L) (hM : Uniq M) {k k' : ByteArray} (h : ∀ v, (k, v) ∈ L ↔ (k', v) ∈ M) : lookR k L = lookR k' M := by
  refine Option.ext fun v => ?_
  have h1 := look_mem (k := k) (v := v) hL
  have h2 := look_mem (k := k') (v := v) hM
  exact h1.trans ((h v).trans h2.symm)
theorem uniq_set {L : List Ent} {i : Nat} {e : Ent} {n : Int} (h : Uniq L) (he : L[i]? = some e) : Uniq (L.set i (e.1, n)) := by
  unfold Uniq at *
  rw [List.map_set]
  have : (L.map (·.1)).set i e.1 = L.map (·.1) := cset_same (by rw [List.getElem?_map, he]; rfl)
  rw [this]
  exact h
theorem look_set {k : ByteArray} {n : Int} : ∀ {L : List Ent} {i : Nat} {e : Ent}, L[i]? = some e → e.1 = k → findE k L = some i → ∀ k', lookR k' (L.set i (k, n)) = if k' = k then some n else lookR k' L
  | [], i, e, he, hk, hf, k' => by simp at he
  | x :: L, 0, e, he, hk, hf, k' => by
    simp at he
    subst he
    simp only [List.set_cons_zero, lookR]
    by_cases h : k' = k
    · subst h; simp
    · have h2 : ¬ k = k' := fun q => h q.symm
      rw [if_neg h2, if_neg h, if_neg (by rw [hk]; exact h2)]
  | x :: L, i + 1, e, he, hk, hf, k' => by
    simp only [findE] at hf
    split at hf
    · cases hf
    · rename_i hx
      rw [Option.map_eq_some_iff] at hf
      obtain ⟨j, hj, hj'⟩ := hf
      have : j = i := by omega
      subst this
      simp only [List.set_cons_succ, lookR]
      rw [look_set (by simpa using he) hk hj k']
      by_cases h : k' = k
      · subst h
        rw [if_neg hx, if_pos rfl, if_pos rfl]
      · simp [h]
/-- What is left. -/
theorem swapOut_get {L : List Ent} {i : Nat} (h : i < L.length) {m : Nat} (hm : m < L.length - 1) : (swapOut L i)[m]? = if m = i then L[L.length - 1]? else L[m]? := by
  unfold swapOut
  obtain ⟨x, hx⟩ : ∃ x, L[L.length - 1]? = some x := ⟨L[L.length - 1]'(by omega), by simp⟩
  rw [hx, Option.getD_some, List.getElem?_take, if_pos hm]
  by_cases hmi : m = i
  · subst hmi
    rw [if_pos rfl, List.getElem?_set_self h]
  · rw [if_neg hmi, List.getElem?_set_ne (Ne.symm hmi)]
theorem swapOut_mem_iff {L : List Ent} {i : Nat} (h : i < L.length) (e : Ent) : e ∈ swapOut L i ↔ ∃ j, j ≠ i ∧ L[j]? = some e := by
  have hl := swapOut_len h
  constructor
  · intro he
    obtain ⟨m, hm⟩ := List.getElem?_of_mem he
    have hml := (List.getElem?_eq_some_iff.1 hm).1
    rw [hl] at hml
    rw [swapOut_get h hml] at hm
    split at hm
    · rename_i q; exact ⟨L.length - 1, by omega, hm⟩
    · rename_i q; exact ⟨m, q, hm⟩
  · rintro ⟨j, hj, he⟩
    have hjl := (List.getElem?_eq_some_iff.1 he).1
    by_cases hjl' : j = L.length - 1
    · have hm : i < L.length - 1 := by omega
      have := swapOut_get h hm
      rw [if_pos rfl, ← hjl', he] at this
      exact List.mem_of_getElem? this
    · have hm : j < L.length - 1 := by omega
      have := swapOut_get h hm
      rw [if_neg hj, he] at this
      exact List.mem_of_getElem? this
theorem uniq_idx {L : List Ent} (h : Uniq L) {i j : Nat} {e e' : Ent} (hi : L[i]? = some e) (hj : L[j]? = some e') (hk : e.1 = e'.1) : i = j := by
  have h1 : (L.map (·.1))[i]? = some e.1 := by rw [List.getElem?_map, hi]; rfl
  have h2 : (L.map (·.1))[j]? = some e.1 := by rw [List.getElem?_map, hj, hk]; rfl
  have := (List.getElem?_eq_some_iff.1 h1).1
  exact (List.getElem?_inj this h).1 (h1.trans h2.symm)
theorem uniq_swap {L : List Ent} {i : Nat} (h : Uniq L) (hi : i < L.length) : Uniq (swapOut L i) := by
  unfold Uniq List.Nodup
  rw [List.pairwise_iff_getElem]
  intro a b ha hb hab q
  have q : ((swapOut L i).map (·.1))[a]? = ((swapOut L i).map (·.1))[b]? := by rw [List.getElem?_eq_getElem ha, List.getElem?_eq_getElem hb, q]
  rw [List.length_map, swapOut_len hi] at ha hb
  rw [List.getElem?_map, List.getElem?_map, swapOut_get hi ha, swapOut_get hi hb] at q
  have key : ∀ x y, x ≠ y → x < L.length → y < L.length → (L[x]?).map (·.1) ≠ (L[y]?).map (·.1) := fun x y hxy hx hy q => by
    rw [List.getElem?_eq_getElem hx, List.getElem?_eq_getElem hy] at q
    simp at q
    exact hxy (uniq_idx h (List.getElem?_eq_getElem hx) (List.getElem?_eq_getElem hy) q)
  by_cases ha' : a = i
  · rw [if_pos ha', if_neg (by omega)] at q
    exact key _ _ (by omega) (by omega) (by omega) q
  · rw [if_neg ha'] at q
    by_cases hb' : b = i
    · rw [if_pos hb'] at q; exact key _ _ (by omega) (by omega) (by omega) q
    · rw [if_neg hb'] at q; exact key _ _ (by omega) (by omega) (by omega) q
theorem look_swap {L : List Ent} {i : Nat} {e : Ent} (h : Uniq L) (he : L[i]? = some e) (k : ByteArray) : lookR k (swapOut L i) = if k = e.1 then none else lookR k L := by
  have hi := (List.getElem?_eq_some_iff.1 he).1
  by_cases hk : k = e.1
  · rw [if_pos hk, look_none]
    intro x hx q
    obtain ⟨j, hj, hx⟩ := (swapOut_mem_iff hi x).1 hx
    exact hj (uniq_idx h hx he (q.trans hk))
  · rw [if_neg hk]
    refine look_ext (uniq_swap h hi) h fun v => ?_
    rw [swapOut_mem_iff hi]
    constructor
    · rintro ⟨j, _, q⟩; exact List.mem_of_getElem? q
    · intro q
      obtain ⟨j, hj⟩ := List.getElem?_of_mem q
      exact ⟨j, fun z => hk (by subst z; rw [he] at hj; rw [Option.some.inj hj]), hj⟩

/-- Each key in its row; none twice. -/
structure ChM (c : Ch) : Prop where
  pn : ∀ (i : Nat) L, c.now[i]? = some L → ∀ e : Ent, e ∈ L → hsh e.1 % c.now.length = i ∧ (c.old.length ≠ 0 → hsh e.1 % c.old.length < c.moved)
  po : ∀ (i : Nat) L, c.old[i]? = some L → ∀ e : Ent, e ∈ L → hsh e.1 % c.old.length = i
  un : ∀ L, L ∈ c.now ++ c.old → Uniq L
theorem ChM.new : ChM .new := by
  have e : ∀ L, L ∈ Ch.new.now ++ Ch.new.old → L = [] := fun L hL => by simpa [Ch.new] using hL
  refine ⟨fun i L hL x hx => ?_, fun i L hL x hx => ?_, fun L hL => ?_⟩
  · have := e L (List.mem_append.2 (.inl (List.mem_of_getElem? hL))); subst this; cases hx
  · have := e L (List.mem_append.2 (.inr (List.mem_of_getElem? hL))); subst this; cases hx
  · have := e L hL; subst this; exact List.nodup_nil
/-- Where the moved ones go. -/
theorem moves_row : ∀ (l : List Ent) (now : List (List Ent)) (j : Nat), (l.foldl move1 now)[j]? = (now[j]?).map fun L => L ++ l.filter fun e => hsh e.1 % now.length == j
  | [], now, j => by simp
  | e :: l, now, j => by
    rw [List.foldl_cons, moves_row l, move1_len]
    by_cases hj : hsh e.1 % now.length = j
    · subst hj
      by_cases hl : hsh e.1 % now.length < now.length
      · unfold move1
        rw [List.getElem?_set_self hl, List.getElem?_eq_getElem hl]
        simp
      · unfold move1
        rw [List.getElem?_eq_none (by rw [List.length_set]; omega), List.getElem?_eq_none (by omega)]
        rfl
    · unfold move1
      rw [List.getElem?_set_ne hj, List.filter_cons_of_neg (by simpa using hj)]
theorem or_none {α : Type} (a : Option α) : a.or none = a := by cases a <;> rfl
/-- A step changes nothing that is told. -/
theorem step_get {N : Nat} {c : Ch} (I : ChI N c) (M : ChM c) (k : ByteArray) : c.step.get k = c.get k := by
  unfold Ch.step
  by_cases h0 : c.old.length = 0
  · rw [if_pos h0]
  · rw [if_neg h0]
    have hm := I.mv h0
    have n0 := I.n0
    obtain ⟨l, hl⟩ : ∃ l, c.old[c.moved]? = some l := ⟨c.old[c.moved], by simp [hm]⟩
    rw [hl, Option.getD_some]
    have hmod := Nat.mod_lt (hsh k) (Nat.pos_of_ne_zero h0)
    have hmodn := Nat.mod_lt (hsh k) n0
    obtain ⟨r, hr⟩ : ∃ r, c.now[hsh k % c.now.length]? = some r := ⟨c.now[hsh k % c.now.length], by simp [hmodn]⟩
    have nrow := moves_row l c.now (hsh k % c.now.length)
    rw [hr, Option.map_some] at nrow
    have nlen := moves_len l c.now
    -- what stands in the new row
    have lnew : lookR k (r ++ l.filter fun e => hsh e.1 % c.now.length == hsh k % c.now.length) = (lookR k r).or (lookR k l) := by
      rw [look_append, look_filter k _ l fun e _ hek => by rw [hek]; simp]
    have lr : c.moved ≤ hsh k % c.old.length → lookR k r = none := fun q => look_none.2 fun e he hek => by
      have := (M.pn _ r hr e he).2 h0
      rw [hek] at this
      omega
    have ll : hsh k % c.old.length ≠ c.moved → lookR k l = none := fun q => look_none.2 fun e he hek => by
      have := M.po _ l hl e he
      rw [hek] at this
      exact q this
    have nowR : ∀ (o : List (List Ent)) (mv ln : Nat), (0 < o.length → hsh k % o.length < mv) → (Ch.mk (l.foldl move1 c.now) o mv ln).get k = (lookR k r).or (lookR k l) := fun o mv ln q => by
      rw [get_look]
      unfold Ch.sel
      rw [if_neg (fun z => by have := q z.1; have := z.2; simp only at *; omega)]
      unfold Ch.row Ch.rows
      simp only [if_false, Bool.false_eq_true]
      rw [nlen, nrow, Option.getD_some, lnew]
    have was : hsh k % c.old.length < c.moved → c.get k = lookR k r := fun q => by
      rw [get_look]
      unfold Ch.sel
      rw [if_neg (fun z => by omega)]
      unfold Ch.row Ch.rows
      simp only [if_false, Bool.false_eq_true]
      rw [hr, Option.getD_some]
    have wasO : c.moved ≤ hsh k % c.old.length → c.get k = lookR k ((c.old[hsh k % c.old.length]?).getD []) := fun q => by
      rw [get_look]
      unfold Ch.sel
      rw [if_pos ⟨Nat.pos_of_ne_zero h0, q⟩]
      rfl
    by_cases h1 : c.moved + 1 = c.old.length
    · rw [if_pos h1, nowR [] 0 c.len (fun q => absurd q (Nat.lt_irrefl _))]
      by_cases h2 : c.moved ≤ hsh k % c.old.length
      · have : hsh k % c.old.length = c.moved := by omega
        rw [wasO h2, this, hl, Option.getD_some, lr h2]
        rfl
      · rw [was (by omega), ll (by omega), or_none]
    · rw [if_neg h1]
      by_cases h2 : c.moved + 1 ≤ hsh k % c.old.length
      · rw [wasO (by omega), get_look]
        unfold Ch.sel
        rw [if_pos ⟨by simp; omega, by simpa using h2⟩]
        unfold Ch.row Ch.rows
        simp only [if_true, List.length_set]
        rw [List.getElem?_set_ne (by omega)]
      · rw [nowR (c.old.set c.moved []) (c.moved + 1) c.len (fun _ => by rw [List.length_set]; omega)]
        by_cases h3 : c.moved ≤ hsh k % c.old.length
        · have : hsh k % c.old.length = c.moved := by omega
          rw [wasO h3, this, hl, Option.getD_some, lr h3]
          rfl
        · rw [was (by omega), ll (by omega), or_none]
theorem uniq_append {L M : List Ent} (hL : Uniq L) (hM : Uniq M) (h : ∀ e : Ent, e ∈ L → ∀ e' : Ent, e' ∈ M → e.1 ≠ e'.1) : Uniq (L ++ M) := by
  unfold Uniq
  rw [List.map_append, List.nodup_append]
  refine ⟨hL, hM, fun a ha b hb => ?_⟩
  obtain ⟨e, he, rfl⟩ := List.mem_map.1 ha
  obtain ⟨e', he', rfl⟩ := List.mem_map.1 hb
  exact h e he e' he'
theorem ChM.step {N : Nat} {c : Ch} (I : ChI N c) (M : ChM c) : ChM c.step := by
  unfold Ch.step
  by_cases h0 : c.old.length = 0
  · rw [if_pos h0]; exact M
  · rw [if_neg h0]
    have hm := I.mv h0
    obtain ⟨l, hl⟩ : ∃ l, c.old[c.moved]? = some l := ⟨c.old[c.moved], by simp [hm]⟩
    rw [hl, Option.getD_some]
    have nlen := moves_len l c.now
    have newP : ∀ (i : Nat) L, (l.foldl move1 c.now)[i]? = some L → ∃ r, c.now[i]? = some r ∧ L = r ++ l.filter fun e => hsh e.1 % c.now.length == i := fun i L hL => by
      rw [moves_row] at hL
      rw [Option.map_eq_some_iff] at hL
      obtain ⟨r, h1, h2⟩ := hL
      exact ⟨r, h1, h2.symm⟩
    have ul : Uniq l := M.un l (List.mem_append.2 (.inr (List.mem_of_getElem? hl)))
    have uN : ∀ L, L ∈ l.foldl move1 c.now → Uniq L := fun L hL => by
      obtain ⟨i, hi⟩ := List.getElem?_of_mem hL
      obtain ⟨r, h1, rfl⟩ := newP i L hi
      refine uniq_append (M.un r (List.mem_append.2 (.inl (List.mem_of_getElem? h1)))) ?_ fun e he e' he' q => ?_
      · unfold Uniq
        exact List.Nodup.sublist (List.Sublist.map _ List.filter_sublist) ul
      · have a1 := (M.pn i r h1 e he).2 h0
        have a2 := M.po _ l hl e' (List.mem_filter.1 he').1
        rw [q] at a1
        omega
    have pN : ∀ (i : Nat) L, (l.foldl move1 c.now)[i]? = some L → ∀ e : Ent, e ∈ L → hsh e.1 % c.now.length = i ∧ hsh e.1 % c.old.length < c.moved + 1 := fun i L hL e he => by
      obtain ⟨r, h1, rfl⟩ := newP i L hL
      rcases List.mem_append.1 he with q | q
      · have := M.pn i r h1 e q
        exact ⟨this.1, by have := this.2 h0; omega⟩
      · obtain ⟨q1, q2⟩ := List.mem_filter.1 q
        have := M.po _ l hl e q1
        exact ⟨by simpa using q2, by omega⟩
    by_cases h1 : c.moved + 1 = c.old.length
    · rw [if_pos h1]
      refine ⟨fun i L hL e he => ?_, fun i L hL => by simp at hL, fun L hL => uN L (by simpa using hL)⟩
      simp only at hL ⊢
      rw [nlen]
      exact ⟨(pN i L hL e he).1, fun q => absurd rfl q⟩
    · rw [if_neg h1]
      refine ⟨fun i L hL e he => ?_, fun i L hL e he => ?_, fun L hL => ?_⟩
      · simp only at hL ⊢
        rw [nlen, List.length_set]
        exact ⟨(pN i L hL e he).1, fun _ => (pN i L hL e he).2⟩
      · simp only at hL ⊢
        rw [List.length_set]
        by_cases hi : i = c.moved
        · subst hi
          rw [List.getElem?_set_self hm] at hL
          cases hL; cases he
        · rw [List.getElem?_set_ne (Ne.symm hi)] at hL
          exact M.po i L hL e he
      · rcases List.mem_append.1 hL with q | q
        · exact uN L q
        · rcases List.mem_or_eq_of_mem_set q with q | rfl
          · exact M.un L (List.mem_append.2 (.inr q))
          · exact List.nodup_nil
/-- A row is set: what is told then. -/
theorem setRow_get {c : Ch} (n0 : 0 < c.now.length) (key : ByteArray) (L' : List Ent) (m : Nat) (k : ByteArray) :
    (Ch.mk (c.setRow (c.sel key) L').now (c.setRow (c.sel key) L').old (c.setRow (c.sel key) L').moved m).get k = if c.sel k = c.sel key then lookR k L' else c.get k := by
  have q := setRow_len c (c.sel key) L'
  rw [get_look, get_look]
  have hs : (Ch.mk (c.setRow (c.sel key) L').now (c.setRow (c.sel key) L').old (c.setRow (c.sel key) L').moved m).sel k = c.sel k := by
    generalize c.sel key = s at *
    unfold Ch.sel
    simp only [q.1, q.2.1, q.2.2.1]
  rw [hs]
  have hr : ∀ t, (Ch.mk (c.setRow (c.sel key) L').now (c.setRow (c.sel key) L').old (c.setRow (c.sel key) L').moved m).rows t = if t = (c.sel key).1 then (c.rows t).set (c.sel key).2 L' else c.rows t := fun t => by
    rw [← rows_set]; rfl
  unfold Ch.row
  rw [hr]
  by_cases h : c.sel k = c.sel key
  · rw [if_pos h, h, if_pos rfl, List.getElem?_set_self (sel_lt n0 key), Option.getD_some]
  · rw [if_neg h]
    by_cases h1 : (c.sel k).1 = (c.sel key).1
    · rw [if_pos h1, List.getElem?_set_ne (fun z => h (Prod.ext h1 z.symm))]
    · rw [if_neg h1]
theorem setRow_ChM {c : Ch} (n0 : 0 < c.now.length) (M : ChM c) (key : ByteArray) {L' : List Ent} (m : Nat) (hu : Uniq L') (hp : ∀ e : Ent, e ∈ L' → e ∈ c.row (c.sel key) ∨ e.1 = key ∨ ∃ e', e' ∈ c.row (c.sel key) ∧ e'.1 = e.1) :
    ChM (Ch.mk (c.setRow (c.sel key) L').now (c.setRow (c.sel key) L').old (c.setRow (c.sel key) L').moved m) := by
  have q := setRow_len c (c.sel key) L'
  have hrow := pos_row c key n0
  have get : ∀ t (i : Nat) L, (Ch.mk (c.setRow (c.sel key) L').now (c.setRow (c.sel key) L').old (c.setRow (c.sel key) L').moved m).rows t = (c.setRow (c.sel key) L').rows t ∧ (((c.setRow (c.sel key) L').rows t)[i]? = some L → (t = (c.sel key).1 ∧ i = (c.sel key).2 ∧ L = L') ∨ (c.rows t)[i]? = some L) := fun t i L => ⟨rfl, fun hL => by
    rw [rows_set] at hL
    by_cases h1 : t = (c.sel key).1
    · rw [if_pos h1] at hL
      by_cases h2 : i = (c.sel key).2
      · subst h2
        rw [h1, List.getElem?_set_self (sel_lt n0 key)] at hL
        exact .inl ⟨h1, rfl, (Option.some.inj hL).symm⟩
      · rw [List.getElem?_set_ne (Ne.symm h2)] at hL
        exact .inr hL
    · rw [if_neg h1] at hL
      exact .inr hL⟩
  have place : ∀ e : Ent, e ∈ L' → ∃ k : ByteArray, k = e.1 ∧ (k = key ∨ ∃ e', e' ∈ c.row (c.sel key) ∧ e'.1 = k) := fun e he => by
    rcases hp e he with z | z | ⟨e', z1, z2⟩
    · exact ⟨e.1, rfl, .inr ⟨e, z, rfl⟩⟩
    · exact ⟨e.1, rfl, .inl z⟩
    · exact ⟨e.1, rfl, .inr ⟨e', z1, z2⟩⟩
  refine ⟨fun i L hL e he => ?_, fun i L hL e he => ?_, fun L hL => ?_⟩
  · simp only [q.1, q.2.1, q.2.2.1]
    have hL : ((c.setRow (c.sel key) L').rows false)[i]? = some L := hL
    rcases (get false i L).2 hL with ⟨h1, h2, rfl⟩ | h
    · obtain ⟨k, rfl, hk⟩ := place e he
      rcases hk with hk | ⟨e', hk1, hk2⟩
      · rw [hk]
        unfold Ch.sel at h1 h2
        split at h1
        · cases h1
        · rename_i hs
          rw [if_neg hs] at h2
          exact ⟨h2.symm, fun z => by
            have : 0 < c.old.length := by omega
            have : ¬ c.moved ≤ hsh key % c.old.length := fun w => hs ⟨this, w⟩
            omega⟩
      · have hrow' : c.now[(c.sel key).2]? = some (c.row (c.sel key)) := by rw [← h1] at hrow; exact hrow
        have := M.pn _ _ hrow' e' hk1
        rw [hk2, ← h2] at this
        exact this
    · exact M.pn i L h e he
  · simp only [q.2.1]
    have hL : ((c.setRow (c.sel key) L').rows true)[i]? = some L := hL
    rcases (get true i L).2 hL with ⟨h1, h2, rfl⟩ | h
    · obtain ⟨k, rfl, hk⟩ := place e he
      rcases hk with hk | ⟨e', hk1, hk2⟩
      · rw [hk]
        unfold Ch.sel at h1 h2
        split at h1
        · rename_i hs
          rw [if_pos hs] at h2
          exact h2.symm
        · cases h1
      · have hrow' : c.old[(c.sel key).2]? = some (c.row (c.sel key)) := by rw [← h1] at hrow; exact hrow
        have := M.po _ _ hrow' e' hk1
        rw [hk2, ← h2] at this
        exact this
    · exact M.po i L h e he
  · obtain ⟨t, i, hi⟩ := mem_rows.1 hL
    have hi : ((c.setRow (c.sel key) L').rows t)[i]? = some L := hi
    rcases (get t i L).2 hi with ⟨_, _, rfl⟩ | h
    · exact hu
    · exact M.un L (mem_rows.2 ⟨t, i, h⟩)
theorem rep_none (n i : Nat) : ((List.replicate n ([] : List Ent))[i]?).getD [] = [] := by
  rw [List.getElem?_replicate]; split <;> rfl
theorem grow_get {N : Nat} {c : Ch} (I : ChI N c) (k : ByteArray) : c.grow.get k = c.get k := by
  unfold Ch.grow
  split
  · rename_i h
    have n0 := I.n0
    have hm := I.m0 h.1
    rw [get_look, get_look]
    have h1 : (Ch.mk (List.replicate (2 * c.now.length) []) c.now c.moved c.len).sel k = (true, hsh k % c.now.length) := by
      unfold Ch.sel
      rw [if_pos ⟨n0, by simp only; omega⟩]
    have h2 : c.sel k = (false, hsh k % c.now.length) := by
      unfold Ch.sel
      rw [if_neg (fun z => by omega)]
    rw [h1, h2]
    rfl
  · rfl
theorem ChM.grow {N : Nat} {c : Ch} (I : ChI N c) (M : ChM c) : ChM c.grow := by
  unfold Ch.grow
  split
  · refine ⟨fun i L hL e he => ?_, fun i L hL e he => (M.pn i L hL e he).1, fun L hL => ?_⟩
    · have := List.eq_of_mem_replicate (List.mem_of_getElem? hL)
      subst this; cases he
    · rcases List.mem_append.1 hL with q | q
      · have := List.eq_of_mem_replicate q
        subst this; exact List.nodup_nil
      · exact M.un L (List.mem_append.2 (.inl q))
  · exact M

/-- Put. -/
theorem put_map {N : Nat} {c : Ch} (I : ChI N c) (M : ChM c) {key : ByteArray} (hk : key.size ≤ 1000) (n : Int) :
    (c.put key n).1 = (c.get key).isNone ∧ ChM (c.put key n).2 ∧ ∀ k, (c.put key n).2.get k = if k = key then some n else c.get k := by
  have I1 := I.step
  have M1 := M.step I
  have G := step_get I M
  unfold Ch.put
  have key0 : ∀ k, c.get k = c.step.get k := fun k => (G k).symm
  simp only [key0]
  clear key0 G
  generalize c.step = c1 at *
  have n0 := I1.n0
  have hrow := pos_row c1 key n0
  have hu : Uniq (c1.row (c1.sel key)) := M1.un _ (mem_rows.2 ⟨_, _, hrow⟩)
  unfold Ch.put1
  cases hf : findE key (c1.row (c1.sel key)) with
  | some i =>
    obtain ⟨e, he, hek⟩ := findE_lt hf
    simp only
    have hsome : c1.get key ≠ none := by
      rw [get_look]
      intro q
      rw [find_none.2 q] at hf; cases hf
    have e1 : c1.setRow (c1.sel key) ((c1.row (c1.sel key)).set i (key, n)) = Ch.mk (c1.setRow (c1.sel key) ((c1.row (c1.sel key)).set i (key, n))).now (c1.setRow (c1.sel key) ((c1.row (c1.sel key)).set i (key, n))).old (c1.setRow (c1.sel key) ((c1.row (c1.sel key)).set i (key, n))).moved (c1.setRow (c1.sel key) ((c1.row (c1.sel key)).set i (key, n))).len := rfl
    refine ⟨?_, ?_, fun k => ?_⟩
    · cases hg : c1.get key with
      | none => exact absurd hg hsome
      | some x => rfl
    · rw [e1]
      refine setRow_ChM n0 M1 key _ (by have := uniq_set (n := n) hu he; rw [hek] at this; exact this) fun x hx => ?_
      rcases List.mem_or_eq_of_mem_set hx with q | rfl
      · exact .inl q
      · exact .inr (.inl rfl)
    · rw [e1, setRow_get n0 key]
      have ls := look_set (n := n) he hek hf k
      by_cases hs : c1.sel k = c1.sel key
      · rw [if_pos hs, ls]
        by_cases hkk : k = key
        · rw [if_pos hkk, if_pos hkk]
        · rw [if_neg hkk, if_neg hkk, get_look, hs]
      · rw [if_neg hs, if_neg (fun q => hs (by rw [q]))]
  | none =>
    simp only
    have hnone := find_none.1 hf
    have hadd : c1.add key n = Ch.mk (c1.setRow (c1.sel key) (c1.row (c1.sel key) ++ [(key, n)])).now (c1.setRow (c1.sel key) (c1.row (c1.sel key) ++ [(key, n)])).old (c1.setRow (c1.sel key) (c1.row (c1.sel key) ++ [(key, n)])).moved (c1.len + 1) := rfl
    have rk := row_keys I1 key
    have I2 : ChI (N + 1) (c1.add key n) := ChI.setRow I1 key (L' := c1.row (c1.sel key) ++ [(key, n)]) (m := c1.len + 1) (fun e he => by
      rcases List.mem_append.1 he with q | q
      · exact rk e q
      · rw [List.mem_singleton.1 q]; exact hk) (by rw [List.length_append, List.length_singleton]; omega) (by have := I1.len; omega)
    have M2 : ChM (c1.add key n) := by
      rw [hadd]
      refine setRow_ChM n0 M1 key _ (uniq_append hu (by simp [Uniq]) fun e he e' he' q => ?_) fun x hx => ?_
      · rw [List.mem_singleton.1 he'] at q
        exact look_none.1 hnone e he q
      · rcases List.mem_append.1 hx with q | q
        · exact .inl q
        · rw [List.mem_singleton.1 q]; exact .inr (.inl rfl)
    refine ⟨?_, M2.grow I2, fun k => ?_⟩
    · rw [get_look, hnone]; rfl
    · rw [grow_get I2, hadd, setRow_get n0 key]
      by_cases hs : c1.sel k = c1.sel key
      · rw [if_pos hs, look_append, get_look, hs]
        by_cases hkk : k = key
        · subst hkk; rw [if_pos rfl, hnone]; simp [lookR]
        · rw [if_neg hkk]
          have : ¬ key = k := fun q => hkk q.symm
          simp [lookR, this]
      · rw [if_neg hs, if_neg (fun q => hs (by rw [q]))]
/-- Drop. -/
theorem drop_map {N : Nat} {c : Ch} (I : ChI N c) (M : ChM c) (key : ByteArray) :
    (c.drop key).1 = (c.get key).isSome ∧ ChM (c.drop key).2 ∧ ∀ k, (c.drop key).2.get k = if k = key then none else c.get k := by
  have I1 := I.step
  have M1 := M.step I
  have G := step_get I M
  unfold Ch.drop
  have key0 : ∀ k, c.get k = c.step.get k := fun k => (G k).symm
  simp only [key0]
  clear key0 G
  generalize c.step = c1 at *
  have n0 := I1.n0
  have hrow := pos_row c1 key n0
  have hu : Uniq (c1.row (c1.sel key)) := M1.un _ (mem_rows.2 ⟨_, _, hrow⟩)
  unfold Ch.drop1
  cases hf : findE key (c1.row (c1.sel key)) with
  | some i =>
    obtain ⟨e, he, hek⟩ := findE_lt hf
    have hi := (List.getElem?_eq_some_iff.1 he).1
    simp only
    refine ⟨?_, ?_, fun k => ?_⟩
    · cases hg : c1.get key with
      | none => rw [get_look] at hg; rw [find_none.2 hg] at hf; cases hf
      | some x => rfl
    · exact setRow_ChM n0 M1 key _ (uniq_swap hu hi) fun x hx => .inl (swapOut_mem hx)
    · rw [setRow_get n0 key]
      have ls := look_swap hu he k
      rw [hek] at ls
      by_cases hs : c1.sel k = c1.sel key
      · rw [if_pos hs, ls]
        by_cases hkk : k = key
        · rw [if_pos hkk, if_pos hkk]
        · rw [if_neg hkk, if_neg hkk, get_look, hs]
      · rw [if_neg hs, if_neg (fun q => hs (by rw [q]))]
  | none =>
    simp only
    have hnone := find_none.1 hf
    refine ⟨?_, M1, fun k => ?_⟩
    · rw [get_look, hnone]; rfl
    · by_cases hkk : k = key
      · subst hkk; rw [if_pos rfl, get_look, hnone]
      · rw [if_neg hkk]
theorem new_get (k : ByteArray) : Ch.new.get k = none := by
  rw [get_look]
  have h : Ch.new.sel k = (false, hsh k % 4) := rfl
  rw [h]
  have : Ch.new.row (false, hsh k % 4) = [] := rep_none 4 (hsh k % 4)
  rw [this]
  rfl
end Go.Proofs.Ytelnkdgpghndgaa
/- chain.Chain grows in time. -/
namespace Go.Proofs.Ytelnkdgpghndgaa
open Go Go.YtelnkdgpghndgaaAbs
set_option linter.unusedSimpArgs false
set_option linter.unusedVariables false
set_option maxRecDepth 4000

structure ChG (c : Ch) : Prop where
  o : c.old.length ≠ 0 → c.now.length = 2 * c.old.length ∧ c.len ≤ 2 * c.old.length + 1 + c.moved
  e : c.old.length = 0 → c.len ≤ 2 * c.now.length ∨ 4096 ≤ c.now.length
theorem ChG.new : ChG .new := ⟨fun h => absurd rfl h, fun _ => .inl (Nat.zero_le _)⟩
theorem grow_len (c : Ch) : c.grow.len = c.len := by unfold Ch.grow; split <;> rfl
theorem step_len (c : Ch) : c.step.len = c.len := by
  unfold Ch.step
  split
  · rfl
  · split <;> rfl
theorem put_len (c : Ch) (key : ByteArray) (n : Int) : (c.put key n).2.len = if (c.put key n).1 = true then c.len + 1 else c.len := by
  unfold Ch.put Ch.put1
  rw [← step_len c]
  generalize c.step = c
  split
  · simp [(setRow_len c _ _).2.2.2]
  · simp [grow_len, Ch.add]
theorem ChG.step {N : Nat} {c : Ch} (I : ChI N c) (G : ChG c) : (c.step.old.length ≠ 0 → c.step.now.length = 2 * c.step.old.length ∧ c.step.len ≤ 2 * c.step.old.length + c.step.moved) ∧
    (c.step.old.length = 0 → c.step.len ≤ 2 * c.step.now.length ∨ 4096 ≤ c.step.now.length) := by
  unfold Ch.step
  by_cases h0 : c.old.length = 0
  · rw [if_pos h0]
    exact ⟨fun q => absurd h0 q, G.e⟩
  · rw [if_neg h0]
    have hm := I.mv h0
    obtain ⟨g1, g2⟩ := G.o h0
    by_cases h1 : c.moved + 1 = c.old.length
    · rw [if_pos h1]
      refine ⟨fun q => absurd rfl q, fun _ => ?_⟩
      simp only [moves_len]
      omega
    · rw [if_neg h1]
      refine ⟨fun q => ?_, fun q => ?_⟩
      · simp only [moves_len, List.length_set]
        omega
      · simp only [List.length_set] at q
        omega
theorem ChG.put {N : Nat} {c : Ch} (I : ChI N c) (G : ChG c) (key : ByteArray) (n : Int) : ChG (c.put key n).2 := by
  obtain ⟨s1, s2⟩ := G.step I
  have n0 := I.step.n0
  unfold Ch.put Ch.put1
  generalize c.step = c at *
  split
  · rename_i i hi
    have q := setRow_len c (c.sel key) ((c.row (c.sel key)).set i (key, n))
    refine ⟨fun z => ?_, fun z => ?_⟩
    · simp only at z ⊢
      rw [q.2.1] at z
      rw [q.1, q.2.1, q.2.2.1, q.2.2.2]
      have := s1 z
      omega
    · simp only at z ⊢
      rw [q.2.1] at z
      rw [q.1, q.2.2.2]
      exact s2 z
  · have q := setRow_len c (c.sel key) (c.row (c.sel key) ++ [(key, n)])
    obtain ⟨d, hd⟩ : ∃ d, d = c.add key n := ⟨_, rfl⟩
    have d1 : d.now.length = c.now.length := by rw [hd]; exact q.1
    have d2 : d.old.length = c.old.length := by rw [hd]; exact q.2.1
    have d3 : d.moved = c.moved := by rw [hd]; exact q.2.2.1
    have d4 : d.len = c.len + 1 := by rw [hd]; rfl
    show ChG (c.add key n).grow
    rw [← hd]
    unfold Ch.grow
    split
    · rename_i g
      refine ⟨fun z => ?_, fun z => ?_⟩
      · show (List.replicate (2 * d.now.length) ([] : List Ent)).length = 2 * d.now.length ∧ d.len ≤ 2 * d.now.length + 1 + d.moved
        rw [List.length_replicate]
        have := s2 (by omega)
        omega
      · have z : d.now.length = 0 := z
        omega
    · rename_i g
      refine ⟨fun z => ?_, fun z => ?_⟩
      · have := s1 (by omega)
        omega
      · have := s2 (by omega)
        omega

/-! The keys that depotlaw6.ChainGrows puts. -/
def keyB (i : Nat) : ByteArray := ⟨⟨[UInt8.ofNat i, UInt8.ofNat (i / 256)]⟩⟩
def keyG (i : Nat) : ByteArray := ⟨⟨[107]⟩⟩ ++ keyB i
theorem keyG_size (i : Nat) : (keyG i).size = 3 := by
  unfold keyG
  rw [ByteArray.size_append]
  rfl
theorem keyG_inj {i j : Nat} (hi : i < 65536) (hj : j < 65536) (h : keyG i = keyG j) : i = j := by
  have h1 : (keyG i).data.toList = (keyG j).data.toList := by rw [h]
  simp [keyG, keyB] at h1
  have a := congrArg UInt8.toNat h1.1
  have b := congrArg UInt8.toNat h1.2
  simp at a b
  omega
/-- What is there after the first i. -/
def GotG (i : Nat) (c : Ch) : Prop := ∀ k : ByteArray, (∀ j, j < i → k = keyG j → c.get k = some (j : Int)) ∧ ((∀ j, j < i → k ≠ keyG j) → c.get k = none)
theorem GotG.put {i : Nat} {c : Ch} (hi : i < 65536) (G : GotG i c) {N : Nat} (I : ChI N c) (M : ChM c) : (c.put (keyG i) i).1 = true ∧ ChM (c.put (keyG i) i).2 ∧ GotG (i + 1) (c.put (keyG i) i).2 := by
  obtain ⟨p1, p2, p3⟩ := put_map I M (key := keyG i) (by rw [keyG_size]; omega) (i : Int)
  have n0 := (G (keyG i)).2 fun j hj q => by have := keyG_inj hi (by omega) q; omega
  refine ⟨by rw [p1, n0]; rfl, p2, fun k => ⟨fun j hj q => ?_, fun q => ?_⟩⟩
  · rw [p3]
    by_cases h : j = i
    · subst h; rw [if_pos q]
    · rw [if_neg (fun z => h (keyG_inj (by omega) hi (q.symm.trans z)))]
      exact (G k).1 j (by omega) q
  · rw [p3, if_neg (q i (by omega))]
    exact (G k).2 fun j hj => q j (by omega)
end Go.Proofs.Ytelnkdgpghndgaa
/- Rows of things of so many cells each, as arguments have them. -/
namespace Go.Proofs.Ytelnkdgpghndgaa
open Go Go.YtelnkdgpghndgaaAbs
set_option linter.unusedSimpArgs false
set_option linter.unusedVariables false

/-- A thing's cells are told by it alone. -/
structure Flat {α : Type} (K : Kind α) (f : α → List AV) : Prop where
  eq : ∀ (h : Heap) (cs : List AV) (x : α), cs.length ≤ K.sz → K.rd h cs x → cs = f x
  len : ∀ x, (f x).length = K.sz
theorem flat_int (k : IntKind) : Flat (kInt k) fun n => [.int k n] := ⟨fun _ _ _ _ r => r.1, fun _ => rfl⟩
theorem flat_str : Flat kStr fun s => [.str s] := ⟨fun _ _ _ _ r => r.1, fun _ => rfl⟩
theorem flat_bool : Flat kBool fun b => [.bool b] := ⟨fun _ _ _ _ r => r, fun _ => rfl⟩
theorem flat_nil : Flat kNil fun _ => [] := ⟨fun _ _ _ _ r => r, fun _ => rfl⟩
theorem flat_pair {α β : Type} {K : Kind α} {L : Kind β} {f : α → List AV} {g : β → List AV} (hK : Flat K f) (hL : Flat L g) : Flat (kPair K L) fun x => f x.1 ++ g x.2 := by
  refine ⟨fun h cs x hl r => ?_, fun x => by rw [List.length_append, hK.len, hL.len]; rfl⟩
  have hl : cs.length ≤ K.sz + L.sz := hl
  have r1 := hK.eq h _ _ (by rw [List.length_take]; omega) r.1
  have r2 := hL.eq h _ _ (by rw [List.length_drop]; omega) r.2
  rw [← List.take_append_drop K.sz cs, r1, r2]
theorem sla_flat {α : Type} {K : Kind α} {f : α → List AV} (F : Flat K f) (h0 : 0 < K.sz) {h : Heap} {v : AV} {xs : List α} (r : SlA K h v xs) : Sl K.sz xs.length h v (cat f xs) ∧ ∀ x, x ∈ xs → ∃ h cs, K.rd h cs x := by
  obtain ⟨c, c1, c2⟩ := r.sl
  obtain ⟨c3, c4⟩ := c2
  have key : ∀ j x, xs[j]? = some x → (c.drop (j * K.sz)).take K.sz = f x := fun j x hx => F.eq _ _ _ (by rw [List.length_take]; omega) (c4 j x hx)
  have hc : c = cat f xs := by
    refine List.ext_getElem? fun i => ?_
    by_cases hi : i < xs.length * K.sz
    · have hj : i / K.sz < xs.length := Nat.div_lt_of_lt_mul (by rw [Nat.mul_comm]; exact hi)
      have hx : xs[i / K.sz]? = some xs[i / K.sz] := by simp [hj]
      have e1 := key _ _ hx
      have e2 := cat_at F.len hx
      have e3 : i = i / K.sz * K.sz + i % K.sz := by have := Nat.div_add_mod i K.sz; rw [Nat.mul_comm] at this; omega
      have g : ∀ l : List AV, l[i]? = ((l.drop (i / K.sz * K.sz)).take K.sz)[i % K.sz]? := fun l => by
        rw [List.getElem?_take, if_pos (Nat.mod_lt _ h0), List.getElem?_drop, ← e3]
      rw [g c, g (cat f xs), e1, e2]
    · rw [List.getElem?_eq_none (by omega), List.getElem?_eq_none (by rw [cat_len F.len]; omega)]
  refine ⟨by rw [← hc]; exact c1, fun x hx => ?_⟩
  obtain ⟨j, hj⟩ := List.getElem?_of_mem hx
  exact ⟨_, _, c4 j x hj⟩
end Go.Proofs.Ytelnkdgpghndgaa
/- Contracts of slab: what it is, New. -/
namespace Go.Proofs.Ytelnkdgpghndgaa
open Go Go.YtelnkdgpghndgaaAbs
set_option linter.unusedSimpArgs false
set_option linter.unusedVariables false
set_option maxRecDepth 4000

/-- A class: also where its free list and its map stand. -/
structure Cl where
  size : Nat
  free : List Nat
  live : List (Nat × ByteArray × Nat)
  cl : Nat
  count : Nat
  fv : AV
  mb : Nat
def Cl.c (c : Cl) : List AV := [.int .i64 (c.size : Nat), c.fv, .mp c.mb, .int .i64 (c.count : Nat)]
def Cl.at (c : Cl) : List AV := [c.fv, .mp c.mb]
theorem Cl.c_len (c : Cl) : c.c.length = 4 := rfl
theorem Cl.at_len (c : Cl) : c.at.length = 2 := rfl
def nn (n : Nat) : AV := .int .i64 (n : Nat)
def me (x : Nat × ByteArray × Nat) : AV × AV × Nat := (.int .i64 (x.1 : Nat), .str x.2.1, x.2.2)
structure Sb where
  page : Nat
  left : Nat
  used : Nat
  cls : List Cl
def fpS (b : Nat) (s : Sb) (vc : AV) : List Nat := blks (.ptr b 0 :: vc :: cat Cl.at s.cls)
structure SlO (h : Heap) (b : Nat) (s : Sb) (vc : AV) : Prop where
  str : h.get b = some (.cells [.int .i64 (s.page : Nat), .int .i64 (s.left : Nat), .int .i64 (s.used : Nat), vc] false)
  lt : b < h.next
  own : Mine 4 s.cls.length h vc (cat Cl.c s.cls)
  free : ∀ c, c ∈ s.cls → Mine 1 c.free.length h c.fv (c.free.map nn)
  live : ∀ c, c ∈ s.cls → h.get c.mb = some (.map (c.live.map me) c.cl) ∧ c.mb < h.next
  apart : Apart (.ptr b 0 :: vc :: cat Cl.at s.cls)
section
variable {h h' : Heap} {b : Nat} {s : Sb} {vc : AV}
theorem mem_at {cls : List Cl} {c : Cl} (hc : c ∈ cls) : c.fv ∈ cat Cl.at cls ∧ AV.mp c.mb ∈ cat Cl.at cls := by
  unfold cat
  constructor <;> exact List.mem_flatten.2 ⟨c.at, List.mem_map.2 ⟨c, hc, rfl⟩, by simp [Cl.at]⟩
theorem at_mem {cls : List Cl} {v : AV} (h : v ∈ cat Cl.at cls) : ∃ c, c ∈ cls ∧ (v = c.fv ∨ v = .mp c.mb) := by
  unfold cat at h
  obtain ⟨l, hl, hv⟩ := List.mem_flatten.1 h
  obtain ⟨c, hc, rfl⟩ := List.mem_map.1 hl
  simp [Cl.at] at hv
  exact ⟨c, hc, hv⟩
theorem fpS_b : b ∈ fpS b s vc := mem_blks.2 ⟨.ptr b 0, by simp, rfl⟩
theorem fpS_vc {d : Nat} (hd : Has vc d) : d ∈ fpS b s vc := mem_blks.2 ⟨vc, by simp, hd⟩
theorem fpS_fv {c : Cl} (hc : c ∈ s.cls) {d : Nat} (hd : Has c.fv d) : d ∈ fpS b s vc := mem_blks.2 ⟨c.fv, by simp [(mem_at hc).1], hd⟩
theorem fpS_mb {c : Cl} (hc : c ∈ s.cls) : c.mb ∈ fpS b s vc := mem_blks.2 ⟨.mp c.mb, by simp [(mem_at hc).2], rfl⟩
theorem SlO.fp_lt (O : SlO h b s vc) {d : Nat} (hd : d ∈ fpS b s vc) : d < h.next := by
  obtain ⟨u, hu, hu'⟩ := mem_blks.1 hd
  simp only [List.mem_cons] at hu
  rcases hu with rfl | rfl | hu
  · cases hu'; exact O.lt
  · exact O.own.lt hu'
  · obtain ⟨c, hc, rfl | rfl⟩ := at_mem hu
    · exact (O.free c hc).lt hu'
    · cases hu'; exact (O.live c hc).2
theorem SlO.keep {F : Nat → Prop} (O : SlO h b s vc) (K : Keep h.next F h h') (hF : ∀ d, d ∈ fpS b s vc → ¬ F d) : SlO h' b s vc :=
  ⟨by rw [K.2 b O.lt (hF b fpS_b)]; exact O.str, Nat.lt_of_lt_of_le O.lt K.1, O.own.keep K fun d hd => hF d (fpS_vc hd), fun c hc => (O.free c hc).keep K fun d hd => hF d (fpS_fv hc hd),
    fun c hc => ⟨by rw [K.2 c.mb (O.live c hc).2 (hF _ (fpS_mb hc))]; exact (O.live c hc).1, Nat.lt_of_lt_of_le (O.live c hc).2 K.1⟩, O.apart⟩
theorem SlO.ext (O : SlO h b s vc) (K : Keep h.next nob h h') : SlO h' b s vc := O.keep K fun _ _ q => q
theorem SlO.ld0 (O : SlO h b s vc) {ty : TypeId} (ht : tagg Try.prog ty = some false) : aload Try.prog h ty b 0 = some (.int .i64 (s.page : Nat)) := ldc O.str ht rfl
theorem SlO.ld1 (O : SlO h b s vc) {ty : TypeId} (ht : tagg Try.prog ty = some false) : aload Try.prog h ty b 1 = some (.int .i64 (s.left : Nat)) := ldc O.str ht rfl
theorem SlO.ld2 (O : SlO h b s vc) {ty : TypeId} (ht : tagg Try.prog ty = some false) : aload Try.prog h ty b 2 = some (.int .i64 (s.used : Nat)) := ldc O.str ht rfl
theorem SlO.ld3 (O : SlO h b s vc) {ty : TypeId} (ht : tagg Try.prog ty = some false) : aload Try.prog h ty b 3 = some vc := ldc O.str ht rfl
end
theorem apart_snoc {l : List AV} (a : Apart l) {v : AV} (hv : ∀ c, Has v c → c ∉ blks l) : Apart (l ++ [v]) := by
  unfold Apart at *
  rw [blks_append, List.nodup_append]
  refine ⟨a, ?_, fun x hx y hy q => ?_⟩
  · rw [blks_cons, blks_nil, List.append_nil]
    split <;> simp
  · subst q
    obtain ⟨u, hu, hu'⟩ := mem_blks.1 hy
    rw [List.mem_singleton.1 hu] at hu'
    exact hv x hu' hx
/-- A class is put behind the others. -/
theorem SlO.snoc {h : Heap} {b : Nat} {s : Sb} {vc : AV} (O : SlO h b s vc) (hl : s.cls.length < 100000) (sz : Nat) :
    ∃ v' h5 h6, aappend Try.prog ((h.new (.map [] 0)).new (.cells [.int .i64 (sz : Nat), .nils, .mp h.next, .int .i64 0] false)) 92 92 vc (.sl (h.next + 1) 0 1 1 4 true) = some (v', h5) ∧ v'.one = true ∧
      alay h5 b 3 [v'] = some h6 ∧ SlO h6 b { s with cls := s.cls ++ [⟨sz, [], [], 0, 0, .nils, h.next⟩] } v' ∧ (∀ d, d ∈ fpS b { s with cls := s.cls ++ [⟨sz, [], [], 0, 0, .nils, h.next⟩] } v' → d ∈ fpS b s vc ∨ h.next ≤ d) ∧ Keep h.next (fun d => d ∈ fpS b s vc) h h6 := by
  have k3 : Keep h.next nob h (h.new (.map [] 0)) := Keep.new (Nat.le_refl _) _
  have g3 : (h.new (.map [] 0)).get h.next = some (.map [] 0) := get_new_self _ _
  have n3 : (h.new (.map [] 0)).next = h.next + 1 := rfl
  generalize h.new (.map [] 0) = h3 at *
  have O3 := O.ext k3
  obtain ⟨v', h5, E5, M5, Fr, K5⟩ := O3.own.push (P := Try.prog) el92 (a := [.int .i64 (sz : Nat), .nils, .mp h.next, .int .i64 0]) (ex := true) rfl rfl (by omega)
  rw [n3] at E5
  have hb : ∀ d, Has vc d → d ≠ b := fun d hd q => by
    have := O.apart.get (i := 1) (j := 0) rfl rfl hd (show Has (.ptr b 0) d by rw [q]; rfl)
    omega
  have K6 : Keep h5.next (fun d => d = b) h5 (h5.set b (.cells [.int .i64 (s.page : Nat), .int .i64 (s.left : Nat), .int .i64 (s.used : Nat), v'] false)) := Keep.set (F := fun d => d = b) (.inl rfl) _
  have g5 : h5.get b = some (.cells [.int .i64 (s.page : Nat), .int .i64 (s.left : Nat), .int .i64 (s.used : Nat), vc] false) := by rw [K5.2 b O3.lt (fun q => hb b q rfl)]; exact O3.str
  have hv' : ∀ d, Has v' d → Has vc d ∨ h.next + 1 ≤ d := fun d hd => by rw [← n3]; exact Fr d hd
  have hv'b : ∀ d, Has v' d → d ≠ b := fun d hd q => by
    rcases hv' d hd with z | z
    · exact hb d z q
    · have := O.lt; omega
  -- beside the slice of classes
  have beside : ∀ c, c ∈ s.cls → (∀ d, Has c.fv d → ¬ Has vc d ∧ d ≠ b) ∧ ¬ Has vc c.mb ∧ c.mb ≠ b := fun c hc => by
    have key : ∀ u, u ∈ cat Cl.at s.cls → ∀ d, Has u d → ¬ Has vc d ∧ d ≠ b := fun u hu d hd => by
      obtain ⟨i, hi⟩ := List.getElem?_of_mem hu
      refine ⟨fun q => ?_, fun q => ?_⟩
      · have := O.apart.get (i := i + 2) (j := 1) (by simpa using hi) rfl hd q
        omega
      · have := O.apart.get (i := i + 2) (j := 0) (by simpa using hi) rfl hd (show Has (.ptr b 0) d by rw [q]; rfl)
        omega
    exact ⟨key _ (mem_at hc).1, key _ (mem_at hc).2 _ rfl⟩
  have n5 := K5.1
  refine ⟨v', h5, _, E5, M5.oneV, by unfold alay; rw [g5]; rfl, ⟨get_set_self _ _ _, Nat.lt_of_lt_of_le O3.lt K5.1, ?_, ?_, ?_, ?_⟩, ?_, ?_⟩
  · have : cat Cl.c (s.cls ++ [⟨sz, [], [], 0, 0, .nils, h.next⟩]) = cat Cl.c s.cls ++ [.int .i64 (sz : Nat), .nils, .mp h.next, .int .i64 0] := by rw [cat_append, cat_one]; rfl
    simp only [this, List.length_append, List.length_singleton]
    exact M5.keep K6 fun d hd => hv'b d hd
  · intro c hc
    rcases List.mem_append.1 hc with hc | hc
    · obtain ⟨z1, z2⟩ := beside c hc
      exact ((O3.free c hc).keep K5 fun d hd => (z1 d hd).1).keep K6 fun d hd => (z1 d hd).2
    · rw [List.mem_singleton.1 hc]
      exact Mine.nil _ _
  · intro c hc
    rcases List.mem_append.1 hc with hc | hc
    · obtain ⟨z1, z2, z3⟩ := beside c hc
      have := O3.live c hc
      exact ⟨by rw [K6.2 _ (Nat.lt_of_lt_of_le this.2 K5.1) z3, K5.2 _ this.2 z2]; exact this.1, Nat.lt_of_lt_of_le this.2 K5.1⟩
    · rw [List.mem_singleton.1 hc]
      refine ⟨?_, by show h.next < h5.next; omega⟩
      show (h5.set b _).get h.next = _
      rw [K6.2 _ (by omega) (by have := O.lt; omega), K5.2 _ (by omega) (fun q => by have := O.own.lt q; omega)]
      exact g3
  · show Apart (.ptr b 0 :: v' :: cat Cl.at (s.cls ++ [_]))
    rw [cat_append, cat_one]
    have A1 : Apart (.ptr b 0 :: v' :: cat Cl.at s.cls) := O.apart.set (i := 1) rfl fun c hc => by
      rcases hv' c hc with z | z
      · exact .inl z
      · exact .inr fun q => by have := O.fp_lt q; omega
    have A2 := apart_snoc A1 (v := .nils) fun c hc => by cases hc
    have A3 := apart_snoc A2 (v := .mp h.next) fun c hc q => by
      cases hc
      rw [blks_append] at q
      rcases List.mem_append.1 q with q | q
      · rw [show (.ptr b 0 :: v' :: cat Cl.at s.cls : List AV) = (.ptr b 0 :: vc :: cat Cl.at s.cls).set 1 v' from rfl] at q
        rcases blks_set q with q | q
        · rcases hv' _ q with z | z
          · have := O.own.lt z; omega
          · omega
        · have := O.fp_lt q; omega
      · simp [blks_cons] at q
    simpa [Cl.at] using A3
  · intro d hd
    have hd : d ∈ blks (.ptr b 0 :: v' :: cat Cl.at (s.cls ++ [⟨sz, [], [], 0, 0, .nils, h.next⟩])) := hd
    obtain ⟨u, hu, hu'⟩ := mem_blks.1 hd
    rw [cat_append, cat_one] at hu
    simp only [List.mem_cons, List.mem_append] at hu
    rcases hu with rfl | rfl | hu | hu
    · exact .inl (mem_blks.2 ⟨_, by simp, hu'⟩)
    · rcases hv' _ hu' with z | z
      · exact .inl (fpS_vc z)
      · exact .inr (by omega)
    · exact .inl (mem_blks.2 ⟨u, by simp [hu], hu'⟩)
    · simp [Cl.at] at hu
      rcases hu with rfl | rfl
      · cases hu'
      · cases hu'; exact .inr (Nat.le_refl _)
  · refine ⟨Nat.le_trans (by omega) K5.1, fun d hd hn => ?_⟩
    rw [K6.2 d (by omega) (fun q => hn (q ▸ fpS_b)), K5.2 d (by omega) (fun q => hn (fpS_vc q)), k3.2 d hd id]
end Go.Proofs.Ytelnkdgpghndgaa
/- Contracts of slab: New, Classes, Class. -/
namespace Go.Proofs.Ytelnkdgpghndgaa
open Go Go.YtelnkdgpghndgaaAbs
set_option linter.unusedSimpArgs false
set_option linter.unusedVariables false
set_option maxRecDepth 4000

/-- New classes. -/
def FreshC (cls : List Cl) : Prop := ∀ (j : Nat) (c : Cl), cls[j]? = some c → c.size = 64 * 2 ^ j ∧ c.free = [] ∧ c.live = [] ∧ c.cl = 0 ∧ c.count = 0
theorem SlO.new (h : Heap) (P Q : Nat) : SlO (h.new (.cells [.int .i64 (Q : Nat), .int .i64 (P : Nat), .int .i64 0, .nils] false)) h.next ⟨Q, P, 0, []⟩ .nils :=
  ⟨get_new_self _ _, Nat.lt_succ_self _, Mine.nil _ _, fun c hc => by simp at hc, fun c hc => by simp at hc, by show Apart [.ptr h.next 0, .nils]; unfold Apart; simp [blks_cons]⟩
/-- The first class that has room. -/
def clsE (n : Int) : List Cl → Option Nat
  | [] => none
  | c :: L => if n ≤ (c.size : Nat) then some 0 else (clsE n L).map (· + 1)
def clsZ (n : Int) (L : List Cl) : Int := match clsE n L with
  | some i => (i : Nat)
  | none => -1
theorem clsE_skip (n : Int) : ∀ (i : Nat) (L : List Cl), (∀ c, c ∈ L.take i → (c.size : Int) < n) → clsE n L = (clsE n (L.drop i)).map (· + i)
  | 0, L, h => by simp
  | i + 1, [], h => by simp [clsE]
  | i + 1, c :: L, h => by
    have h1 := h c (by simp)
    simp only [clsE]
    rw [if_neg (by omega), clsE_skip n i L (fun c' hc => h c' (by simp [hc])), Option.map_map]
    simp only [List.drop_succ_cons]
    congr 1
set_option maxHeartbeats 1000000 in
theorem new_ok (k : Nat) (hk : 30 < k) (h : Heap) (P Q : Nat) (hP : 1 ≤ P) (hP2 : P ≤ 64) (hQ : 64 ≤ Q) (hQ2 : Q ≤ 65536) :
    ∃ v' h', acall Try.prog (k + 1) 27 [.int .i64 (P : Nat), .int .i64 (Q : Nat)] h = some (v', h') ∧ ∃ (b : Nat) (cls : List Cl) (vc : AV), v' = .tup [.ptr b 0, .int .i64 0] ∧ SlO h' b ⟨Q, P, 0, cls⟩ vc ∧ FreshC cls ∧
      1 ≤ cls.length ∧ cls.length ≤ 11 ∧ 64 * 2 ^ (cls.length - 1) ≤ Q ∧ Q < 64 * 2 ^ cls.length ∧ (∀ d, d ∈ fpS b ⟨Q, P, 0, cls⟩ vc → h.next ≤ d) ∧ Keep h.next nob h h' := by
  have O1 := SlO.new h P Q
  have k1 : Keep h.next nob h (h.new (.cells [.int .i64 (Q : Nat), .int .i64 (P : Nat), .int .i64 0, .nils] false)) := Keep.new (Nat.le_refl _) _
  have f1 : ∀ d, d ∈ fpS h.next ⟨Q, P, 0, []⟩ .nils → h.next ≤ d := fun d hd => by
    have : d ∈ blks [.ptr h.next 0, .nils] := hd
    simp [blks_cons] at this
    omega
  obtain ⟨h1, e1⟩ : ∃ h1, h.new (.cells [.int .i64 (Q : Nat), .int .i64 (P : Nat), .int .i64 0, .nils] false) = h1 := ⟨_, rfl⟩
  rw [e1] at O1 k1
  have rwN : (AV.agg [.int .i64 (Q : Nat), .int .i64 (P : Nat), .int .i64 0, .nils]).row1 = some [.int .i64 (Q : Nat), .int .i64 (P : Nat), .int .i64 0, .nils] := rfl
  rw [acall_text [] Try.func27 (by kernel_rfl)]
  refine afuncT_ex rfl (by simp [Try.f27]) ?_
  simp [Try.f27, isLe (show (1 : Int) ≤ (P : Int) by omega), isLe (show (P : Int) ≤ 64 by omega), isLe (show (64 : Int) ≤ (Q : Int) by omega), isLe (show (Q : Int) ≤ 65536 by omega), afill, aalloc, rwN, e1]
  obtain ⟨b, hb⟩ : ∃ b, b = h.next := ⟨_, rfl⟩
  rw [← hb] at O1 f1 k1 ⊢
  have pw : ∀ i : Nat, 64 * 2 ^ i ≤ Q → i ≤ 10 := fun i hi => by
    have : ¬ 11 ≤ i := fun q => by
      have : 2 ^ 11 ≤ 2 ^ i := Nat.pow_le_pow_right (by omega) q
      have : (2 : Nat) ^ 11 = 2048 := rfl
      omega
    omega
  refine W_cutLoop 0 (fun st => st.t.get 6 = some (.ptr b 0) ∧ ∃ (cls : List Cl) (vc : AV), SlO st.h b ⟨Q, P, 0, cls⟩ vc ∧ FreshC cls ∧ 1 ≤ cls.length ∧ cls.length ≤ 11 ∧ 64 * 2 ^ (cls.length - 1) ≤ Q ∧ Q < 64 * 2 ^ cls.length ∧ (∀ d, d ∈ fpS b ⟨Q, P, 0, cls⟩ vc → b ≤ d) ∧ Keep b nob h st.h) ?_ ?_
  · refine W_loop (fun m st => ∃ (cls : List Cl) (vc : AV), m = 12 - cls.length ∧ st.t.get 1 = some (.int .i64 (Q : Nat)) ∧ st.t.get 6 = some (.ptr b 0) ∧ st.t.get 7 = some (.int .i64 ((64 * 2 ^ cls.length : Nat) : Int)) ∧ (cls.length = 0 ∨ 64 * 2 ^ (cls.length - 1) ≤ Q) ∧
      SlO st.h b ⟨Q, P, 0, cls⟩ vc ∧ FreshC cls ∧ (∀ d, d ∈ fpS b ⟨Q, P, 0, cls⟩ vc → b ≤ d) ∧ Keep b nob h st.h) 12 (by omega)
      ⟨[], .nils, rfl, rfl, by simp [hb], rfl, .inl rfl, O1, fun j c hc => by simp at hc, f1, k1⟩ ?_
    rintro m ⟨t, h2⟩ ⟨cls, vc, rfl, q1, q6, q7, hl, O, F, fp, K⟩
    simp only at q1 q6 q7 O K
    have hl10 : cls.length ≤ 11 := by
      rcases hl with z | z
      · omega
      · have := pw _ z; omega
    obtain ⟨S, hS⟩ : ∃ S, S = 64 * 2 ^ cls.length := ⟨_, rfl⟩
    have hS2 : 64 * 2 ^ (cls.length + 1) = 2 * S := by rw [hS, Nat.pow_succ]; omega
    have hS3 : S ≤ 131072 := by
      have : 2 ^ cls.length ≤ 2 ^ 11 := Nat.pow_le_pow_right (by omega) hl10
      have e : (2 : Nat) ^ 11 = 2048 := rfl
      omega
    rw [← hS] at q7
    by_cases hlt : S ≤ Q
    · have := pw _ (hS ▸ hlt)
      obtain ⟨v', h5, h6, E5, ov, E6, O6, f6, K6⟩ := O.snoc (by simp only; omega) S
      have ro := row1_one ov
      have rwC : (AV.agg [.int .i64 (S : Nat), .nils, .mp h2.next, .int .i64 0]).row1 = some [.int .i64 (S : Nat), .nils, .mp h2.next, .int .i64 0] := rfl
      have ld := O.ext (Keep.new (Nat.le_refl _) (.map [] 0))
      have w7 := i64w ((S : Int) * 2) (by omega) (by omega)
      have F' : FreshC (cls ++ [⟨S, [], [], 0, 0, .nils, h2.next⟩]) := fun j c hc => by
        rw [List.getElem?_append] at hc
        split at hc
        · exact F j c hc
        · rename_i hj
          have hj2 : j - cls.length = 0 := by
            have := (List.getElem?_eq_some_iff.1 hc).1
            simp at this
            exact this
          rw [hj2] at hc
          have : j = cls.length := by omega
          simp at hc
          subst hc
          subst this
          exact ⟨hS, rfl, rfl, rfl, rfl⟩
      have K1 := K.1
      have K7 : Keep b nob h h6 := ⟨Nat.le_trans K.1 K6.1, fun d hd _ => by rw [K6.2 d (by omega) (fun q => by have := fp d q; omega), K.2 d hd id]⟩
      have f7 : ∀ d, d ∈ fpS b ⟨Q, P, 0, cls ++ [⟨S, [], [], 0, 0, .nils, h2.next⟩]⟩ v' → b ≤ d := fun d hd => by
        rcases f6 d hd with z | z
        · exact fp d z
        · omega
      simp [q1, q6, q7, isLe (show (S : Int) ≤ (Q : Int) by omega), O.ld3, afill, aalloc, ro, rwC, E5, E6, w7]
      have hS4 : (S : Int) * 2 = 64 * 2 ^ (cls.length + 1) := by
        have : ((64 * 2 ^ (cls.length + 1) : Nat) : Int) = ((2 * S : Nat) : Int) := by rw [hS2]
        push_cast at this
        rw [this]; omega
      refine ⟨12 - (cls.length + 1), by omega, cls ++ [⟨S, [], [], 0, 0, .nils, h2.next⟩], by simp, ?_, .inr ?_, v', O6, F', f7, K7⟩
      · rw [List.length_append, List.length_singleton]; exact hS4
      · rw [List.length_append, List.length_singleton, Nat.add_sub_cancel, ← hS]; exact hlt
    · simp [q1, q6, q7, isLt (show (Q : Int) < (S : Int) by omega)]
      rw [hS] at hlt
      have h0 : cls.length ≠ 0 := fun z => by rw [z] at hlt; omega
      exact ⟨cls, vc, O, F, by omega, hl10, hl.resolve_left h0, by omega, fp, K⟩
  rintro ⟨t, h2⟩ ⟨q6, cls, vc, O, F, l1, l2, l3, l4, fp, K⟩
  simp only at q6 O K
  simp [q6]
  exact ⟨cls, vc, O, F, l1, l2, l3, l4, fp, K⟩

theorem class_ok (k : Nat) (hk : 30 < k) (h : Heap) (b : Nat) (s : Sb) (vc : AV) (O : SlO h b s vc) (hl : s.cls.length ≤ 20) (n : Int) :
    ∃ v' h', acall Try.prog (k + 1) 29 [.ptr b 0, .int .i64 n] h = some (v', h') ∧ v' = .int .i64 (if n < 0 then -1 else clsZ n s.cls) ∧ Keep h.next nob h h' := by
  rw [acall_text [] Try.func29 (by kernel_rfl)]
  refine afuncT_ex rfl (by simp [Try.f29]) ?_
  by_cases hn : n < 0
  · rw [if_pos hn]
    simp [Try.f29, isLt hn]
    exact Keep.refl _ _ _
  rw [if_neg hn]
  have sl := O.own.sl
  simp [Try.f29, O.ld3, sl.len', isLe (show 0 ≤ n by omega)]
  refine W_loop (fun m st => ∃ (i : Nat), m = s.cls.length - i ∧ i ≤ s.cls.length ∧ (∀ c, c ∈ s.cls.take i → (c.size : Int) < n) ∧ st.t.get 1 = some (.int .i64 n) ∧ st.t.get 12 = some vc ∧ st.t.get 13 = some (.int .i64 (s.cls.length : Nat)) ∧ st.t.get 14 = some (.int .i64 (i : Nat)) ∧ Keep h.next nob h st.h) s.cls.length (by omega)
    ⟨0, by simp, by omega, fun c hc => by simp at hc, by simp, by simp, by simp, by simp, Keep.refl _ _ _⟩ ?_
  rintro m ⟨t, h2⟩ ⟨i, rfl, hi, hno, q1, q12, q13, q14, K⟩
  simp only at q1 q12 q13 q14 K
  have hs := clsE_skip n i s.cls hno
  by_cases hlt : i < s.cls.length
  · obtain ⟨c, hc⟩ : ∃ c, s.cls[i]? = some c := ⟨s.cls[i], by simp⟩
    have sl2 := (O.ext K).own.sl
    have ix := sl2.idx (P := Try.prog) Try.underlying92 ts97 (j := i) hlt .i64
    have ld := sl2.lds (P := Try.prog) ta97 ts97 (j := i * 4) (by rw [cat_len Cl.c_len]; omega) (by omega)
    rw [cat_at Cl.c_len hc] at ld
    have one : c.fv.one = true := (O.free c (List.mem_of_getElem? hc)).oneV
    have rwc : (AV.agg c.c).row1 = some c.c := row1_agg (by simp [Cl.c, one])
    have al : alay (h2.new (.cells [.int .i64 0, .nils, .nilm, .int .i64 0] false)) h2.next 0 c.c = some (h2.new (.cells c.c false)) := alay_new rfl
    obtain ⟨h3, e3⟩ : ∃ h3, h2.new (.cells c.c false) = h3 := ⟨_, rfl⟩
    have k3 : Keep h2.next nob h2 h3 := by rw [← e3]; exact Keep.new (Nat.le_refl _) _
    have g3 : h3.get h2.next = some (.cells c.c false) := by rw [← e3]; exact get_new_self _ _
    rw [e3] at al
    have l0 := ldc (P := Try.prog) (ty := 3) g3 ta3 (i := 0) (x := .int .i64 (c.size : Nat)) rfl
    have cl := Cl.c_len c
    have K3 : Keep h.next nob h h3 := K.trans (k3.weak K.1 fun _ _ q => q)
    have hd : s.cls.drop i = c :: s.cls.drop (i + 1) := by
      obtain ⟨z1, z2⟩ := List.getElem?_eq_some_iff.1 hc
      rw [List.drop_eq_getElem_cons z1, z2]
    rw [hd] at hs
    simp only [clsE] at hs
    by_cases hc2 : n ≤ (c.size : Nat)
    · rw [if_pos hc2] at hs
      have e4 : clsZ n s.cls = (i : Nat) := by unfold clsZ; rw [hs]; simp
      simp [q1, q12, q13, q14, isLt (show (i : Int) < (s.cls.length : Int) by omega), ix, ld, rwc, cl, al, l0, afill, aalloc, isLe hc2, e4]
      exact K3
    · simp [q1, q12, q13, q14, isLt (show (i : Int) < (s.cls.length : Int) by omega), ix, ld, rwc, cl, al, l0, afill, aalloc, isLt (show (c.size : Int) < n by omega), i64w ((i : Int) + 1) (by omega) (by omega)]
      refine ⟨s.cls.length - (i + 1), by omega, i + 1, rfl, by omega, fun c' hc' => ?_, rfl, K3⟩
      rw [List.take_add_one, hc] at hc'
      rcases List.mem_append.1 hc' with z | z
      · exact hno c' z
      · simp at z; subst z; omega
  · rw [List.drop_of_length_le (by omega)] at hs
    simp only [clsE, Option.map_none] at hs
    have e4 : clsZ n s.cls = -1 := by unfold clsZ; rw [hs]
    have : i = s.cls.length := by omega
    subst this
    simp [q1, q12, q13, q14, e4]
    exact K
end Go.Proofs.Ytelnkdgpghndgaa
/- depotref5.Slab: what it is; NewSlab, Class, there, Read. -/
namespace Go.Proofs.Ytelnkdgpghndgaa
open Go Go.YtelnkdgpghndgaaAbs
set_option linter.unusedSimpArgs false
set_option linter.unusedVariables false
set_option maxRecDepth 4000

def sv (k : ByteArray) : AV := .str k
def bv (b : Bool) : AV := .bool b
/-- A class of the document's slab, and where its free list, its texts and its marks stand. -/
structure Rc where
  size : Nat
  count : Nat
  free : List Nat
  data : List ByteArray
  live : List Bool
  fv : AV
  dv : AV
  lv : AV
def Rc.c (c : Rc) : List AV := [.int .i64 (c.size : Nat), .int .i64 (c.count : Nat), c.fv, c.dv, c.lv]
def Rc.th (c : Rc) : List Th := [(c.fv, .vec 1 c.free.length (c.free.map nn)), (c.dv, .vec 1 c.data.length (c.data.map sv)), (c.lv, .vec 1 c.live.length (c.live.map bv))]
theorem Rc.c_len (c : Rc) : c.c.length = 5 := rfl
theorem Rc.th_len (c : Rc) : c.th.length = 3 := rfl
theorem set_same' {α : Type} {l : List α} {j : Nat} {x : α} (h : l[j]? = some x) : l.set j x = l := by
  refine List.ext_getElem? fun i => ?_
  have hj := (List.getElem?_eq_some_iff.1 h).1
  by_cases hij : j = i
  · subst hij; rw [List.getElem?_set_self hj, h]
  · rw [List.getElem?_set_ne hij]
structure Rb where
  page : Nat
  left : Nat
  cls : List Rc
def Rb.th (r : Rb) (b : Nat) (vc : AV) : List Th := (.ptr b 0, .blk [.int .i64 (r.page : Nat), .int .i64 (r.left : Nat), vc]) :: (vc, .vec 5 r.cls.length (cat Rc.c r.cls)) :: gcat Rc.th r.cls
abbrev RO (h : Heap) (b : Nat) (r : Rb) (vc : AV) : Prop := Hold h (r.th b vc)
section
variable {h h1 : Heap} {b : Nat} {r : Rb} {vc : AV}
theorem RO.str (O : RO h b r vc) : h.get b = some (.cells [.int .i64 (r.page : Nat), .int .i64 (r.left : Nat), vc] false) ∧ b < h.next := by
  obtain ⟨b', e, h1, h2⟩ := O.get (i := 0) rfl
  cases e
  exact ⟨h2, h1⟩
theorem RO.own (O : RO h b r vc) : Mine 5 r.cls.length h vc (cat Rc.c r.cls) := O.get (i := 1) rfl
theorem RO.at (O : RO h b r vc) {i : Nat} {c : Rc} (hi : r.cls[i]? = some c) : (r.th b vc)[i * 3 + 0 + 2]? = some (c.fv, .vec 1 c.free.length (c.free.map nn)) ∧ (r.th b vc)[i * 3 + 1 + 2]? = some (c.dv, .vec 1 c.data.length (c.data.map sv)) ∧ (r.th b vc)[i * 3 + 2 + 2]? = some (c.lv, .vec 1 c.live.length (c.live.map bv)) := by
  refine ⟨?_, ?_, ?_⟩
  · exact gcat_get (f := Rc.th) Rc.th_len hi (o := 0) (by omega)
  · exact gcat_get (f := Rc.th) Rc.th_len hi (o := 1) (by omega)
  · exact gcat_get (f := Rc.th) Rc.th_len hi (o := 2) (by omega)
theorem RO.free (O : RO h b r vc) {i : Nat} {c : Rc} (hi : r.cls[i]? = some c) : Mine 1 c.free.length h c.fv (c.free.map nn) := Hold.get O (RO.at O hi).1
theorem RO.data (O : RO h b r vc) {i : Nat} {c : Rc} (hi : r.cls[i]? = some c) : Mine 1 c.data.length h c.dv (c.data.map sv) := Hold.get O (RO.at O hi).2.1
theorem RO.live (O : RO h b r vc) {i : Nat} {c : Rc} (hi : r.cls[i]? = some c) : Mine 1 c.live.length h c.lv (c.live.map bv) := Hold.get O (RO.at O hi).2.2
theorem RO.ld0 (O : RO h b r vc) {ty : TypeId} (ht : tagg Try.prog ty = some false) : aload Try.prog h ty b 0 = some (.int .i64 (r.page : Nat)) := ldc (RO.str O).1 ht rfl
theorem RO.ld1 (O : RO h b r vc) {ty : TypeId} (ht : tagg Try.prog ty = some false) : aload Try.prog h ty b 1 = some (.int .i64 (r.left : Nat)) := ldc (RO.str O).1 ht rfl
theorem RO.ld2 (O : RO h b r vc) {ty : TypeId} (ht : tagg Try.prog ty = some false) : aload Try.prog h ty b 2 = some vc := ldc (RO.str O).1 ht rfl
theorem RO.ldc (O : RO h b r vc) {i : Nat} {c : Rc} (hi : r.cls[i]? = some c) {o : Nat} {x : AV} (ho : o < 5) (hx : c.c[o]? = some x) {ty : TypeId} (ht : tagg Try.prog ty = some false) : aload Try.prog h ty vc.blk (vc.off + i * 5 + o) = some x := by
  have := (RO.own O).sl.ld (P := Try.prog) ht (j := i * 5 + o) (x := x) (by rw [cat_get Rc.c_len hi ho]; exact hx)
  rwa [← Nat.add_assoc] at this
theorem RO.vlt (O : RO h b r vc) {i : Nat} {c : Rc} (hi : r.cls[i]? = some c) : Has vc vc.blk ∧ vc.blk < h.next := by
  have := (List.getElem?_eq_some_iff.1 hi).1
  have hb := (RO.own O).blk (by omega)
  exact ⟨hb, (RO.own O).lt hb⟩
/-- A class's cell is written, behind what its slice became. -/
theorem RO.upd (O : RO h b r vc) {i : Nat} {c c2 : Rc} (hi : r.cls[i]? = some c) {w : Nat} (hw : w < 3) {v v' : AV} {o o' : Ob} (hv : c.th[w]? = some (v, o)) (hc : c.c.set (w + 2) v' = c2.c) (ht : c.th.set w (v', o') = c2.th) (K : Keep h.next (Has v) h h1) (H : Holds h1 v' o') (Fr : From h v v') (hone : v'.one = true) :
    ∃ h2, alay h1 vc.blk (vc.off + i * 5 + (w + 2)) [v'] = some h2 ∧ RO h2 b { r with cls := r.cls.set i c2 } vc ∧ Fresh h (r.th b vc) (Rb.th { r with cls := r.cls.set i c2 } b vc) ∧ Keep h.next (Inn (r.th b vc)) h h2 ∧ h2.next = h1.next := by
  have hl := (List.getElem?_eq_some_iff.1 hi).1
  have e1 : (r.th b vc)[i * 3 + w + 2]? = some (v, o) := by
    have := gcat_get (f := Rc.th) Rc.th_len hi (o := w) hw
    rw [hv] at this
    simpa [Rb.th] using this
  obtain ⟨q1, q2, q3⟩ := Hold.upd O e1 K H Fr
  have e2 : (r.th b vc).set (i * 3 + w + 2) (v', o') = (.ptr b 0, .blk [.int .i64 (r.page : Nat), .int .i64 (r.left : Nat), vc]) :: (vc, .vec 5 r.cls.length (cat Rc.c r.cls)) :: gcat Rc.th (r.cls.set i c2) := by
    rw [← gcat_set (f := Rc.th) Rc.th_len hi hw ht]
    rfl
  rw [e2] at q1 q2
  have M : Mine 5 r.cls.length h1 vc (cat Rc.c r.cls) := q1.get (i := 1) rfl
  obtain ⟨h2, a1, a2, a3, a4⟩ := M.lay (j := i * 5 + (w + 2)) (vs := [v']) (by rw [cat_len Rc.c_len]; simp; omega) (by omega) (by simp [hone])
  obtain ⟨p1, p2, p3⟩ := Hold.upd q1 (i := 1) rfl a3 (o' := .vec 5 r.cls.length (cat Rc.c (r.cls.set i c2))) (by
    rw [← cat_set1 (f := Rc.c) (sz := 5) Rc.c_len hi (o := w + 2) (by omega) hc]
    exact a2) (From.refl _ _)
  rw [← Nat.add_assoc] at a1
  refine ⟨h2, a1, ?_, ?_, ?_, a4⟩
  · show Hold h2 (Rb.th { r with cls := r.cls.set i c2 } b vc)
    unfold Rb.th
    simp only [List.length_set]
    exact p1
  · unfold Rb.th
    simp only [List.length_set]
    exact q2.trans p2 K.1
  · exact keep_two q3 q2 p3
/-- A number of a class is written. -/
theorem RO.updN (O : RO h b r vc) {i : Nat} {c c2 : Rc} (hi : r.cls[i]? = some c) {w : Nat} (hw : w < 5) {a : AV} (hc : c.c.set w a = c2.c) (ht : c.th = c2.th) (hone : a.one = true) :
    ∃ h2, alay h vc.blk (vc.off + i * 5 + w) [a] = some h2 ∧ RO h2 b { r with cls := r.cls.set i c2 } vc ∧ Fresh h (r.th b vc) (Rb.th { r with cls := r.cls.set i c2 } b vc) ∧ Keep h.next (Inn (r.th b vc)) h h2 ∧ h2.next = h.next := by
  have hl := (List.getElem?_eq_some_iff.1 hi).1
  obtain ⟨h2, a1, a2, a3, a4⟩ := (RO.own O).lay (j := i * 5 + w) (vs := [a]) (by rw [cat_len Rc.c_len]; simp; omega) (by omega) (by simp [hone])
  obtain ⟨p1, p2, p3⟩ := Hold.upd O (i := 1) rfl a3 (o' := .vec 5 r.cls.length (cat Rc.c (r.cls.set i c2))) (by
    rw [← cat_set1 (f := Rc.c) (sz := 5) Rc.c_len hi (o := w) hw hc]
    exact a2) (From.refl _ _)
  have e : gcat Rc.th (r.cls.set i c2) = gcat Rc.th r.cls := by
    have := gcat_set (f := Rc.th) Rc.th_len hi (o := 0) (by omega) (a := (c.fv, .vec 1 c.free.length (c.free.map nn))) (y := c2) (by rw [← ht]; rfl)
    rw [← this, set_same']
    have := gcat_get (f := Rc.th) Rc.th_len hi (o := 0) (by omega)
    exact this
  have e2 : Rb.th { r with cls := r.cls.set i c2 } b vc = (r.th b vc).set 1 (vc, .vec 5 r.cls.length (cat Rc.c (r.cls.set i c2))) := by
    unfold Rb.th
    simp only [List.length_set, e]
    rfl
  rw [← Nat.add_assoc] at a1
  refine ⟨h2, a1, by show Hold h2 _; rw [e2]; exact p1, by rw [e2]; exact p2, p3, a4⟩
/-- How many pages are left is written. -/
theorem RO.setL (O : RO h b r vc) (left : Nat) : ∃ h2, alay h b 1 [.int .i64 (left : Nat)] = some h2 ∧ RO h2 b { r with left := left } vc ∧ Fresh h (r.th b vc) (Rb.th { r with left := left } b vc) ∧ Keep h.next (Inn (r.th b vc)) h h2 ∧ h2.next = h.next := by
  obtain ⟨g, hb⟩ := RO.str O
  have e1 : alay h b 1 [.int .i64 (left : Nat)] = some (h.set b (.cells [.int .i64 (r.page : Nat), .int .i64 (left : Nat), vc] false)) := by unfold alay; rw [g]; rfl
  have K : Keep h.next (Has (.ptr b 0)) h (h.set b (.cells [.int .i64 (r.page : Nat), .int .i64 (left : Nat), vc] false)) := Keep.set (F := Has (.ptr b 0)) (.inl rfl) _
  obtain ⟨p1, p2, p3⟩ := Hold.upd O (i := 0) rfl K (o' := .blk [.int .i64 (r.page : Nat), .int .i64 (left : Nat), vc]) ⟨b, rfl, hb, get_set_self _ _ _⟩ (From.refl _ _)
  exact ⟨_, e1, p1, p2, p3, rfl⟩
end
/-- The first size that has room. -/
def clsS (n : Int) : List Nat → Option Nat
  | [] => none
  | c :: L => if n ≤ (c : Nat) then some 0 else (clsS n L).map (· + 1)
theorem clsE_S (n : Int) : ∀ L : List Cl, clsE n L = clsS n (L.map (·.size))
  | [] => rfl
  | c :: L => by simp only [clsE, clsS, List.map_cons, clsE_S n L]
theorem clsS_skip (n : Int) : ∀ (i : Nat) (L : List Nat), (∀ c, c ∈ L.take i → (c : Int) < n) → clsS n L = (clsS n (L.drop i)).map (· + i)
  | 0, L, h => by simp
  | i + 1, [], h => by simp [clsS]
  | i + 1, c :: L, h => by
    have h1 := h c (by simp)
    simp only [clsS]
    rw [if_neg (by omega), clsS_skip n i L (fun c' hc => h c' (by simp [hc])), Option.map_map]
    simp only [List.drop_succ_cons]
    congr 1
end Go.Proofs.Ytelnkdgpghndgaa
/- Contracts of depotref5.Slab: NewSlab, Class, there, Read. -/
namespace Go.Proofs.Ytelnkdgpghndgaa
open Go Go.YtelnkdgpghndgaaAbs
set_option linter.unusedSimpArgs false
set_option linter.unusedVariables false
set_option maxRecDepth 4000

def rc0 (sz : Nat) : Rc := ⟨sz, 0, [], [], [], .nils, .nils, .nils⟩
def FreshR (cls : List Rc) : Prop := ∀ (j : Nat) (c : Rc), cls[j]? = some c → c.size = 64 * 2 ^ j ∧ c.free = [] ∧ c.count = 0 ∧ c.data = [] ∧ c.live = []
theorem hold_rc0 {h : Heap} {L : List Th} (O : Hold h L) (sz : Nat) : Hold h (L ++ (rc0 sz).th) ∧ ∀ d, Inn (L ++ (rc0 sz).th) d → Inn L d := by
  have no : ∀ d, ¬ Inn (rc0 sz).th d := fun d q => by
    obtain ⟨x, hx, hd⟩ := in_iff.1 q
    simp [Rc.th, rc0] at hx
    rcases hx with rfl | rfl | rfl <;> cases hd
  refine ⟨own_append.2 ⟨O, ⟨fun x hx => ?_, ?_⟩, fun d _ hd => no d hd⟩, fun d hd => (in_append.1 hd).resolve_right (no d)⟩
  · simp [Rc.th, rc0] at hx
    rcases hx with rfl | rfl | rfl <;> exact Mine.nil _ _
  · show (blks _).Nodup
    simp [Rc.th, rc0, blks_cons]
theorem RO.snoc {h : Heap} {b : Nat} {r : Rb} {vc : AV} (O : RO h b r vc) (hl : r.cls.length < 100000) (sz : Nat) :
    ∃ v' h5 h6, aappend Try.prog (h.new (.cells [.int .i64 (sz : Nat), .int .i64 0, .nils, .nils, .nils] false)) 64 64 vc (.sl h.next 0 1 1 5 true) = some (v', h5) ∧ v'.one = true ∧
      alay h5 b 2 [v'] = some h6 ∧ RO h6 b { r with cls := r.cls ++ [rc0 sz] } v' ∧ Fresh h (r.th b vc) (Rb.th { r with cls := r.cls ++ [rc0 sz] } b v') ∧ Keep h.next (Inn (r.th b vc)) h h6 := by
  obtain ⟨v', h5, E5, M5, F5, K5⟩ := (RO.own O).push (P := Try.prog) el64 (a := (rc0 sz).c) (ex := true) rfl rfl (by omega)
  obtain ⟨p1, p2, p3⟩ := Hold.upd O (i := 1) rfl K5 (o' := .vec 5 (r.cls.length + 1) (cat Rc.c r.cls ++ (rc0 sz).c)) M5 F5
  obtain ⟨b', e, hb, g5⟩ := p1.get (i := 0) (v := .ptr b 0) (o := .blk [.int .i64 (r.page : Nat), .int .i64 (r.left : Nat), vc]) rfl
  cases e
  have e6 : alay h5 b 2 [v'] = some (h5.set b (.cells [.int .i64 (r.page : Nat), .int .i64 (r.left : Nat), v'] false)) := by unfold alay; rw [g5]; rfl
  have K6 : Keep h5.next (Has (.ptr b 0)) h5 (h5.set b (.cells [.int .i64 (r.page : Nat), .int .i64 (r.left : Nat), v'] false)) := Keep.set (F := Has (.ptr b 0)) (.inl rfl) _
  obtain ⟨q1, q2, q3⟩ := Hold.upd p1 (i := 0) rfl K6 (o' := .blk [.int .i64 (r.page : Nat), .int .i64 (r.left : Nat), v']) ⟨b, rfl, hb, get_set_self _ _ _⟩ (From.refl _ _)
  obtain ⟨s1, s2⟩ := hold_rc0 q1 sz
  have eth : Rb.th { r with cls := r.cls ++ [rc0 sz] } b v' = (((r.th b vc).set 1 (v', .vec 5 (r.cls.length + 1) (cat Rc.c r.cls ++ (rc0 sz).c))).set 0 (.ptr b 0, .blk [.int .i64 (r.page : Nat), .int .i64 (r.left : Nat), v'])) ++ (rc0 sz).th := by
    unfold Rb.th
    simp only [List.length_append, List.length_singleton, cat_append, cat_one, gcat_append, gcat_one]
    rfl
  refine ⟨v', h5, _, E5, M5.oneV, e6, ?_, fun d hd => ?_, keep_two p3 p2 q3⟩
  · show Hold _ _
    rw [eth]; exact s1
  · rw [eth] at hd
    exact (p2.trans q2 K5.1) d (s2 d hd)
set_option maxHeartbeats 1000000 in
theorem rnew_ok (k : Nat) (hk : 30 < k) (h : Heap) (P Q : Nat) (hP : 1 ≤ P) (hP2 : P ≤ 64) (hQ : 64 ≤ Q) (hQ2 : Q ≤ 65536) :
    ∃ v' h', acall Try.prog (k + 1) 39 [.int .i64 (P : Nat), .int .i64 (Q : Nat)] h = some (v', h') ∧ ∃ (b : Nat) (cls : List Rc) (vc : AV), v' = .tup [.ptr b 0, .int .i64 0] ∧ Wd h h' (Rb.th ⟨Q, P, cls⟩ b vc) ∧ FreshR cls ∧
      1 ≤ cls.length ∧ cls.length ≤ 11 ∧ 64 * 2 ^ (cls.length - 1) ≤ Q ∧ Q < 64 * 2 ^ cls.length := by
  have W1 : Wd h (h.new (.cells [.int .i64 (Q : Nat), .int .i64 (P : Nat), .nils] false)) (Rb.th ⟨Q, P, []⟩ h.next .nils) :=
    ((Wd.start h).cons (Keep.refl _ _ _) (v := .nils) (o := .vec 5 0 []) (Mine.nil _ _) (fun d hd => by cases hd)).cons (Keep.new (Nat.le_refl _) _) (v := .ptr h.next 0) (o := .blk [.int .i64 (Q : Nat), .int .i64 (P : Nat), .nils]) ⟨h.next, rfl, Nat.lt_succ_self _, get_new_self _ _⟩ (fun d hd => by cases hd; exact Nat.le_refl _)
  obtain ⟨h1, e1⟩ : ∃ h1, h.new (.cells [.int .i64 (Q : Nat), .int .i64 (P : Nat), .nils] false) = h1 := ⟨_, rfl⟩
  rw [e1] at W1
  have rwN : (AV.agg [.int .i64 (Q : Nat), .int .i64 (P : Nat), .nils]).row1 = some [.int .i64 (Q : Nat), .int .i64 (P : Nat), .nils] := rfl
  rw [acall_text [] Try.func39 (by kernel_rfl)]
  refine afuncT_ex rfl (by simp [Try.f39]) ?_
  simp [Try.f39, isLe (show (1 : Int) ≤ (P : Int) by omega), isLe (show (P : Int) ≤ 64 by omega), isLe (show (64 : Int) ≤ (Q : Int) by omega), isLe (show (Q : Int) ≤ 65536 by omega), afill, aalloc, rwN, e1]
  obtain ⟨b, hb⟩ : ∃ b, b = h.next := ⟨_, rfl⟩
  rw [← hb] at W1 ⊢
  have pw : ∀ i : Nat, 64 * 2 ^ i ≤ Q → i ≤ 10 := fun i hi => by
    have : ¬ 11 ≤ i := fun q => by
      have : 2 ^ 11 ≤ 2 ^ i := Nat.pow_le_pow_right (by omega) q
      have : (2 : Nat) ^ 11 = 2048 := rfl
      omega
    omega
  refine W_cutLoop 0 (fun st => st.t.get 6 = some (.ptr b 0) ∧ ∃ (cls : List Rc) (vc : AV), Wd h st.h (Rb.th ⟨Q, P, cls⟩ b vc) ∧ FreshR cls ∧ 1 ≤ cls.length ∧ cls.length ≤ 11 ∧ 64 * 2 ^ (cls.length - 1) ≤ Q ∧ Q < 64 * 2 ^ cls.length) ?_ ?_
  · refine W_loop (fun m st => ∃ (cls : List Rc) (vc : AV), m = 12 - cls.length ∧ st.t.get 1 = some (.int .i64 (Q : Nat)) ∧ st.t.get 6 = some (.ptr b 0) ∧ st.t.get 7 = some (.int .i64 ((64 * 2 ^ cls.length : Nat) : Int)) ∧ (cls.length = 0 ∨ 64 * 2 ^ (cls.length - 1) ≤ Q) ∧
      Wd h st.h (Rb.th ⟨Q, P, cls⟩ b vc) ∧ FreshR cls) 12 (by omega)
      ⟨[], .nils, rfl, rfl, by simp [hb], rfl, .inl rfl, W1, fun j c hc => by simp at hc⟩ ?_
    rintro m ⟨t, h2⟩ ⟨cls, vc, rfl, q1, q6, q7, hl, W, F⟩
    simp only at q1 q6 q7 W
    have hl10 : cls.length ≤ 11 := by
      rcases hl with z | z
      · omega
      · have := pw _ z; omega
    obtain ⟨S, hS⟩ : ∃ S, S = 64 * 2 ^ cls.length := ⟨_, rfl⟩
    have hS2 : 64 * 2 ^ (cls.length + 1) = 2 * S := by rw [hS, Nat.pow_succ]; omega
    have hS3 : S ≤ 131072 := by
      have : 2 ^ cls.length ≤ 2 ^ 11 := Nat.pow_le_pow_right (by omega) hl10
      have e : (2 : Nat) ^ 11 = 2048 := rfl
      omega
    rw [← hS] at q7
    by_cases hlt : S ≤ Q
    · have := pw _ (hS ▸ hlt)
      obtain ⟨v', h5, h6, E5, ov, E6, O6, f6, K6⟩ := RO.snoc W.own (by simp only; omega) S
      have ro := row1_one ov
      have rwC : (AV.agg [.int .i64 (S : Nat), .int .i64 0, .nils, .nils, .nils]).row1 = some [.int .i64 (S : Nat), .int .i64 0, .nils, .nils, .nils] := rfl
      have l2 := RO.ld2 W.own (ty := 64) ta64
      have w7 := i64w ((S : Int) * 2) (by omega) (by omega)
      have F' : FreshR (cls ++ [rc0 S]) := fun j c hc => by
        rw [List.getElem?_append] at hc
        split at hc
        · exact F j c hc
        · rename_i hj
          have hj2 : j - cls.length = 0 := by
            have := (List.getElem?_eq_some_iff.1 hc).1
            simp at this
            exact this
          rw [hj2] at hc
          have : j = cls.length := by omega
          simp at hc
          subst hc
          subst this
          exact ⟨hS, rfl, rfl, rfl, rfl⟩
      have W6 := W.step O6 f6 K6
      simp [q1, q6, q7, isLe (show (S : Int) ≤ (Q : Int) by omega), l2, afill, aalloc, ro, rwC, E5, E6, w7]
      have hS4 : (S : Int) * 2 = 64 * 2 ^ (cls.length + 1) := by
        have : ((64 * 2 ^ (cls.length + 1) : Nat) : Int) = ((2 * S : Nat) : Int) := by rw [hS2]
        push_cast at this
        rw [this]; omega
      refine ⟨12 - (cls.length + 1), by omega, cls ++ [rc0 S], by simp, ?_, .inr ?_, ⟨v', W6⟩, F'⟩
      · rw [List.length_append, List.length_singleton]; exact hS4
      · rw [List.length_append, List.length_singleton, Nat.add_sub_cancel, ← hS]; exact hlt
    · simp [q1, q6, q7, isLt (show (Q : Int) < (S : Int) by omega)]
      rw [hS] at hlt
      have h0 : cls.length ≠ 0 := fun z => by rw [z] at hlt; omega
      exact ⟨cls, ⟨vc, W⟩, F, by omega, hl10, hl.resolve_left h0, by omega⟩
  rintro ⟨t, h2⟩ ⟨q6, cls, vc, W, F, l1, l2, l3, l4⟩
  simp only at q6 W
  simp [q6]
  exact ⟨cls, ⟨vc, W⟩, F, l1, l2, l3, l4⟩
theorem rclass_ok (k : Nat) (hk : 30 < k) (h : Heap) (b : Nat) (r : Rb) (vc : AV) (O : RO h b r vc) (hl : r.cls.length ≤ 20) (n : Nat) :
    ∃ v' h', acall Try.prog (k + 1) 42 [.ptr b 0, .int .i64 (n : Nat)] h = some (v', h') ∧ h' = h ∧ v' = .int .i64 (match clsS (n : Nat) (r.cls.map (·.size)) with | some i => (i : Nat) | none => -1) := by
  rw [acall_text [] Try.func42 (by kernel_rfl)]
  refine afuncT_ex rfl (by simp [Try.f42]) ?_
  have l2 := RO.ld2 O (ty := 64) ta64
  have sl := (RO.own O).sl
  have ll := sl.len'
  simp [Try.f42]
  refine W_loop (fun m st => ∃ (i : Nat), m = r.cls.length - i ∧ i ≤ r.cls.length ∧ (∀ c : Nat, c ∈ (r.cls.map (·.size)).take i → (c : Int) < (n : Nat)) ∧ st.t.get 0 = some (.ptr b 0) ∧ st.t.get 1 = some (.int .i64 (n : Nat)) ∧ st.t.get 5 = some (.int .i64 (i : Nat)) ∧ st.h = h) r.cls.length (by omega)
    ⟨0, by simp, by omega, fun c hc => by simp at hc, by simp, by simp, by simp, rfl⟩ ?_
  rintro m ⟨t, h2⟩ ⟨i, rfl, hi, hno, q0, q1, q5, e2⟩
  simp only at q0 q1 q5 e2
  replace e2 := e2.symm
  subst e2
  have hs := clsS_skip (n : Nat) i _ hno
  by_cases hlt : i < r.cls.length
  · obtain ⟨c, hc⟩ : ∃ c, r.cls[i]? = some c := ⟨r.cls[i], by simp⟩
    have ix := sl.idx (P := Try.prog) Try.underlying64 ts91 (j := i) hlt .i64
    have l0 := RO.ldc O hc (o := 0) (x := .int .i64 (c.size : Nat)) (by omega) rfl (ty := 3) ta3
    have hd : (r.cls.map (·.size)).drop i = c.size :: (r.cls.map (·.size)).drop (i + 1) := by
      rw [← List.map_drop, ← List.map_drop]
      obtain ⟨z1, z2⟩ := List.getElem?_eq_some_iff.1 hc
      rw [List.drop_eq_getElem_cons z1, z2]; rfl
    rw [hd] at hs
    simp only [clsS] at hs
    simp only [Nat.add_zero] at l0
    by_cases hc2 : n ≤ c.size
    · rw [if_pos (by omega)] at hs
      simp [q0, q1, q5, l2, ll, isLt (show (i : Int) < (r.cls.length : Int) by omega), isLe (show (0 : Int) ≤ (n : Int) by omega), ix, l0, isLe (show (n : Int) ≤ (c.size : Int) by omega), hs]
    · rw [if_neg (by omega)] at hs
      simp [q0, q1, q5, l2, ll, isLt (show (i : Int) < (r.cls.length : Int) by omega), isLe (show (0 : Int) ≤ (n : Int) by omega), ix, l0, isLt (show (c.size : Int) < (n : Int) by omega), i64w ((i : Int) + 1) (by omega) (by omega)]
      refine ⟨r.cls.length - (i + 1), by omega, i + 1, rfl, by omega, fun c' hc' => ?_, by omega⟩
      rw [List.take_add_one, List.getElem?_map, hc] at hc'
      rcases List.mem_append.1 hc' with z | z
      · have := hno c' z; omega
      · simp at z; subst z; omega
  · rw [List.drop_of_length_le (by rw [List.length_map]; omega)] at hs
    simp only [clsS, Option.map_none] at hs
    have : i = r.cls.length := by omega
    subst this
    simp [q0, q1, q5, l2, ll, hs]
/-- Is a chunk live? -/
def thereR (r : Rb) (ci ch : Int) : Bool := if ci < 0 then false else match r.cls[ci.toNat]? with
  | none => false
  | some c => if ch < 0 then false else (c.live[ch.toNat]?).getD false
theorem there_ok (k : Nat) (h : Heap) (b : Nat) (r : Rb) (vc : AV) (O : RO h b r vc) (hl : ∀ (j : Nat) (c : Rc), r.cls[j]? = some c → c.live.length = c.count) (ci ch : Int) :
    ∃ v' h', acall Try.prog (k + 1) 44 [.ptr b 0, .agg [.int .i64 ci, .int .i64 ch]] h = some (v', h') ∧ v' = .bool (thereR r ci ch) ∧ Keep h.next nob h h' := by
  have rwH : (AV.agg [.int .i64 ci, .int .i64 ch]).row1 = some [.int .i64 ci, .int .i64 ch] := rfl
  obtain ⟨h1, e1⟩ : ∃ h1, h.new (.cells [.int .i64 ci, .int .i64 ch] false) = h1 := ⟨_, rfl⟩
  have k1 : Keep h.next nob h h1 := by rw [← e1]; exact Keep.new (Nat.le_refl _) _
  have g1 : h1.get h.next = some (.cells [.int .i64 ci, .int .i64 ch] false) := by rw [← e1]; exact get_new_self _ _
  have l0 := ldc (P := Try.prog) (ty := 3) g1 ta3 (i := 0) (x := .int .i64 ci) rfl
  have l1 := ldc (P := Try.prog) (ty := 3) g1 ta3 (i := 1) (x := .int .i64 ch) rfl
  have O1 : RO h1 b r vc := Hold.ext O k1
  have sl := (RO.own O1).sl.len'
  have l2 := RO.ld2 O1 (ty := 64) ta64
  unfold thereR
  rw [acall_text [] Try.func44 (by kernel_rfl)]
  refine afuncT_ex rfl (by simp [Try.f44]) ?_
  by_cases c0 : ci < 0
  · rw [if_pos c0]
    simp [Try.f44, rwH, e1, l0, isLt c0]
    exact k1
  rw [if_neg c0]
  obtain ⟨i, rfl⟩ := Int.eq_ofNat_of_zero_le (show 0 ≤ ci by omega)
  rw [Int.toNat_natCast]
  by_cases hil : i < r.cls.length
  rotate_left
  · rw [List.getElem?_eq_none (by omega)]
    simp [Try.f44, rwH, e1, l0, l2, sl, isLe (show (0 : Int) ≤ (i : Int) by omega), isLe (show (r.cls.length : Int) ≤ (i : Int) by omega)]
    exact k1
  obtain ⟨c, hc⟩ : ∃ c, r.cls[i]? = some c := ⟨r.cls[i], by simp⟩
  rw [hc]
  simp only
  by_cases d0 : ch < 0
  · rw [if_pos d0]
    simp [Try.f44, rwH, e1, l0, l1, l2, sl, isLe (show (0 : Int) ≤ (i : Int) by omega), isLt (show (i : Int) < (r.cls.length : Int) by omega), isLt d0]
    exact k1
  rw [if_neg d0]
  obtain ⟨K, rfl⟩ := Int.eq_ofNat_of_zero_le (show 0 ≤ ch by omega)
  rw [Int.toNat_natCast]
  have hcl := hl i c hc
  have ix := (RO.own O1).sl.idx (P := Try.prog) Try.underlying64 ts91 (j := i) hil .i64
  have lc := RO.ldc O1 hc (o := 1) (x := .int .i64 (c.count : Nat)) (by omega) rfl (ty := 3) ta3
  by_cases hK : K < c.count
  rotate_left
  · rw [List.getElem?_eq_none (by omega)]
    simp [Try.f44, rwH, e1, l0, l1, l2, sl, isLe (show (0 : Int) ≤ (i : Int) by omega), isLt (show (i : Int) < (r.cls.length : Int) by omega), isLe (show (0 : Int) ≤ (K : Int) by omega), ix, lc, isLe (show (c.count : Int) ≤ (K : Int) by omega)]
    exact k1
  obtain ⟨B, hB⟩ : ∃ B, c.live[K]? = some B := ⟨c.live[K]'(by omega), by simp⟩
  rw [hB]
  have ll := RO.ldc O1 hc (o := 4) (x := c.lv) (by omega) rfl (ty := 39) ta39
  have ixl := (RO.live O1 hc).sl.idx1 (P := Try.prog) Try.underlying39 ts4 (j := K) (by omega) .i64
  have ldl := (RO.live O1 hc).sl.ld (P := Try.prog) (e := 4) ta4 (j := K) (x := .bool B) (by rw [List.getElem?_map, hB]; rfl)
  simp [Try.f44, rwH, e1, l0, l1, l2, sl, isLe (show (0 : Int) ≤ (i : Int) by omega), isLt (show (i : Int) < (r.cls.length : Int) by omega), isLe (show (0 : Int) ≤ (K : Int) by omega), ix, lc, isLt (show (K : Int) < (c.count : Int) by omega), ll, ixl, ldl]
  exact k1
/-- What is read. -/
def readR (r : Rb) (ci ch : Int) : Option ByteArray := if thereR r ci ch = true then some ((((r.cls[ci.toNat]?).bind fun c => c.data[ch.toNat]?)).getD .empty) else none
theorem there_at {r : Rb} {ci ch : Int} (h : thereR r ci ch = true) : ∃ (i K : Nat) (c : Rc), ci = (i : Nat) ∧ ch = (K : Nat) ∧ r.cls[i]? = some c ∧ c.live[K]? = some true := by
  unfold thereR at h
  split at h
  · cases h
  · rename_i h0
    split at h
    · cases h
    · rename_i c hc
      split at h
      · cases h
      · rename_i h1
        obtain ⟨i, rfl⟩ := Int.eq_ofNat_of_zero_le (show 0 ≤ ci by omega)
        obtain ⟨K, rfl⟩ := Int.eq_ofNat_of_zero_le (show 0 ≤ ch by omega)
        rw [Int.toNat_natCast] at hc h
        refine ⟨i, K, c, rfl, rfl, hc, ?_⟩
        cases hq : c.live[K]? with
        | none => rw [hq] at h; cases h
        | some B => rw [hq] at h; rw [show B = true from h]
theorem rread_ok (k : Nat) (h : Heap) (b : Nat) (r : Rb) (vc : AV) (O : RO h b r vc) (hl : ∀ (j : Nat) (c : Rc), r.cls[j]? = some c → c.live.length = c.count ∧ c.data.length = c.count) (ci ch : Int) :
    ∃ v' h', acall Try.prog (k + 2) 22 [.ptr b 0, .agg [.int .i64 ci, .int .i64 ch]] h = some (v', h') ∧ v' = .tup [.str ((readR r ci ch).getD .empty), .bool (readR r ci ch).isSome] ∧ Keep h.next nob h h' := by
  have rwH : (AV.agg [.int .i64 ci, .int .i64 ch]).row1 = some [.int .i64 ci, .int .i64 ch] := rfl
  obtain ⟨h1, e1⟩ : ∃ h1, h.new (.cells [.int .i64 ci, .int .i64 ch] false) = h1 := ⟨_, rfl⟩
  have k1 : Keep h.next nob h h1 := by rw [← e1]; exact Keep.new (Nat.le_refl _) _
  have n1 : h.next < h1.next := by rw [← e1]; exact Nat.lt_succ_self _
  have g1 : h1.get h.next = some (.cells [.int .i64 ci, .int .i64 ch] false) := by rw [← e1]; exact get_new_self _ _
  have lH : aload Try.prog h1 58 h.next 0 = some (.agg [.int .i64 ci, .int .i64 ch]) := by simp [aload, Heap.row, g1, ta58, ts58]
  obtain ⟨_, h2, E2, rfl, k2⟩ := there_ok k h1 b r vc (Hold.ext O k1) (fun j c hc => (hl j c hc).1) ci ch
  have K2 := k1.trans (k2.weak k1.1 fun _ _ q => q)
  unfold readR
  rw [acall_text [] Try.func22 (by kernel_rfl)]
  refine afuncT_ex rfl (by simp [Try.f22]) ?_
  cases ht : thereR r ci ch with
  | false =>
    rw [ht] at E2
    simp [Try.f22, rwH, e1, lH, E2]
    exact ⟨rfl, K2⟩
  | true =>
    rw [ht] at E2
    obtain ⟨i, K, c, rfl, rfl, hc, hB⟩ := there_at ht
    have hil := (List.getElem?_eq_some_iff.1 hc).1
    have hKl := (List.getElem?_eq_some_iff.1 hB).1
    obtain ⟨hl1, hl2⟩ := hl i c hc
    obtain ⟨d, hd⟩ : ∃ d, c.data[K]? = some d := ⟨c.data[K]'(by omega), by simp⟩
    have g2 : h2.get h.next = some (.cells [.int .i64 (i : Nat), .int .i64 (K : Nat)] false) := (k2.2 _ n1 id).trans g1
    have l0 := ldc (P := Try.prog) (ty := 3) g2 ta3 (i := 0) (x := .int .i64 (i : Nat)) rfl
    have l1 := ldc (P := Try.prog) (ty := 3) g2 ta3 (i := 1) (x := .int .i64 (K : Nat)) rfl
    have O2 : RO h2 b r vc := Hold.ext O K2
    have l2 := RO.ld2 O2 (ty := 64) ta64
    have ix := (RO.own O2).sl.idx (P := Try.prog) Try.underlying64 ts91 (j := i) hil .i64
    have ld := RO.ldc O2 hc (o := 3) (x := c.dv) (by omega) rfl (ty := 26) ta26
    have ixd := (RO.data O2 hc).sl.idx1 (P := Try.prog) Try.underlying26 ts9 (j := K) (by omega) .i64
    have ldd := (RO.data O2 hc).sl.ld (P := Try.prog) (e := 9) ta9 (j := K) (x := .str d) (by rw [List.getElem?_map, hd]; rfl)
    simp [Try.f22, rwH, e1, lH, E2, l0, l1, l2, ix, ld, ixd, ldd, hc, hd]
    exact K2
end Go.Proofs.Ytelnkdgpghndgaa
/- Contracts of depotref5.Slab: Free. -/
namespace Go.Proofs.Ytelnkdgpghndgaa
open Go Go.YtelnkdgpghndgaaAbs
set_option linter.unusedSimpArgs false
set_option linter.unusedVariables false
set_option maxRecDepth 4000

section
variable {h h1 : Heap} {b : Nat} {r : Rb} {vc : AV}
/-- A class's slice is written where it stands. -/
theorem RO.updE (O : RO h b r vc) {i : Nat} {c c2 : Rc} (hi : r.cls[i]? = some c) {w : Nat} (hw : w < 3) {v : AV} {o o' : Ob} (hv : c.th[w]? = some (v, o)) (hc : c2.c = c.c) (ht : c.th.set w (v, o') = c2.th) (K : Keep h.next (Has v) h h1) (H : Holds h1 v o') :
    Stp h (r.th b vc) h1 (Rb.th { r with cls := r.cls.set i c2 } b vc) := by
  have e1 : (r.th b vc)[i * 3 + w + 2]? = some (v, o) := by
    have := gcat_get (f := Rc.th) Rc.th_len hi (o := w) hw
    rw [hv] at this
    exact this
  obtain ⟨q1, q2, q3⟩ := Hold.upd O e1 K H (From.refl _ _)
  have e3 : cat Rc.c (r.cls.set i c2) = cat Rc.c r.cls := by
    unfold cat
    rw [List.map_set, hc, set_same' (by rw [List.getElem?_map, hi]; rfl)]
  have e2 : Rb.th { r with cls := r.cls.set i c2 } b vc = (r.th b vc).set (i * 3 + w + 2) (v, o') := by
    unfold Rb.th
    simp only [List.length_set, e3]
    rw [← gcat_set (f := Rc.th) Rc.th_len hi hw ht]
    rfl
  rw [e2]
  exact ⟨q1, q2, q3⟩
theorem RO.upd' (O : RO h b r vc) {i : Nat} {c : Rc} (hi : r.cls[i]? = some c) (c2 : Rc) {w : Nat} (hw : w < 3) {v v' : AV} {o o' : Ob} (hv : c.th[w]? = some (v, o)) (hc : c.c.set (w + 2) v' = c2.c) (ht : c.th.set w (v', o') = c2.th) (K : Keep h.next (Has v) h h1) (H : Holds h1 v' o') (Fr : From h v v') (hone : v'.one = true) :
    ∃ h2, alay h1 vc.blk (vc.off + i * 5 + (w + 2)) [v'] = some h2 ∧ Stp h (r.th b vc) h2 (Rb.th { r with cls := r.cls.set i c2 } b vc) ∧ h2.next = h1.next := by
  obtain ⟨h2, a1, a2, a3, a4, a5⟩ := RO.upd O hi hw hv hc ht K H Fr hone
  exact ⟨h2, a1, ⟨a2, a3, a4⟩, a5⟩
end
/-- What is asked of a class of the document's. -/
structure RcI (c : Rc) : Prop where
  dl : c.data.length = c.count
  ll : c.live.length = c.count
  cs : c.count ≤ 1000000
  fl : c.free.length ≤ 1000000
def RbI (r : Rb) : Prop := ∀ (j : Nat) (c : Rc), r.cls[j]? = some c → RcI c
theorem rfree_no (k : Nat) (h : Heap) (b : Nat) (r : Rb) (vc : AV) (O : RO h b r vc) (I : RbI r) (ci ch : Int) (ht : thereR r ci ch = false) :
    ∃ v' h', acall Try.prog (k + 2) 51 [.ptr b 0, .agg [.int .i64 ci, .int .i64 ch]] h = some (v', h') ∧ v' = .bool false ∧ Keep h.next nob h h' := by
  have rwH : (AV.agg [.int .i64 ci, .int .i64 ch]).row1 = some [.int .i64 ci, .int .i64 ch] := rfl
  obtain ⟨h1, e1⟩ : ∃ h1, h.new (.cells [.int .i64 ci, .int .i64 ch] false) = h1 := ⟨_, rfl⟩
  have k1 : Keep h.next nob h h1 := by rw [← e1]; exact Keep.new (Nat.le_refl _) _
  have g1 : h1.get h.next = some (.cells [.int .i64 ci, .int .i64 ch] false) := by rw [← e1]; exact get_new_self _ _
  have lH : aload Try.prog h1 58 h.next 0 = some (.agg [.int .i64 ci, .int .i64 ch]) := by simp [aload, Heap.row, g1, ta58, ts58]
  obtain ⟨_, h2, E2, rfl, k2⟩ := there_ok k h1 b r vc (Hold.ext O k1) (fun j c hc => (I j c hc).ll) ci ch
  rw [ht] at E2
  have K2 := k1.trans (k2.weak k1.1 fun _ _ q => q)
  rw [acall_text [4, 5] Try.func51 (by kernel_rfl)]
  refine afuncT_ex rfl (by simp [Try.f51]) ?_
  simp [Try.f51, rwH, e1, lH, E2]
  exact K2
set_option maxHeartbeats 2000000 in
theorem rfree_ok (k : Nat) (h : Heap) (b : Nat) (r : Rb) (vc : AV) (O : RO h b r vc) (I : RbI r) (i K : Nat) (c : Rc) (hc : r.cls[i]? = some c) (hB : c.live[K]? = some true) :
    ∃ v' h', acall Try.prog (k + 2) 51 [.ptr b 0, .agg [.int .i64 (i : Nat), .int .i64 (K : Nat)]] h = some (v', h') ∧ v' = .bool true ∧
      ∃ c2 : Rc, c2.size = c.size ∧ c2.count = c.count ∧ c2.free = c.free ++ [K] ∧ c2.data = c.data.set K .empty ∧ c2.live = c.live.set K false ∧ Stp h (r.th b vc) h' (Rb.th { r with cls := r.cls.set i c2 } b vc) := by
  have J := I i c hc
  have hil := (List.getElem?_eq_some_iff.1 hc).1
  have hKl := (List.getElem?_eq_some_iff.1 hB).1
  have hKd : K < c.data.length := by rw [J.dl, ← J.ll]; exact hKl
  have ht : thereR r (i : Nat) (K : Nat) = true := by
    unfold thereR
    rw [if_neg (by omega), Int.toNat_natCast, hc]
    simp only
    rw [if_neg (by omega), Int.toNat_natCast, hB]
    rfl
  have rwH : (AV.agg [.int .i64 (i : Nat), .int .i64 (K : Nat)]).row1 = some [.int .i64 (i : Nat), .int .i64 (K : Nat)] := rfl
  obtain ⟨n0, hn0⟩ : ∃ n0, n0 = h.next := ⟨_, rfl⟩
  obtain ⟨h1, e1⟩ : ∃ h1, h.new (.cells [.int .i64 (i : Nat), .int .i64 (K : Nat)] false) = h1 := ⟨_, rfl⟩
  have k1 : Keep h.next nob h h1 := by rw [← e1]; exact Keep.new (Nat.le_refl _) _
  have H1 : Holds h1 (.ptr n0 0) (.blk [.int .i64 (i : Nat), .int .i64 (K : Nat)]) := ⟨n0, rfl, by rw [← e1, hn0]; exact Nat.lt_succ_self _, by rw [← e1, hn0]; exact get_new_self _ _⟩
  have S1 := (Stp.refl O).snoc k1 H1 (fun d hd => by cases hd; omega)
  have gB : ∀ {h' : Heap} {A : List Th}, Hold h' (A ++ [(.ptr n0 0, .blk [.int .i64 (i : Nat), .int .i64 (K : Nat)])]) → h'.get n0 = some (.cells [.int .i64 (i : Nat), .int .i64 (K : Nat)] false) ∧ n0 < h'.next := fun z => by
    obtain ⟨b', q1, q2, q3⟩ := (own_append.1 z).2.1.get (i := 0) (v := .ptr n0 0) (o := .blk [.int .i64 (i : Nat), .int .i64 (K : Nat)]) rfl
    cases q1
    exact ⟨q3, q2⟩
  have lH : aload Try.prog h1 58 n0 0 = some (.agg [.int .i64 (i : Nat), .int .i64 (K : Nat)]) := by simp [aload, Heap.row, (gB S1.own).1, ta58, ts58]
  obtain ⟨_, h2, E2, rfl, k2⟩ := there_ok k h1 b r vc S1.a (fun j c hc => (I j c hc).ll) (i : Nat) (K : Nat)
  rw [ht] at E2
  have S2 := S1.ext k2
  obtain ⟨g2, n2⟩ := gB S2.own
  have O2 := S2.a
  have l0 := ldc (P := Try.prog) (ty := 3) g2 ta3 (i := 0) (x := .int .i64 (i : Nat)) rfl
  have l1 := ldc (P := Try.prog) (ty := 3) g2 ta3 (i := 1) (x := .int .i64 (K : Nat)) rfl
  have l2 := RO.ld2 O2 (ty := 64) ta64
  have ix := (RO.own O2).sl.idx (P := Try.prog) Try.underlying64 ts91 (j := i) hil .i64
  have ll4 := RO.ldc O2 hc (o := 4) (x := c.lv) (by omega) rfl (ty := 39) ta39
  have ld3 := RO.ldc O2 hc (o := 3) (x := c.dv) (by omega) rfl (ty := 26) ta26
  have ixl := (RO.live O2 hc).sl.idx1 (P := Try.prog) Try.underlying39 ts4 (j := K) hKl .i64
  have ixd := (RO.data O2 hc).sl.idx1 (P := Try.prog) Try.underlying26 ts9 (j := K) hKd .i64
  obtain ⟨hv, vlt⟩ := RO.vlt O2 hc
  obtain ⟨h3, E3, M3, K3, n3⟩ := (RO.live O2 hc).lay1 (j := K) (x := .bool false) hKl rfl
  have T3 := RO.updE O2 hc (c2 := { c with live := c.live.set K false }) (w := 2) (by omega) rfl rfl (o' := .vec 1 (c.live.set K false).length ((c.live.set K false).map bv)) rfl K3 (by rw [List.map_set, List.length_set]; exact M3)
  have S3 := S2.op T3
  have hc3 : ({ r with cls := r.cls.set i { c with live := c.live.set K false } } : Rb).cls[i]? = some { c with live := c.live.set K false } := by simp [hil]
  have O3 := S3.a
  obtain ⟨h4, E4, M4, K4, n4⟩ := (RO.data O3 hc3).lay1 (j := K) (x := .str .empty) hKd rfl
  have E4 : alay h3 c.dv.blk (c.dv.off + K) [AV.str ⟨#[]⟩] = some h4 := E4
  have T4 := RO.updE O3 hc3 (c2 := { c with live := c.live.set K false, data := c.data.set K .empty }) (w := 1) (by omega) rfl rfl (o' := .vec 1 (c.data.set K .empty).length ((c.data.set K .empty).map sv)) rfl K4 (by rw [List.map_set, List.length_set]; exact M4)
  have S4 := S3.op T4
  simp only [List.set_set] at S4
  have hc4 : ({ r with cls := r.cls.set i { c with live := c.live.set K false, data := c.data.set K .empty } } : Rb).cls[i]? = some { c with live := c.live.set K false, data := c.data.set K .empty } := by simp [hil]
  have O4 := S4.a
  obtain ⟨g4, nn4⟩ := gB S4.own
  have l14 := ldc (P := Try.prog) (ty := 3) g4 ta3 (i := 1) (x := .int .i64 (K : Nat)) rfl
  have lf4 := RO.ldc O4 hc4 (o := 2) (x := c.fv) (by omega) rfl (ty := 44) ta44
  obtain ⟨v5, h5, E5, M5, F5, K5⟩ := (RO.free O4 hc4).push (P := Try.prog) el44 (a := [nn K]) (ex := true) rfl rfl (by have := J.fl; simp only; omega)
  have E5 : aappend Try.prog (h4.new (.cells [.int .i64 (K : Nat)] false)) 44 44 c.fv (.sl h4.next 0 1 1 1 true) = some (v5, h5) := E5
  obtain ⟨h6, E6, T6, n6⟩ := RO.upd' O4 hc4 { c with live := c.live.set K false, data := c.data.set K .empty, free := c.free ++ [K], fv := v5 } (w := 0) (by omega) rfl rfl (o' := .vec 1 (c.free ++ [K]).length ((c.free ++ [K]).map nn)) rfl K5 (by rw [List.length_append, List.length_singleton, List.map_append]; exact M5) F5 M5.oneV
  have S6 := S4.op T6
  simp only [List.set_set] at S6
  have ro := row1_one M5.oneV
  have rwi : (AV.int .i64 (K : Nat)).row1 = some [.int .i64 (K : Nat)] := rfl
  have fin : Stp h (r.th b vc) h6 (Rb.th { r with cls := r.cls.set i { c with live := c.live.set K false, data := c.data.set K .empty, free := c.free ++ [K], fv := v5 } } b vc) := S6.drop
  have G3 : AgreeG (fun d => Has vc d ∨ d = n0) h2 h3 := fun d hd => by
    have at4 := (RO.at O2 hc).2.2
    rcases hd with hd | hd
    · exact K3.2 d ((RO.own O2).lt hd) (Hold.ne O2 (i := 1) rfl at4 (by omega) hd)
    · rw [hd]
      exact K3.2 n0 n2 (fun q => (own_append.1 S2.own).2.2 n0 (in_iff.2 ⟨_, List.mem_of_getElem? at4, q⟩) (in_iff.2 ⟨_, List.mem_singleton.2 rfl, rfl⟩))
  have hn4 : ∀ d, (Has vc d ∨ d = n0) → d < h4.next := fun d hd => by
    rcases hd with hd | rfl
    · exact (RO.own O4).lt hd
    · exact nn4
  have G5 : AgreeG (fun d => Has vc d ∨ d = n0) h4 (h4.new (.cells [.int .i64 (K : Nat)] false)) := fun d hd => by
    have := hn4 d hd
    rw [Heap.get_new, if_neg (by omega)]
  have sl := (RO.live O2 hc).sl.same
  have sd := (RO.data O2 hc).sl.same
  have sf := (RO.free O4 hc4).sl.same
  simp only at sf
  rw [acall_text [4, 5] Try.func51 (by kernel_rfl)]
  refine afuncT_ex rfl (by simp [Try.f51]) ?_
  simp [Try.f51, rwH, e1, ← hn0, lH, E2, l2, l0, ix]
  refine W_lateG [0, 1, 3, 7, 0, 16, 0, 64, 192, 448, 0, 1024, 1023, 5119, 16383, 32767] [] 14 (fun d => Has vc d ∨ d = n0) (by rfl) (by kernel_rfl) (by kernel_rfl) (by kernel_rfl) (by kernel_rfl) (fun d hd => by
    rcases hd with hd | rfl
    · exact (RO.own O2).lt hd
    · exact n2) ?_
  simp [resv, nextOk, freeOk, memN, isEff, isAlloc, isStore, mayEff, mayRead, insFl, oblG, sameAV, sl, sd, hv, AV.row1, AV.row, AV.one, l1, ll4, ld3, ixl, ixd, E3, G3, E4]
  refine W_lateG [0, 0, 2, 6, 14, 0, 32, 96, 254, 511, 1023, 2047] [] 8 (fun d => Has vc d ∨ d = n0) (by rfl) (by kernel_rfl) (by kernel_rfl) (by kernel_rfl) (by kernel_rfl) hn4 ?_
  simp [resv, nextOk, freeOk, memN, isEff, isAlloc, isStore, mayEff, mayRead, insFl, oblG, sameAV, sf, hv, rwi, aalloc, afill, l14, lf4, G5, E5, ro, E6]
  exact ⟨{ c with live := c.live.set K false, data := c.data.set K .empty, free := c.free ++ [K], fv := v5 }, rfl, rfl, rfl, rfl, rfl, fin⟩
end Go.Proofs.Ytelnkdgpghndgaa
/- slab: a class is changed. -/
namespace Go.Proofs.Ytelnkdgpghndgaa
open Go Go.YtelnkdgpghndgaaAbs
set_option linter.unusedSimpArgs false
set_option linter.unusedVariables false
set_option maxRecDepth 4000

theorem set_same {α : Type} {l : List α} {j : Nat} {x : α} (h : l[j]? = some x) : l.set j x = l := by
  refine List.ext_getElem? fun i => ?_
  have hj := (List.getElem?_eq_some_iff.1 h).1
  by_cases hij : j = i
  · subst hij; rw [List.getElem?_set_self hj, h]
  · rw [List.getElem?_set_ne hij]
section
variable {h h1 : Heap} {b : Nat} {s : Sb} {vc : AV}
theorem cat_setAt {cls : List Cl} {i : Nat} {c c2 : Cl} (hi : cls[i]? = some c) (hm : c2.mb = c.mb) : (cat Cl.at cls).set (i * 2) c2.fv = cat Cl.at (cls.set i c2) := by
  have hil := (List.getElem?_eq_some_iff.1 hi).1
  have := cat_set1 (f := Cl.at) (sz := 2) Cl.at_len (L := cls) (j := i) (x := c) (y := c2) hi (o := 0) (by omega) (a := c2.fv) (by simp [Cl.at, hm])
  rw [← this, List.set_eq_take_append_cons_drop, if_pos (by rw [cat_len Cl.at_len]; omega), List.append_assoc]
  rfl
theorem at_fv {cls : List Cl} {i : Nat} {c : Cl} (hi : cls[i]? = some c) : (cat Cl.at cls)[i * 2]? = some c.fv ∧ (cat Cl.at cls)[i * 2 + 1]? = some (.mp c.mb) :=
  ⟨by have := cat_get (f := Cl.at) (sz := 2) Cl.at_len hi (o := 0) (by omega); exact this, by have := cat_get (f := Cl.at) (sz := 2) Cl.at_len hi (o := 1) (by omega); exact this⟩
theorem SlO.pos (O : SlO h b s vc) {j k : Nat} {u w : AV} (hj : (.ptr b 0 :: vc :: cat Cl.at s.cls : List AV)[j]? = some u) (hk : (.ptr b 0 :: vc :: cat Cl.at s.cls : List AV)[k]? = some w) {d : Nat} (hu : Has u d) (hw : Has w d) : j = k := O.apart.get hj hk hu hw
/-- Where a class's things stand: not with anything else. -/
theorem SlO.fvNe (O : SlO h b s vc) {i : Nat} {c : Cl} (hi : s.cls[i]? = some c) {d : Nat} (hd : Has c.fv d) : d ≠ b ∧ ¬ Has vc d ∧ (∀ (j : Nat) (c' : Cl), s.cls[j]? = some c' → (Has c'.fv d → j = i) ∧ c'.mb ≠ d) := by
  have p := (at_fv hi).1
  refine ⟨fun q => ?_, fun q => ?_, fun j c' hj => ⟨fun q => ?_, fun q => ?_⟩⟩
  · have := O.pos (j := i * 2 + 2) (k := 0) (by simpa using p) rfl hd (show Has (.ptr b 0) d by rw [q]; rfl)
    omega
  · have := O.pos (j := i * 2 + 2) (k := 1) (by simpa using p) rfl hd q
    omega
  · have := O.pos (j := i * 2 + 2) (k := j * 2 + 2) (by simpa using p) (by simpa using (at_fv hj).1) hd q
    omega
  · have := O.pos (j := i * 2 + 2) (k := j * 2 + 1 + 2) (by simpa using p) (by simpa using (at_fv hj).2) hd (show Has (.mp c'.mb) d by rw [q]; rfl)
    omega
theorem SlO.mbNe (O : SlO h b s vc) {i : Nat} {c : Cl} (hi : s.cls[i]? = some c) : c.mb ≠ b ∧ ¬ Has vc c.mb ∧ (∀ (j : Nat) (c' : Cl), s.cls[j]? = some c' → ¬ Has c'.fv c.mb ∧ (c'.mb = c.mb → j = i)) := by
  have p := (at_fv hi).2
  refine ⟨fun q => ?_, fun q => ?_, fun j c' hj => ⟨fun q => ?_, fun q => ?_⟩⟩
  · have := O.pos (j := i * 2 + 1 + 2) (k := 0) (by simpa using p) rfl (show Has (.mp c.mb) c.mb from rfl) (show Has (.ptr b 0) c.mb by rw [q]; rfl)
    omega
  · have := O.pos (j := i * 2 + 1 + 2) (k := 1) (by simpa using p) rfl (show Has (.mp c.mb) c.mb from rfl) q
    omega
  · have := O.pos (j := i * 2 + 1 + 2) (k := j * 2 + 2) (by simpa using p) (by simpa using (at_fv hj).1) (show Has (.mp c.mb) c.mb from rfl) q
    omega
  · have := O.pos (j := i * 2 + 1 + 2) (k := j * 2 + 1 + 2) (by simpa using p) (by simpa using (at_fv hj).2) (show Has (.mp c.mb) c.mb from rfl) (show Has (.mp c'.mb) c.mb by rw [q]; rfl)
    omega
theorem SlO.vcb (O : SlO h b s vc) {d : Nat} (hd : Has vc d) : d ≠ b := fun q => by
  have := O.pos (j := 1) (k := 0) rfl rfl hd (show Has (.ptr b 0) d by rw [q]; rfl)
  omega
theorem set_mem {cls : List Cl} {i : Nat} {c2 x : Cl} (h : x ∈ cls.set i c2) : x = c2 ∨ ∃ j, j ≠ i ∧ cls[j]? = some x := by
  obtain ⟨j, hj⟩ := List.getElem?_of_mem h
  by_cases q : i = j
  · subst q
    have := (List.getElem?_eq_some_iff.1 hj).1
    rw [List.length_set] at this
    rw [List.getElem?_set_self this] at hj
    exact .inl (Option.some.inj hj).symm
  · rw [List.getElem?_set_ne q] at hj
    exact .inr ⟨j, fun z => q z.symm, hj⟩
/-- One cell of a class is written, behind what its free list did. -/
theorem SlO.upd (O : SlO h b s vc) {i : Nat} {c : Cl} (hi : s.cls[i]? = some c) (c2 : Cl) {o : Nat} (ho : o < 4) {a : AV} (hc2 : c.c.set o a = c2.c) (hm : c2.mb = c.mb) (hone : a.one = true) (hl : c2.live = c.live ∧ c2.cl = c.cl)
    (K1 : Keep h.next (Has c.fv) h h1) (M : Mine 1 c2.free.length h1 c2.fv (c2.free.map nn)) (Fr : From h c.fv c2.fv) :
    ∃ h2, alay h1 vc.blk (vc.off + (i * 4 + o)) [a] = some h2 ∧ SlO h2 b { s with cls := s.cls.set i c2 } vc ∧ (∀ d, d ∈ fpS b { s with cls := s.cls.set i c2 } vc → d ∈ fpS b s vc ∨ h.next ≤ d) ∧ Keep h.next (fun d => d ∈ fpS b s vc) h h2 := by
  have hil := (List.getElem?_eq_some_iff.1 hi).1
  have cm := List.mem_of_getElem? hi
  have own1 := O.own.keep K1 fun d hd q => (O.fvNe hi q).2.1 hd
  obtain ⟨h2, E2, M2, K2, n2⟩ := own1.lay (j := i * 4 + o) (vs := [a]) (by rw [cat_len Cl.c_len]; simp; omega) (by omega) (by simp [hone])
  have cs := cat_set1 (f := Cl.c) (sz := 4) Cl.c_len hi ho hc2
  have M2 : Mine 4 s.cls.length h2 vc (cat Cl.c (s.cls.set i c2)) := by
    rw [← cs]; exact M2
  have fv2 : ∀ d, Has c2.fv d → ¬ Has vc d ∧ d ≠ b := fun d hd => by
    rcases Fr d hd with z | z
    · exact ⟨(O.fvNe hi z).2.1, (O.fvNe hi z).1⟩
    · exact ⟨fun q => by have := O.own.lt q; omega, by have := O.lt; omega⟩
  have hn1 := K1.1
  refine ⟨h2, E2, ⟨?_, Nat.lt_of_lt_of_le O.lt (Nat.le_trans K1.1 K2.1), by simp only [List.length_set]; exact M2, ?_, ?_, ?_⟩, ?_, ?_⟩
  · rw [K2.2 b (Nat.lt_of_lt_of_le O.lt K1.1) (fun q => O.vcb q rfl), K1.2 b O.lt (fun q => (O.fvNe hi q).1 rfl)]
    exact O.str
  · intro x hx
    rcases set_mem hx with rfl | ⟨j, hj, hx⟩
    · exact M.keep K2 fun d hd => (fv2 d hd).1
    · exact ((O.free x (List.mem_of_getElem? hx)).keep K1 fun d hd q => hj (((O.fvNe hi q).2.2 j x hx).1 hd)).keep K2 fun d hd q => (O.fvNe hx hd).2.1 q
  · intro x hx
    have key : ∀ (j : Nat) (y : Cl), s.cls[j]? = some y → h2.get y.mb = some (.map (y.live.map me) y.cl) ∧ y.mb < h2.next := fun j y hy => by
      have := O.live y (List.mem_of_getElem? hy)
      refine ⟨?_, Nat.lt_of_lt_of_le this.2 (Nat.le_trans K1.1 K2.1)⟩
      rw [K2.2 _ (Nat.lt_of_lt_of_le this.2 K1.1) (fun q => (O.mbNe hy).2.1 q), K1.2 _ this.2 (fun q => ((O.mbNe hy).2.2 i c hi).1 q)]
      exact this.1
    rcases set_mem hx with rfl | ⟨j, hj, hx⟩
    · rw [hm, hl.1, hl.2]; exact key i c hi
    · exact key j x hx
  · show Apart (.ptr b 0 :: vc :: cat Cl.at (s.cls.set i c2))
    rw [← cat_setAt hi hm]
    exact O.apart.set (i := i * 2 + 2) (by simpa using (at_fv hi).1) fun d hd => by
      rcases Fr d hd with z | z
      · exact .inl z
      · exact .inr fun q => by have := O.fp_lt q; omega
  · intro d hd
    have hd : d ∈ blks (.ptr b 0 :: vc :: cat Cl.at (s.cls.set i c2)) := hd
    rw [← cat_setAt hi hm, show (.ptr b 0 :: vc :: (cat Cl.at s.cls).set (i * 2) c2.fv : List AV) = (.ptr b 0 :: vc :: cat Cl.at s.cls).set (i * 2 + 2) c2.fv from rfl] at hd
    rcases blks_set hd with q | q
    · rcases Fr d q with z | z
      · exact .inl (fpS_fv cm z)
      · exact .inr z
    · exact .inl q
  · refine ⟨Nat.le_trans K1.1 K2.1, fun d hd hn => ?_⟩
    rw [K2.2 d (by omega) (fun q => hn (fpS_vc q)), K1.2 d hd (fun q => hn (fpS_fv cm q))]
/-- A class's map is turned. -/
theorem SlO.updM (O : SlO h b s vc) {i : Nat} {c : Cl} (hi : s.cls[i]? = some c) (live : List (Nat × ByteArray × Nat)) (cl : Nat) :
    SlO (h.set c.mb (.map (live.map me) cl)) b { s with cls := s.cls.set i { c with live := live, cl := cl } } vc ∧ fpS b { s with cls := s.cls.set i { c with live := live, cl := cl } } vc = fpS b s vc ∧ Keep h.next (fun d => d ∈ fpS b s vc) h (h.set c.mb (.map (live.map me) cl)) := by
  have hil := (List.getElem?_eq_some_iff.1 hi).1
  have cm := List.mem_of_getElem? hi
  have K : Keep h.next (fun d => d = c.mb) h (h.set c.mb (.map (live.map me) cl)) := Keep.set (F := fun d => d = c.mb) (.inl rfl) _
  have ne := O.mbNe hi
  have ecat : cat Cl.at (s.cls.set i { c with live := live, cl := cl }) = cat Cl.at s.cls := by
    rw [← cat_setAt (c2 := { c with live := live, cl := cl }) hi rfl]
    exact set_same (at_fv hi).1
  have ecat2 : cat Cl.c (s.cls.set i { c with live := live, cl := cl }) = cat Cl.c s.cls := by
    unfold cat
    rw [List.map_set, show Cl.c { c with live := live, cl := cl } = Cl.c c from rfl, set_same (by rw [List.getElem?_map, hi]; rfl)]
  refine ⟨⟨?_, O.lt, ?_, ?_, ?_, ?_⟩, ?_, ⟨Nat.le_refl _, fun d hd hn => K.2 d hd fun q => hn (q ▸ fpS_mb cm)⟩⟩
  · rw [K.2 b O.lt (fun q => ne.1 q.symm)]; exact O.str
  · simp only [List.length_set, ecat2]
    exact O.own.keep K fun d hd q => ne.2.1 (q ▸ hd)
  · intro x hx
    rcases set_mem hx with rfl | ⟨j, hj, hx⟩
    · exact (O.free c cm).keep K fun d hd q => (ne.2.2 i c hi).1 (q ▸ hd)
    · exact (O.free x (List.mem_of_getElem? hx)).keep K fun d hd q => (ne.2.2 j x hx).1 (q ▸ hd)
  · intro x hx
    rcases set_mem hx with rfl | ⟨j, hj, hx⟩
    · exact ⟨get_set_self _ _ _, (O.live c cm).2⟩
    · have := O.live x (List.mem_of_getElem? hx)
      exact ⟨by rw [K.2 _ this.2 (fun q => hj ((ne.2.2 j x hx).2 q))]; exact this.1, this.2⟩
  · show Apart (.ptr b 0 :: vc :: cat Cl.at (s.cls.set i { c with live := live, cl := cl }))
    rw [ecat]; exact O.apart
  · unfold fpS; simp only [ecat]
/-- The slab's own numbers. -/
theorem SlO.setS (O : SlO h b s vc) (left used : Nat) : SlO (h.set b (.cells [.int .i64 (s.page : Nat), .int .i64 (left : Nat), .int .i64 (used : Nat), vc] false)) b { s with left := left, used := used } vc ∧
    Keep h.next (fun d => d ∈ fpS b s vc) h (h.set b (.cells [.int .i64 (s.page : Nat), .int .i64 (left : Nat), .int .i64 (used : Nat), vc] false)) := by
  have K : Keep h.next (fun d => d = b) h (h.set b (.cells [.int .i64 (s.page : Nat), .int .i64 (left : Nat), .int .i64 (used : Nat), vc] false)) := Keep.set (F := fun d => d = b) (.inl rfl) _
  refine ⟨⟨get_set_self _ _ _, O.lt, O.own.keep K fun d hd q => O.vcb hd q, fun c hc => ?_, fun c hc => ?_, O.apart⟩, ⟨Nat.le_refl _, fun d hd hn => K.2 d hd fun q => hn (q ▸ fpS_b)⟩⟩
  · obtain ⟨i, hi⟩ := List.getElem?_of_mem hc
    exact (O.free c hc).keep K fun d hd q => (O.fvNe hi hd).1 q
  · obtain ⟨i, hi⟩ := List.getElem?_of_mem hc
    have := O.live c hc
    exact ⟨by rw [K.2 _ this.2 (O.mbNe hi).1]; exact this.1, this.2⟩
end
end Go.Proofs.Ytelnkdgpghndgaa
/- Contracts of slab: Alloc. -/
namespace Go.Proofs.Ytelnkdgpghndgaa
open Go Go.YtelnkdgpghndgaaAbs
set_option linter.unusedSimpArgs false
set_option linter.unusedVariables false
set_option maxRecDepth 4000

/-- What stands under a number. -/
def lk (n : Nat) : List (Nat × ByteArray × Nat) → Option (Nat × ByteArray × Nat)
  | [] => none
  | x :: L => if x.1 = n then some (0, x.2.1, x.2.2) else (lk n L).map fun y => (y.1 + 1, y.2)
theorem afind_me (n : Nat) : ∀ (L : List (Nat × ByteArray × Nat)) (i : Nat), afind (.int .i64 (n : Nat)) (L.map me) i = some ((lk n L).map fun y => (y.1 + i, .str y.2.1, y.2.2))
  | [], i => rfl
  | x :: L, i => by
    simp only [List.map_cons, afind, me, keyEq, if_true, lk]
    by_cases h : x.1 = n
    · rw [if_pos h, decide_eq_true (by rw [h])]
      simp
    · rw [if_neg h, decide_eq_false (by omega)]
      simp only
      rw [afind_me n L (i + 1)]
      cases lk n L <;> simp
      omega
/-- It is put. -/
def lput (n : Nat) (d : ByteArray) (L : List (Nat × ByteArray × Nat)) (cl : Nat) : List (Nat × ByteArray × Nat) × Nat := match lk n L with
  | some y => (L.set y.1 (n, d, y.2.2), cl)
  | none => (L ++ [(n, d, cl)], cl + 1)
theorem amput_me (n : Nat) (d : ByteArray) (L : List (Nat × ByteArray × Nat)) (cl : Nat) : amput (L.map me) cl (.int .i64 (n : Nat)) (.str d) = some (.map ((lput n d L cl).1.map me) (lput n d L cl).2) := by
  unfold amput lput
  rw [afind_me]
  cases h : lk n L with
  | none => simp [me]
  | some y =>
    simp only [Option.map_some, Nat.add_zero, List.map_set]
    rfl
theorem akey_n (n : Int) : akey Try.prog 3 (.int .i64 n) = true := by unfold akey; rw [Try.underlying3]
theorem mapPut_me {h : Heap} {b n cl : Nat} {d : ByteArray} {L : List (Nat × ByteArray × Nat)} (g : h.get b = some (.map (L.map me) cl)) :
    mapPut Try.prog 95 h (.mp b) (.int .i64 (n : Nat)) (.str d) = some (.tup [], h.set b (.map ((lput n d L cl).1.map me) (lput n d L cl).2)) := by
  unfold mapPut
  rw [Try.underlying95]
  simp only [akey_n, g, amput_me, if_true]
section
variable {h : Heap} {b : Nat} {s : Sb} {vc : AV}
/-- A class's cells. -/
theorem SlO.ldc (O : SlO h b s vc) {i : Nat} {c : Cl} (hi : s.cls[i]? = some c) {o : Nat} {x : AV} (ho : o < 4) (hx : c.c[o]? = some x) {ty : TypeId} (ht : tagg Try.prog ty = some false) : aload Try.prog h ty vc.blk (vc.off + i * 4 + o) = some x := by
  have := O.own.sl.ld (P := Try.prog) ht (j := i * 4 + o) (x := x) (by rw [cat_get Cl.c_len hi ho]; exact hx)
  rwa [← Nat.add_assoc] at this
theorem SlO.at_lt (O : SlO h b s vc) {i : Nat} {c : Cl} (hi : s.cls[i]? = some c) : vc.blk < h.next := by
  obtain ⟨_, _, _, _, q⟩ := O.own.sl.cell (j := i * 4 + 0) (x := .int .i64 (c.size : Nat)) (by rw [cat_get Cl.c_len hi (by omega)]; rfl)
  exact q
end
/-- The first j of n new chunks, the last one first. -/
def fl (n cnt j : Nat) : List Nat := (List.range j).map fun t => cnt + (n - 1 - t)
theorem fl_len (n cnt j : Nat) : (fl n cnt j).length = j := by simp [fl]
theorem fl_succ (n cnt j : Nat) : fl n cnt (j + 1) = fl n cnt j ++ [cnt + (n - 1 - j)] := by unfold fl; rw [List.range_succ, List.map_append]; rfl

/-- A class with new chunks. -/
def Cl.fill (c : Cl) (n : Nat) (fv : AV) (j : Nat) : Cl := { c with free := c.free ++ fl n c.count j, fv := fv }
/-- What a class was made. -/
structure Filled (h0 : Heap) (b : Nat) (s : Sb) (vc : AV) (i : Nat) (c : Cl) (F : List Nat) (cnt left used : Nat) (h3 : Heap) (c3 : Cl) : Prop where
  free : c3.free = F
  rest : c3.size = c.size ∧ c3.mb = c.mb ∧ c3.count = cnt ∧ c3.live = c.live ∧ c3.cl = c.cl
  o : SlO h3 b ⟨s.page, left, used, s.cls.set i c3⟩ vc
  fp : ∀ e, e ∈ fpS b ⟨s.page, left, used, s.cls.set i c3⟩ vc → e ∈ fpS b s vc ∨ h0.next ≤ e
  k : Keep h0.next (fun e => e ∈ fpS b s vc) h0 h3
/-- .. is made anew. -/
theorem Filled.upd {h0 : Heap} {b : Nat} {s : Sb} {vc : AV} {i : Nat} {c : Cl} {F : List Nat} {cnt left used : Nat} {h3 h4 : Heap} {c3 : Cl} (f : Filled h0 b s vc i c F cnt left used h3 c3) (hi : i < s.cls.length) (c4 : Cl) {o : Nat} (ho : o < 4) {a : AV} (hc : c3.c.set o a = c4.c)
    (hm : c4.mb = c3.mb) (hs : c4.size = c3.size) (hone : a.one = true) (hl : c4.live = c3.live ∧ c4.cl = c3.cl) (K1 : Keep h3.next (Has c3.fv) h3 h4) (M : Mine 1 c4.free.length h4 c4.fv (c4.free.map nn)) (Fr : From h3 c3.fv c4.fv) :
    ∃ h5, alay h4 vc.blk (vc.off + i * 4 + o) [a] = some h5 ∧ Filled h0 b s vc i c c4.free c4.count left used h5 c4 := by
  obtain ⟨h5, E5, O5, f5, K5⟩ := f.o.upd (i := i) (c := c3) (by simp [hi]) c4 ho hc hm hone hl K1 M Fr
  rw [← Nat.add_assoc] at E5
  simp only [List.set_set] at O5 f5
  obtain ⟨r1, r2, r3, r4, r5⟩ := f.rest
  have hk := f.k.1
  refine ⟨h5, E5, rfl, ⟨hs.trans r1, hm.trans r2, rfl, hl.1.trans r4, hl.2.trans r5⟩, O5, fun e he => ?_, ⟨Nat.le_trans f.k.1 K5.1, fun e he hn => ?_⟩⟩
  · rcases f5 e he with z | z
    · exact f.fp e z
    · exact .inr (by omega)
  · rw [K5.2 e (by omega) (fun q => by rcases f.fp e q with z | z; exact hn z; omega), f.k.2 e he hn]
theorem Filled.get {h0 : Heap} {b : Nat} {s : Sb} {vc : AV} {i : Nat} {c : Cl} {F : List Nat} {cnt left used : Nat} {h3 : Heap} {c3 : Cl} (f : Filled h0 b s vc i c F cnt left used h3 c3) (hi : i < s.cls.length) : (s.cls.set i c3)[i]? = some c3 := by simp [hi]
set_option maxHeartbeats 4000000 in
/-- Alloc, where there is a chunk. -/
theorem alloc_ok (k : Nat) (hk : 70000 < k) (h : Heap) (b : Nat) (s : Sb) (vc : AV) (O : SlO h b s vc) (hl : s.cls.length ≤ 20) (d : ByteArray) (hd : d.size ≤ maxLen) {i : Nat} {c : Cl} (hc : clsE (d.size : Nat) s.cls = some i) (hi : s.cls[i]? = some c)
    (hp : s.page ≤ 65536) (hlu : s.left ≤ 1000 ∧ s.used ≤ 1000) (hs : 1 ≤ c.size ∧ c.size ≤ s.page) (hcnt : c.count ≤ 1000000000) (hfl : c.free.length ≤ 100000000) (hroom : c.free ≠ [] ∨ s.left ≠ 0) :
    ∃ v' h', acall Try.prog (k + 2) 30 [.ptr b 0, .str d] h = some (v', h') ∧ ∃ (c2 : Cl) (F : List Nat) (cnt left used K : Nat),
      F = (if c.free = [] then fl (s.page / c.size) c.count (s.page / c.size) else c.free) ∧ cnt = (if c.free = [] then c.count + s.page / c.size else c.count) ∧ left = (if c.free = [] then s.left - 1 else s.left) ∧ used = (if c.free = [] then s.used + 1 else s.used) ∧ F[F.length - 1]? = some K ∧
      v' = .tup [.agg [.int .i64 (i : Nat), .int .i64 (K : Nat)], .int .i64 0] ∧ c2.size = c.size ∧ c2.free = F.take (F.length - 1) ∧ c2.count = cnt ∧ (c2.live, c2.cl) = lput K d c.live c.cl ∧
      SlO h' b ⟨s.page, left, used, s.cls.set i c2⟩ vc ∧ (∀ e, e ∈ fpS b ⟨s.page, left, used, s.cls.set i c2⟩ vc → e ∈ fpS b s vc ∨ h.next ≤ e) ∧ Keep h.next (fun e => e ∈ fpS b s vc) h h' := by
  have hil := (List.getElem?_eq_some_iff.1 hi).1
  obtain ⟨h1, e1⟩ : ∃ h1, h.new (.cells [.int .i64 0, .int .i64 0] false) = h1 := ⟨_, rfl⟩
  have k1 : Keep h.next nob h h1 := by rw [← e1]; exact Keep.new (Nat.le_refl _) _
  have n1 : h.next < h1.next := by rw [← e1]; exact Nat.lt_succ_self _
  have g1 : h1.get h.next = some (.cells [.int .i64 0, .int .i64 0] false) := by rw [← e1]; exact get_new_self _ _
  have O1 := O.ext k1
  obtain ⟨_, h2, E2, rfl, k2⟩ := class_ok k (by omega) h1 b s vc O1 hl (d.size : Nat)
  have ecz : (if ((d.size : Nat) : Int) < 0 then (-1 : Int) else clsZ (d.size : Nat) s.cls) = (i : Nat) := by
    rw [if_neg (by omega)]; unfold clsZ; rw [hc]
  rw [ecz] at E2
  have O2 := O1.ext k2
  have K2 := k1.trans (k2.weak k1.1 fun _ _ q => q)
  have n2 : h.next < h2.next := Nat.lt_of_lt_of_le n1 k2.1
  have g2 : h2.get h.next = some (.cells [.int .i64 0, .int .i64 0] false) := (k2.2 _ n1 id).trans g1
  have hfn : h.next ∉ fpS b s vc := fun q => by have := O.fp_lt q; omega
  have ix2 := O2.own.sl.idx (P := Try.prog) Try.underlying92 ts97 (j := i) hil .i64
  have lf2 := O2.ldc hi (o := 1) (x := c.fv) (by omega) rfl (ty := 44) ta44
  have lz2 := fun (h' : Heap) (left used : Nat) (O' : SlO h' b ⟨s.page, left, used, s.cls⟩ vc) => O'.ldc hi (o := 0) (x := .int .i64 (c.size : Nat)) (by omega) rfl (ty := 3) ta3
  have flen := (O2.free c (List.mem_of_getElem? hi)).sl.len'
  obtain ⟨N, hN⟩ : ∃ N, N = s.page / c.size := ⟨_, rfl⟩
  have hN1 : 1 ≤ N := by rw [hN]; exact (Nat.le_div_iff_mul_le (by omega)).2 (by omega)
  have hN2 : N ≤ 65536 := by rw [hN]; exact Nat.le_trans (Nat.div_le_self _ _) hp
  obtain ⟨F, hF⟩ : ∃ F, F = (if c.free = [] then fl N c.count N else c.free) := ⟨_, rfl⟩
  obtain ⟨cnt, hcn⟩ : ∃ cnt, cnt = (if c.free = [] then c.count + N else c.count) := ⟨_, rfl⟩
  obtain ⟨left, hle⟩ : ∃ left, left = (if c.free = [] then s.left - 1 else s.left) := ⟨_, rfl⟩
  obtain ⟨used, hus⟩ : ∃ used, used = (if c.free = [] then s.used + 1 else s.used) := ⟨_, rfl⟩
  have hFl : 1 ≤ F.length ∧ F.length ≤ 100000000 := by
    rw [hF]
    split
    · rw [fl_len]; omega
    · rename_i q
      have := List.length_pos_iff.2 q
      omega
  rw [acall_text [14] Try.func30 (by kernel_rfl)]
  refine afuncT_ex rfl (by simp [Try.f30]) ?_
  simp [Try.f30, e1, E2, -W_regionL, W_stopL 4]
  simp [O2.ld3, ix2, lf2, flen, -W_cond]
  refine W_cutN (fun st => ∃ c3, st.t.get 1 = some (.str d) ∧ st.t.get 4 = some (.ptr h.next 0) ∧ st.t.get 6 = some (.int .i64 (i : Nat)) ∧ st.t.get 7 = some (.ptr vc.blk (vc.off + i * 4)) ∧ Filled h2 b s vc i c F cnt left used st.h c3) ?_ ?_
  · by_cases hf : c.free = []
    rotate_left
    · rw [if_neg hf] at hF hcn hle hus
      subst hF hcn hle hus
      simp [hf]
      have es : s.cls.set i c = s.cls := set_same hi
      exact ⟨c, rfl, ⟨rfl, rfl, rfl, rfl, rfl⟩, by rw [es]; exact O2, fun e he => .inl (by rw [es] at he; exact he), Keep.refl _ _ _⟩
    rw [if_pos hf] at hF hcn hle hus
    have hl0 : s.left ≠ 0 := hroom.resolve_left (fun q => q hf)
    have al8 : alay h2 b 1 [.int .i64 ((s.left : Int) - 1)] = some (h2.set b (.cells [.int .i64 (s.page : Nat), .int .i64 (left : Nat), .int .i64 (s.used : Nat), vc] false)) := by
      have : ((s.left : Int) - 1) = (left : Nat) := by omega
      rw [this]; unfold alay; rw [O2.str]; rfl
    obtain ⟨O3, K3⟩ := O2.setS left s.used
    have n3 : (h2.set b (.cells [.int .i64 (s.page : Nat), .int .i64 (left : Nat), .int .i64 (s.used : Nat), vc] false)).next = h2.next := rfl
    generalize h2.set b (.cells [.int .i64 (s.page : Nat), .int .i64 (left : Nat), .int .i64 (s.used : Nat), vc] false) = h3 at *
    have al9 : alay h3 b 2 [.int .i64 ((s.used : Int) + 1)] = some (h3.set b (.cells [.int .i64 (s.page : Nat), .int .i64 (left : Nat), .int .i64 (used : Nat), vc] false)) := by
      have : ((s.used : Int) + 1) = (used : Nat) := by omega
      rw [this]; unfold alay; rw [O3.str]; rfl
    obtain ⟨O4, K4⟩ := O3.setS left used
    have n4 : (h3.set b (.cells [.int .i64 (s.page : Nat), .int .i64 (left : Nat), .int .i64 (used : Nat), vc] false)).next = h3.next := rfl
    generalize h3.set b (.cells [.int .i64 (s.page : Nat), .int .i64 (left : Nat), .int .i64 (used : Nat), vc] false) = h4 at *
    have w8 := i64w ((s.left : Int) - 1) (by omega) (by omega)
    have w9 := i64w ((s.used : Int) + 1) (by omega) (by omega)
    have lz4 := lz2 h4 left used O4
    have K24 : Keep h2.next (fun e => e ∈ fpS b s vc) h2 h4 := K3.trans (by rw [← n3]; exact K4)
    have hsz0 : ¬ ((c.size : Int) = 0) := by omega
    have hsz1 : ¬ (c.size = 0) := by omega
    have hdiv : ((s.page : Int)).tdiv (c.size : Int) = (N : Nat) := by rw [hN]; rfl
    have wN := i64w (N : Int) (by omega) (by omega)
    have wN1 := i64w ((N : Int) - 1) (by omega) (by omega)
    have O2l := O2.ld1 (ty := 3) ta3
    have O3l := O3.ld2 (ty := 3) ta3
    have O4l := O4.ld0 (ty := 3) ta3
    simp only [Nat.add_zero] at lz4 O3l O4l
    have fl0 : Filled h2 b s vc i c (fl N c.count 0) c.count left used h4 c := by
      have es : s.cls.set i c = s.cls := set_same hi
      exact ⟨hf, ⟨rfl, rfl, rfl, rfl, rfl⟩, by rw [es]; exact O4, fun e he => .inl (by rw [es] at he; exact he), K24⟩
    simp [hf, O2l, hl0, w8, al8, O3l, w9, al9, O4l, lz4, hsz0, hsz1, hdiv, wN, wN1]
    refine W_cutLoop 0 (fun st => ∃ c3, st.t.get 1 = some (.str d) ∧ st.t.get 4 = some (.ptr h.next 0) ∧ st.t.get 6 = some (.int .i64 (i : Nat)) ∧ st.t.get 7 = some (.ptr vc.blk (vc.off + i * 4)) ∧ st.t.get 8 = some (.int .i64 (N : Nat)) ∧ Filled h2 b s vc i c (fl N c.count N) c.count left used st.h c3) ?_ ?_
    · refine W_loop (fun m st => ∃ (j : Nat) (c3 : Cl), m = N - j ∧ j ≤ N ∧ st.t.get 1 = some (.str d) ∧ st.t.get 4 = some (.ptr h.next 0) ∧ st.t.get 6 = some (.int .i64 (i : Nat)) ∧ st.t.get 7 = some (.ptr vc.blk (vc.off + i * 4)) ∧ st.t.get 8 = some (.int .i64 (N : Nat)) ∧ st.t.get 9 = some (.int .i64 ((N : Int) - 1 - j)) ∧
        Filled h2 b s vc i c (fl N c.count j) c.count left used st.h c3) N (by omega)
        ⟨0, c, by omega, by omega, by simp, by simp, by simp, by simp, by simp, by simp, fl0⟩ ?_
      rintro m ⟨t, h5⟩ ⟨j, c3, rfl, hj, q1, q4, q6, q7, q8, q9, f⟩
      simp only at q1 q4 q6 q7 q8 q9 f
      obtain ⟨R, hR⟩ : ∃ R : Int, R = (N : Int) - 1 - j := ⟨_, rfl⟩
      rw [← hR] at q9
      by_cases hlt : j < N
      · have gi := f.get hil
        have lf5 := f.o.ldc gi (o := 1) (x := c3.fv) (by omega) rfl (ty := 44) ta44
        have lc5 := f.o.ldc gi (o := 3) (x := .int .i64 (c3.count : Nat)) (by omega) rfl (ty := 3) ta3
        have vb := f.o.at_lt gi
        obtain ⟨E, hE⟩ : ∃ E : Nat, E = c.count + (N - 1 - j) := ⟨_, rfl⟩
        have eE : (c3.count : Int) + R = (E : Nat) := by rw [f.rest.2.2.1]; omega
        have wE := i64w (E : Int) (by omega) (by omega)
        obtain ⟨h6, e6⟩ : ∃ h6, h5.new (.cells [.int .i64 (E : Nat)] false) = h6 := ⟨_, rfl⟩
        have k6 : Keep h5.next nob h5 h6 := by rw [← e6]; exact Keep.new (Nat.le_refl _) _
        obtain ⟨v7, h7, E7, M7, Fr7, K7⟩ := (f.o.free c3 (List.mem_of_getElem? gi)).push (P := Try.prog) el44 (a := [.int .i64 (E : Nat)]) (ex := true) rfl rfl (by rw [f.free, fl_len]; omega)
        rw [e6] at E7
        obtain ⟨h8, E8, f8⟩ := f.upd hil { c3 with free := c3.free ++ [E], fv := v7 } (o := 1) (by omega) (a := v7) rfl rfl rfl M7.oneV ⟨rfl, rfl⟩ K7 (by simp only [List.length_append, List.length_singleton, List.map_append]; exact M7) Fr7
        simp only at f8
        rw [f.free, f.rest.2.2.1, hE, ← fl_succ] at f8
        have w10 := i64w (R - 1) (by omega) (by omega)
        have ro := row1_one M7.oneV
        have A6 : Agree h5.next h5 h6 := fun e he => k6.2 e he id
        simp [q1, q4, q6, q7, q8, q9, isLe (show (0 : Int) ≤ R by omega)]
        refine W_split 12 h5.next (by rfl) (by kernel_rfl) (by rfl) ?_
        dsimp only [List.take, List.drop]
        have sfv : sameAV c3.fv c3.fv = true := (f.o.free c3 (List.mem_of_getElem? gi)).sl.same
        simp [q1, q4, q6, q7, q8, q9, obl, mayEff, mayRead, sameAV, vb, lf5, sfv, lc5, eE, wE, aalloc, afill, e6, A6, E7, ro, E8, w10]
        exact ⟨N - (j + 1), by omega, j + 1, rfl, by omega, by omega, _, f8⟩
      · have : j = N := by omega
        subst this
        simp [q1, q4, q6, q7, q8, q9, isLt (show R < 0 by omega)]
        exact ⟨c3, f⟩
    rintro ⟨t, h5⟩ ⟨c3, q1, q4, q6, q7, q8, f⟩
    simp only at q1 q4 q6 q7 q8 f
    have gi := f.get hil
    have lc5 := f.o.ldc gi (o := 3) (x := .int .i64 (c3.count : Nat)) (by omega) rfl (ty := 3) ta3
    have M3 := f.o.free c3 (List.mem_of_getElem? gi)
    obtain ⟨h6, E6, f6⟩ := f.upd hil { c3 with count := cnt } (o := 3) (by omega) (a := .int .i64 (cnt : Nat)) rfl rfl rfl rfl ⟨rfl, rfl⟩ (Keep.refl _ _ _) M3 (From.refl _ _)
    simp only at f6
    rw [f.free, ← hF] at f6
    have ec : (c3.count : Int) + (N : Int) = (cnt : Nat) := by rw [f.rest.2.2.1, hcn]; rfl
    have wc := i64w (cnt : Int) (by omega) (by omega)
    simp [q1, q4, q6, q7, q8, lc5, ec, wc, E6]
    exact ⟨_, f6⟩
  rintro ⟨t, h5⟩ ⟨c3, q1, q4, q6, q7, f⟩
  simp only at q1 q4 q6 q7 f
  obtain ⟨L0, hL0⟩ : ∃ L0, F.length = L0 + 1 := ⟨F.length - 1, by omega⟩
  obtain ⟨K, hK⟩ : ∃ K, F[L0]? = some K := ⟨F[L0]'(by omega), by simp⟩
  have gi := f.get hil
  have lf5 := f.o.ldc gi (o := 1) (x := c3.fv) (by omega) rfl (ty := 44) ta44
  have M3 := f.o.free c3 (List.mem_of_getElem? gi)
  rw [f.free, hL0] at M3
  have l5 := M3.sl.len'
  have ix5 := M3.sl.idx1 (P := Try.prog) Try.underlying44 ts3 (j := L0) (by omega) .i64
  have ld5 := M3.sl.ld (P := Try.prog) ta3 (j := L0) (x := .int .i64 (K : Nat)) (by rw [List.getElem?_map, hK]; rfl)
  obtain ⟨v6, E6, M6, a6⟩ := M3.to (P := Try.prog) (ty := 44) Try.underlying44 ts3 (k := .i64) (j := L0) (by omega)
  rw [Nat.mul_one, ← List.map_take] at M6
  have lt0 : (F.take L0).length = L0 := by rw [List.length_take]; omega
  have r6 := row1_one M6.oneV
  obtain ⟨h6, A6, f6⟩ := f.upd hil { c3 with free := F.take L0, fv := v6 } (o := 1) (by omega) (a := v6) rfl rfl rfl M6.oneV ⟨rfl, rfl⟩ (Keep.refl _ _ _) (by simp only [lt0]; exact M6) (fun e he => .inl (by unfold Has at *; rw [← a6]; exact he))
  simp only at f6
  have g6 := f6.get hil
  have lm6 := f6.o.ldc g6 (o := 2) (x := .mp c3.mb) (by omega) rfl (ty := 95) ta95
  have lv6 := (f6.o.live _ (List.mem_of_getElem? g6)).1
  simp only at lv6
  have E7 := mapPut_me (n := K) (d := d) lv6
  obtain ⟨O7, fp7, K7⟩ := f6.o.updM g6 (lput K d c3.live c3.cl).1 (lput K d c3.live c3.cl).2
  simp only [List.set_set] at O7 fp7 K7
  obtain ⟨h7, e7⟩ : ∃ h7, h6.set c3.mb (.map ((lput K d c3.live c3.cl).1.map me) (lput K d c3.live c3.cl).2) = h7 := ⟨_, rfl⟩
  rw [e7] at E7 O7 K7
  have hk6 := f6.k.1
  have nfp : h.next ∉ fpS b ⟨s.page, left, used, s.cls.set i { c3 with free := F.take L0, fv := v6 }⟩ vc := fun q => by
    rcases f6.fp _ q with z | z
    · exact hfn z
    · omega
  have g7 : h7.get h.next = some (.cells [.int .i64 0, .int .i64 0] false) := by
    rw [K7.2 _ (by omega) nfp, f6.k.2 _ n2 hfn]
    exact g2
  have A8 : alay h7 h.next 0 [.int .i64 (i : Nat), .int .i64 (K : Nat)] = some (h7.set h.next (.cells [.int .i64 (i : Nat), .int .i64 (K : Nat)] false)) := by unfold alay; rw [g7]; rfl
  have g8 : (h7.set h.next (.cells [.int .i64 (i : Nat), .int .i64 (K : Nat)] false)).get h.next = some (.cells [.int .i64 (i : Nat), .int .i64 (K : Nat)] false) := get_set_self _ _ _
  have K8 : Keep h7.next (fun e => e = h.next) h7 (h7.set h.next (.cells [.int .i64 (i : Nat), .int .i64 (K : Nat)] false)) := Keep.set (F := fun e => e = h.next) (.inl rfl) _
  generalize h7.set h.next (.cells [.int .i64 (i : Nat), .int .i64 (K : Nat)] false) = h8 at *
  have O8 := O7.keep K8 fun e he q => nfp (by rw [← fp7, ← q]; exact he)
  have l8 : aload Try.prog h8 58 h.next 0 = some (.agg [.int .i64 (i : Nat), .int .i64 (K : Nat)]) := by simp [aload, Heap.row, g8, ta58, ts58]
  have rwH : (AV.agg [.int .i64 (i : Nat), .int .i64 (K : Nat)]).row1 = some [.int .i64 (i : Nat), .int .i64 (K : Nat)] := rfl
  have w5 := i64w (L0 : Int) (by omega) (by omega)
  have h76 := K7.1
  have h87 := K8.1
  have fin : ∃ (c2 : Cl) (F' : List Nat) (cnt' left' used' K' : Nat),
      F' = (if c.free = [] then fl (s.page / c.size) c.count (s.page / c.size) else c.free) ∧ cnt' = (if c.free = [] then c.count + s.page / c.size else c.count) ∧ left' = (if c.free = [] then s.left - 1 else s.left) ∧ used' = (if c.free = [] then s.used + 1 else s.used) ∧ F'[F'.length - 1]? = some K' ∧
      AV.tup [.agg [.int .i64 (i : Nat), .int .i64 (K : Nat)], .int .i64 0] = .tup [.agg [.int .i64 (i : Nat), .int .i64 (K' : Nat)], .int .i64 0] ∧ c2.size = c.size ∧ c2.free = F'.take (F'.length - 1) ∧ c2.count = cnt' ∧ (c2.live, c2.cl) = lput K' d c.live c.cl ∧
      SlO h8 b ⟨s.page, left', used', s.cls.set i c2⟩ vc ∧ (∀ e, e ∈ fpS b ⟨s.page, left', used', s.cls.set i c2⟩ vc → e ∈ fpS b s vc ∨ h.next ≤ e) ∧ Keep h.next (fun e => e ∈ fpS b s vc) h h8 := by
    obtain ⟨r1, r2, r3, r4, r5⟩ := f.rest
    refine ⟨{ c3 with free := F.take L0, live := (lput K d c3.live c3.cl).1, cl := (lput K d c3.live c3.cl).2, fv := v6 }, F, cnt, left, used, K, by rw [hF, hN], by rw [hcn, hN], hle, hus, by rw [hL0, Nat.add_sub_cancel]; exact hK, rfl, r1, by rw [hL0, Nat.add_sub_cancel], r3, by rw [← r4, ← r5], O8, fun e he => ?_, ⟨by omega, fun e he hn => ?_⟩⟩
    · rcases f6.fp e (fp7 ▸ he) with z | z
      · exact .inl z
      · exact .inr (by omega)
    · rw [K8.2 e (by omega) (by omega), K7.2 e (by omega) (fun q => by rcases f6.fp e q with z | z; exact hn z; omega), f6.k.2 e (by omega) hn, K2.2 e he id]
  simp [q1, q4, q6, q7, lf5, l5, hL0, w5, ix5, ld5, E6, r6, A6, lm6, E7, afill, rwH, A8, l8]
  simpa using fin
end Go.Proofs.Ytelnkdgpghndgaa
/- Contracts of slab: Alloc where there is none, Read, Free, Live, Pages. -/
namespace Go.Proofs.Ytelnkdgpghndgaa
open Go Go.YtelnkdgpghndgaaAbs
set_option linter.unusedSimpArgs false
set_option linter.unusedVariables false
set_option maxRecDepth 4000

section
variable (k : Nat) (hk : 70000 < k) (h : Heap) (b : Nat) (s : Sb) (vc : AV) (O : SlO h b s vc) (hl : s.cls.length ≤ 20)
set_option maxHeartbeats 1000000 in
theorem alloc_full (hk : 70000 < k) (O : SlO h b s vc) (hl : s.cls.length ≤ 20) (d : ByteArray) (hd : d.size ≤ maxLen) {i : Nat} {c : Cl} (hc : clsE (d.size : Nat) s.cls = some i) (hi : s.cls[i]? = some c) (hf : c.free = []) (h0 : s.left = 0) :
    ∃ v' h', acall Try.prog (k + 2) 30 [.ptr b 0, .str d] h = some (v', h') ∧ v' = .tup [.agg [.int .i64 0, .int .i64 0], .int .i64 6] ∧ Keep h.next nob h h' := by
  have hil := (List.getElem?_eq_some_iff.1 hi).1
  obtain ⟨h1, e1⟩ : ∃ h1, h.new (.cells [.int .i64 0, .int .i64 0] false) = h1 := ⟨_, rfl⟩
  have k1 : Keep h.next nob h h1 := by rw [← e1]; exact Keep.new (Nat.le_refl _) _
  have n1 : h.next < h1.next := by rw [← e1]; exact Nat.lt_succ_self _
  have g1 : h1.get h.next = some (.cells [.int .i64 0, .int .i64 0] false) := by rw [← e1]; exact get_new_self _ _
  have O1 := O.ext k1
  obtain ⟨_, h2, E2, rfl, k2⟩ := class_ok k (by omega) h1 b s vc O1 hl (d.size : Nat)
  have ecz : (if ((d.size : Nat) : Int) < 0 then (-1 : Int) else clsZ (d.size : Nat) s.cls) = (i : Nat) := by
    rw [if_neg (by omega)]; unfold clsZ; rw [hc]
  rw [ecz] at E2
  have O2 := O1.ext k2
  have K2 := k1.trans (k2.weak k1.1 fun _ _ q => q)
  have g2 : h2.get h.next = some (.cells [.int .i64 0, .int .i64 0] false) := (k2.2 _ n1 id).trans g1
  have ix2 := O2.own.sl.idx (P := Try.prog) Try.underlying92 ts97 (j := i) hil .i64
  have lf2 := O2.ldc hi (o := 1) (x := c.fv) (by omega) rfl (ty := 44) ta44
  have flen := (O2.free c (List.mem_of_getElem? hi)).sl.len'
  have rwH : (AV.agg [.int .i64 0, .int .i64 0]).row1 = some [.int .i64 0, .int .i64 0] := rfl
  have A8 : alay h2 h.next 0 [.int .i64 0, .int .i64 0] = some (h2.set h.next (.cells [.int .i64 0, .int .i64 0] false)) := by unfold alay; rw [g2]; rfl
  have g8 : (h2.set h.next (.cells [.int .i64 0, .int .i64 0] false)).get h.next = some (.cells [.int .i64 0, .int .i64 0] false) := get_set_self _ _ _
  have K8 : Keep h.next nob h (h2.set h.next (.cells [.int .i64 0, .int .i64 0] false)) := K2.trans (Keep.set (.inr (Nat.le_refl _)) _)
  generalize h2.set h.next (.cells [.int .i64 0, .int .i64 0] false) = h8 at *
  have l8 : aload Try.prog h8 58 h.next 0 = some (.agg [.int .i64 0, .int .i64 0]) := by simp [aload, Heap.row, g8, ta58, ts58]
  have l1 := O2.ld1 (ty := 3) ta3
  rw [h0] at l1
  rw [acall_text [14] Try.func30 (by kernel_rfl)]
  refine afuncT_ex rfl (by simp [Try.f30]) ?_
  simp [Try.f30, e1, E2, O2.ld3, ix2, lf2, flen, hf, l1, afill, rwH, A8, l8]
  exact K8
theorem pages_ok (O : SlO h b s vc) : acall Try.prog (k + 1) 45 [.ptr b 0] h = some (.tup [.int .i64 (s.used : Nat), .int .i64 (s.left : Nat)], h) := by
  rw [acall_text [] Try.func45 (by kernel_rfl)]
  refine afuncT_of rfl (by simp [Try.f45]) ?_
  simp [Try.f45, O.ld2, O.ld1]
/-- How many live chunks there are. -/
def liveN (L : List Cl) : Nat := (L.map fun c => c.live.length).sum
/-- What stands under any number. -/
def lkI (n : Int) (L : List (Nat × ByteArray × Nat)) : Option (Nat × ByteArray × Nat) := if 0 ≤ n then lk n.toNat L else none
theorem afind_neg {n : Int} (hn : n < 0) : ∀ (L : List (Nat × ByteArray × Nat)) (i : Nat), afind (.int .i64 n) (L.map me) i = some none
  | [], i => rfl
  | x :: L, i => by
    simp only [List.map_cons, afind, me, keyEq, if_true]
    rw [decide_eq_false (by omega)]
    exact afind_neg hn L (i + 1)
theorem afind_meI (n : Int) (L : List (Nat × ByteArray × Nat)) (i : Nat) : afind (.int .i64 n) (L.map me) i = some ((lkI n L).map fun y => (y.1 + i, .str y.2.1, y.2.2)) := by
  unfold lkI
  by_cases hn : 0 ≤ n
  · rw [if_pos hn]
    obtain ⟨m, rfl⟩ := Int.eq_ofNat_of_zero_le hn
    exact afind_me m L i
  · rw [if_neg hn]
    exact afind_neg (by omega) L i
theorem mapGet_me {h : Heap} {b cl : Nat} {n : Int} {L : List (Nat × ByteArray × Nat)} (g : h.get b = some (.map (L.map me) cl)) :
    mapGet Try.prog 95 h (.mp b) (.int .i64 n) true = some (.tup [.str (((lkI n L).map (·.2.1)).getD .empty), .bool (lkI n L).isSome]) := by
  unfold mapGet
  rw [Try.underlying95]
  simp only [akey_n, azv9, g, afind_meI]
  cases lkI n L <;> rfl
theorem erase_map {α β : Type} (f : α → β) : ∀ (L : List α) (i : Nat), (L.map f).eraseIdx i = (L.eraseIdx i).map f
  | [], i => by simp
  | x :: L, 0 => by simp
  | x :: L, i + 1 => by simp [erase_map f L i]
theorem mapDel_me {h : Heap} {b cl : Nat} {n : Int} {L : List (Nat × ByteArray × Nat)} {y : Nat × ByteArray × Nat} (g : h.get b = some (.map (L.map me) cl)) (hy : lkI n L = some y) :
    mapDel Try.prog 95 h (.mp b) (.int .i64 n) = some (.tup [], h.set b (.map ((L.eraseIdx y.1).map me) cl)) := by
  unfold mapDel
  rw [Try.underlying95]
  simp only [akey_n, g, afind_meI, hy, Option.map_some, Nat.add_zero, if_true]
  rw [erase_map]
def readS (s : Sb) (ci ch : Int) : Option (Nat × ByteArray × Nat) := if ci < 0 then none else match s.cls[ci.toNat]? with
  | some c => lkI ch c.live
  | none => none
theorem read_ok (hk : 70000 < k) (O : SlO h b s vc) (hl : s.cls.length ≤ 20) (ci ch : Int) :
    ∃ v' h', acall Try.prog (k + 1) 37 [.ptr b 0, .agg [.int .i64 ci, .int .i64 ch]] h = some (v', h') ∧ v' = .tup [.str (((readS s ci ch).map (·.2.1)).getD .empty), .bool (readS s ci ch).isSome] ∧ Keep h.next nob h h' := by
  have rwH : (AV.agg [.int .i64 ci, .int .i64 ch]).row1 = some [.int .i64 ci, .int .i64 ch] := rfl
  obtain ⟨h1, e1⟩ : ∃ h1, h.new (.cells [.int .i64 ci, .int .i64 ch] false) = h1 := ⟨_, rfl⟩
  have k1 : Keep h.next nob h h1 := by rw [← e1]; exact Keep.new (Nat.le_refl _) _
  have g1 : h1.get h.next = some (.cells [.int .i64 ci, .int .i64 ch] false) := by rw [← e1]; exact get_new_self _ _
  have l0 := ldc (P := Try.prog) (ty := 3) g1 ta3 (i := 0) (x := .int .i64 ci) rfl
  have l1 := ldc (P := Try.prog) (ty := 3) g1 ta3 (i := 1) (x := .int .i64 ch) rfl
  have O1 := O.ext k1
  have sl := O1.own.sl.len'
  have l3 := O1.ld3 (ty := 92) ta92
  unfold readS
  rw [acall_text [] Try.func37 (by kernel_rfl)]
  refine afuncT_ex rfl (by simp [Try.f37]) ?_
  by_cases c0 : ci < 0
  · rw [if_pos c0]
    simp [Try.f37, rwH, e1, l0, isLt c0]
    exact ⟨rfl, k1⟩
  rw [if_neg c0]
  obtain ⟨i, rfl⟩ := Int.eq_ofNat_of_zero_le (show 0 ≤ ci by omega)
  rw [Int.toNat_natCast]
  by_cases hil : i < s.cls.length
  rotate_left
  · rw [List.getElem?_eq_none (by omega)]
    simp [Try.f37, rwH, e1, l0, l3, sl, isLe (show (s.cls.length : Int) ≤ (i : Int) by omega)]
    exact ⟨rfl, k1⟩
  obtain ⟨c, hc⟩ : ∃ c, s.cls[i]? = some c := ⟨s.cls[i], by simp⟩
  rw [hc]
  simp only
  have ix := O1.own.sl.idx (P := Try.prog) Try.underlying92 ts97 (j := i) hil .i64
  have lm := O1.ldc hc (o := 2) (x := .mp c.mb) (by omega) rfl (ty := 95) ta95
  have E := mapGet_me (n := ch) (O1.live c (List.mem_of_getElem? hc)).1
  cases hy : lkI ch c.live with
  | none =>
    rw [hy] at E
    simp [Try.f37, rwH, e1, l0, l1, l3, sl, isLt (show (i : Int) < (s.cls.length : Int) by omega), ix, lm, E]
    exact ⟨rfl, k1⟩
  | some y =>
    rw [hy] at E
    simp [Try.f37, rwH, e1, l0, l1, l3, sl, isLt (show (i : Int) < (s.cls.length : Int) by omega), ix, lm, E]
    exact k1
end
end Go.Proofs.Ytelnkdgpghndgaa
