/- depotlaw6.short. -/
import Derived.Test.YtdnjhipgfbhecaaBytes
namespace Go.Proofs.Ytdnjhipgfbhecaa
open Go Go.YtdnjhipgfbhecaaAbs
set_option linter.unusedSimpArgs false
set_option linter.unusedVariables false
/-- No more than 300 bytes. -/
def short (s : ByteArray) : ByteArray := if s.size ≤ 300 then s else s.extract 0 300
theorem short_le (s : ByteArray) : (short s).size ≤ 300 := by
  unfold short
  split
  · assumption
  · simp
    omega
theorem short_ok (k : Nat) (s : ByteArray) (h : Heap) : acall Try.prog (k + 1) 14 [.str s] h = some (.str (short s), h) := by
  rw [acall_text [] Try.func14 (by kernel_rfl)]
  refine afuncT_of rfl (by simp [Try.f14]) ?_
  unfold short
  by_cases hb : s.size ≤ 300
  · rw [if_pos hb]
    simp [Try.f14, isLe (show (s.size : Int) ≤ 300 by omega)]
  · rw [if_neg hb]
    simp [Try.f14, isLt (show (300 : Int) < (s.size : Int) by omega), aslice_strTo Try.underlying9 (s := s) (k := .i64) (n := 300) (by omega) (by omega)]
end Go.Proofs.Ytdnjhipgfbhecaa
