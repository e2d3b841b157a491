/- Contracts of the book of memory: Within. -/
import Derived.Test.YtcgafaecdjbmiaaFacts
namespace Go.Proofs.Ytcgafaecdjbmiaa
open Go Go.YtcgafaecdjbmiaaAbs
set_option linter.unusedSimpArgs false
set_option linter.unusedVariables false
/-- Within. -/
theorem within_ok (k : Nat) (n lo hi : Int) (hl : lo ≤ hi) (h1 : -1000000000000 ≤ lo) (h2 : hi ≤ 1000000000000) (h : Heap) :
    acall Try.prog (k + 1) 15 [.int .i64 n, .int .i64 lo, .int .i64 hi] h = some (.int .i64 (lo + n % (hi - lo + 1)), h) := by
  rw [acall_text [] Try.func15 (by kernel_rfl)]
  refine afuncT_of rfl (by simp [Try.f15]) ?_
  have w1 := i64w (hi - lo) (by omega) (by omega)
  have w2 := i64w (hi - lo + 1) (by omega) (by omega)
  have hne : ¬ hi - lo + 1 = 0 := by omega
  have e1 : n % (hi - lo + 1) < hi - lo + 1 := Int.emod_lt_of_pos _ (by omega)
  have e2 : 0 ≤ n % (hi - lo + 1) := Int.emod_nonneg _ (by omega)
  have e0 := Int.tmod_eq_emod (a := n) (b := hi - lo + 1)
  by_cases hr : n.tmod (hi - lo + 1) < 0
  · have e3 : n.tmod (hi - lo + 1) + (hi - lo + 1) = n % (hi - lo + 1) := by
      split at e0 <;> omega
    have w3 := i64w (n.tmod (hi - lo + 1) + hi) (by omega) (by omega)
    have w4 := i64w (n.tmod (hi - lo + 1) + hi - lo) (by omega) (by omega)
    have w5 := i64w (n.tmod (hi - lo + 1) + hi - lo + 1) (by omega) (by omega)
    have w6 := i64w (lo + (n.tmod (hi - lo + 1) + hi - lo + 1)) (by omega) (by omega)
    simp [Try.f15, w1, w2, w3, w4, w5, w6, hne, isLt hr]
    omega
  · have e3 : n.tmod (hi - lo + 1) = n % (hi - lo + 1) := by
      split at e0 <;> omega
    have w6 := i64w (lo + n % (hi - lo + 1)) (by omega) (by omega)
    simp [Try.f15, w1, w2, w6, hne, isLe e2, e3]

end Go.Proofs.Ytcgafaecdjbmiaa
