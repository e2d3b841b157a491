/- depotlaw2: what its laws have in common. -/
import Derived.Test.YtcgafaecdjbmiaaMatW
import Derived.Test.YtcgafaecdjbmiaaBook
namespace Go.Proofs.Ytcgafaecdjbmiaa
open Go Go.YtcgafaecdjbmiaaAbs
set_option linter.unusedSimpArgs false
set_option linter.unusedVariables false
set_option maxRecDepth 4000

/-- The field's tables, in a new block. -/
theorem field_new (k : Nat) (hk : 1000 < k) (h : Heap) : ∃ h1 h2 b, acall Try.prog (k + 1) 9 [] h = some (.agg fieldC, h1) ∧ h1.next = b ∧ alay (h1.new (.cells zz25 false)) b 0 fieldC = some h2 ∧ (AV.agg fieldC).row1 = some fieldC ∧ Fld h2 (.ptr b 0) ∧ Keep h.next nob h h2 := by
  obtain ⟨_, h1, E1, rfl, k1⟩ := make_ok k (by omega) h
  have row : (AV.agg fieldC).row1 = some fieldC := row1_agg fieldC_one
  have lay : alay (h1.new (.cells zz25 false)) h1.next 0 fieldC = some (h1.new (.cells fieldC false)) := alay_new (by rw [fieldC_len, zz25_len])
  have g2 : (h1.new (.cells fieldC false)).get h1.next = some (.cells fieldC false) := get_new_self _ _
  have k2 : Keep h.next nob h (h1.new (.cells fieldC false)) := k1.trans (Keep.new k1.1 _)
  have f : Fld (h1.new (.cells fieldC false)) (.ptr h1.next 0) := ⟨_, _, _, _, rfl, Nat.lt_succ_self _, g2, fun j _ => by rw [Nat.zero_add]⟩
  exact ⟨h1, _, _, E1, rfl, lay, row, f, k2⟩
/-- Within, as a number that isn't below nought. -/
theorem within_nat (k : Nat) (a lo hi : Int) (h0 : 0 ≤ lo) (hl : lo ≤ hi) (h2 : hi ≤ 1000000000000) (h : Heap) :
    ∃ n : Nat, acall Try.prog (k + 1) 15 [.int .i64 a, .int .i64 lo, .int .i64 hi] h = some (.int .i64 (n : Nat), h) ∧ lo ≤ (n : Int) ∧ (n : Int) ≤ hi := by
  have W := within_ok k a lo hi hl (by omega) h2 h
  have m1 : 0 ≤ a % (hi - lo + 1) := Int.emod_nonneg _ (by omega)
  have m2 : a % (hi - lo + 1) < hi - lo + 1 := Int.emod_lt_of_pos _ (by omega)
  refine ⟨(lo + a % (hi - lo + 1)).toNat, ?_, by omega, by omega⟩
  rw [W, Int.toNat_of_nonneg (by omega)]
section
variable {n : Nat} {M : Mt}
theorem sq_right (h : RowsN n M) (hn : M.length = n) (n1 : 1 ≤ n) (n2 : n ≤ 12) : rightM M = true ∧ (rowA M 0).length = n := by
  have hw0 : (rowA M 0).length = n := h.row (by omega)
  exact ⟨by rw [rightM_iff, hw0]; exact ⟨by omega, h⟩, hw0⟩
theorem sq_inv (h : RowsN n M) (hn : M.length = n) (n1 : 1 ≤ n) (n2 : n ≤ 12) : invP M = invA M := by
  obtain ⟨a, b⟩ := sq_right h hn n1 n2
  unfold invP
  rw [if_pos ⟨a, by omega⟩]
theorem sq_rank (h : RowsN n M) (hn : M.length = n) (n1 : 1 ≤ n) (n2 : n ≤ 12) : rankP M = rankA n M := by
  obtain ⟨a, b⟩ := sq_right h hn n1 n2
  unfold rankP
  rw [if_pos a, b]
theorem sq_times {B : Mt} (h : RowsN n M) (hn : M.length = n) (hB : RowsN n B) (hl : B.length = n) (n1 : 1 ≤ n) (n2 : n ≤ 12) : timesP M B = (mtT n M B, true) := by
  obtain ⟨a, b⟩ := sq_right h hn n1 n2
  obtain ⟨a', b'⟩ := sq_right hB hl n1 n2
  unfold timesP
  rw [if_pos ⟨a, a', by omega⟩, b']
end
/-- A square's product, as the code has it. -/
theorem times_sq (k : Nat) (hk : 250 < k) (h : Heap) (fv : AV) (f : Fld h fv) (va vb : AV) (rsa rsb : List AV) (A B : Mt) (RA : Rd h va rsa A) (RB : Rd h vb rsb B) {n : Nat} (hA : RowsN n A) (lA : A.length = n) (hB : RowsN n B) (lB : B.length = n) (n1 : 1 ≤ n) (n2 : n ≤ 12) :
    ∃ v' h', acall Try.prog (k + 2) 18 [fv, va, vb] h = some (.tup [v', .bool true], h') ∧ Nw h h' v' (mtT n A B) := by
  obtain ⟨v', h', b, e, hb, K, N, _⟩ := times_ok k hk h fv f va vb rsa rsb A B RA RB
  rw [sq_times hA lA hB lB n1 n2] at hb N
  have hb : true = b := hb
  subst hb
  exact ⟨v', h', e, N rfl⟩
theorem same_sq (k : Nat) (hk : 100 < k) (h : Heap) (va vb : AV) {rsa rsb : List AV} {A : Mt} (RA : Rd h va rsa A) (RB : Rd h vb rsb A) {n : Nat} (hA : RowsN n A) (lA : A.length = n) (n2 : n ≤ 12) :
    acall Try.prog (k + 2) 11 [va, vb] h = some (.bool true, h) := same_ok k hk h va vb rsa rsb A RA RB (by omega) (fun r hr => by rw [hA r hr]; omega)
theorem mtT_len (n : Nat) (A B : Mt) : (mtT n A B).length = A.length := by simp [mtT]
end Go.Proofs.Ytcgafaecdjbmiaa
