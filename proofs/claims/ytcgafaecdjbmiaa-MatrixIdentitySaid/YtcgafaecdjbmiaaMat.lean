/- Rows of bytes in the heap: read, and one's own. matrix.Right and the document's. -/
import Derived.Test.YtcgafaecdjbmiaaElim
import Derived.Test.YtcgafaecdjbmiaaBytes
import Derived.Test.YtcgafaecdjbmiaaAbsO3
namespace Go.Proofs.Ytcgafaecdjbmiaa
open Go Go.YtcgafaecdjbmiaaAbs
set_option linter.unusedSimpArgs false
set_option linter.unusedVariables false
set_option maxRecDepth 4000

/-- Rows that can be read. -/
structure Rd (h : Heap) (v : AV) (rs : List AV) (M : Mt) : Prop where
  sl : Sl 1 M.length h v rs
  row : ∀ (i : Nat) (r : AV) (L : Vc), rs[i]? = some r → M[i]? = some L → Sl 1 L.length h r (L.map bb)
section
variable {h h' : Heap} {v : AV} {rs : List AV} {M : Mt}
theorem Rd.len (R : Rd h v rs M) : rs.length = M.length := by have := R.sl.length; omega
theorem Rd.ext (R : Rd h v rs M) (K : Keep h.next nob h h') : Rd h' v rs M := ⟨R.sl.ext K, fun i r L hr hL => (R.row i r L hr hL).ext K⟩
theorem Rd.get (R : Rd h v rs M) {i : Nat} (hi : i < M.length) : ∃ r, rs[i]? = some r ∧ Sl 1 (rowA M i).length h r ((rowA M i).map bb) := by
  have := R.len
  obtain ⟨r, hr⟩ : ∃ r, rs[i]? = some r := ⟨rs[i]'(by omega), by simp⟩
  exact ⟨r, hr, R.row i r _ hr (rowA_mem hi).1⟩
end
/-- Right: so many rows and columns, all of one length. -/
def rightM (M : Mt) : Bool := decide (1 ≤ M.length ∧ M.length ≤ 12 ∧ 1 ≤ (rowA M 0).length ∧ (rowA M 0).length ≤ 12) && M.all fun r => decide (r.length = (rowA M 0).length)
theorem rightM_iff {M : Mt} : rightM M = true ↔ (1 ≤ M.length ∧ M.length ≤ 12 ∧ 1 ≤ (rowA M 0).length ∧ (rowA M 0).length ≤ 12) ∧ RowsN (rowA M 0).length M := by
  unfold rightM RowsN
  simp
theorem right_ok (k : Nat) (hk : 30 < k) (h : Heap) (v : AV) (rs : List AV) (M : Mt) (R : Rd h v rs M) :
    acall Try.prog (k + 1) 22 [v] h = some (.bool (rightM M), h) := by
  rw [acall_text [] Try.func22 (by kernel_rfl)]
  refine afuncT_of rfl (by simp [Try.f22]) ?_
  have lv := R.sl.len'
  by_cases h1 : M.length < 1
  · have e : rightM M = false := by unfold rightM; simp; intro q; omega
    have e0 : M.length = 0 := by omega
    rw [e]
    simp [Try.f22, lv, e0]
  by_cases h2 : 12 < M.length
  · have e : rightM M = false := by unfold rightM; simp; intro q; omega
    rw [e]
    simp [Try.f22, lv, isLt (show (12 : Int) < (M.length : Int) by omega), isLe (show (1 : Int) ≤ (M.length : Int) by omega)]
  obtain ⟨r0, hr0, R0⟩ := R.get (i := 0) (by omega)
  have ix0 : aindex Try.prog 27 v (.int .i64 0) = some (.ptr v.blk v.off) := R.sl.idx1 (P := Try.prog) Try.underlying27 ts31 (j := 0) (by omega) .i64
  have ld0 : aload Try.prog h 31 v.blk v.off = some r0 := R.sl.ld (P := Try.prog) ta31 hr0
  have l0 := R0.len'
  generalize hw : (rowA M 0).length = w at *
  by_cases h3 : w < 1
  · have e : rightM M = false := by unfold rightM; simp; intro q; omega
    have e0 : w = 0 := by omega
    rw [e]
    simp [Try.f22, lv, isLe (show (M.length : Int) ≤ 12 by omega), isLe (show (1 : Int) ≤ (M.length : Int) by omega), ix0, ld0, l0, e0]
  by_cases h4 : 12 < w
  · have e : rightM M = false := by unfold rightM; simp; intro q; omega
    rw [e]
    simp [Try.f22, lv, isLe (show (M.length : Int) ≤ 12 by omega), isLe (show (1 : Int) ≤ (M.length : Int) by omega), ix0, ld0, l0, isLe (show (1 : Int) ≤ (w : Int) by omega), isLt (show (12 : Int) < (w : Int) by omega)]
  simp [Try.f22, lv, isLe (show (M.length : Int) ≤ 12 by omega), isLe (show (1 : Int) ≤ (M.length : Int) by omega), ix0, ld0, l0, isLe (show (1 : Int) ≤ (w : Int) by omega), isLe (show (w : Int) ≤ 12 by omega)]
  refine W_loop (fun m st => ∃ i, m = M.length - i ∧ i ≤ M.length ∧ (∀ j, j < i → (rowA M j).length = w) ∧ st.t.get 0 = some v ∧ st.t.get 27 = some v ∧ st.t.get 28 = some (.int .i64 (M.length : Nat)) ∧ st.t.get 29 = some (.int .i64 (i : Nat)) ∧ st.h = h) M.length (by omega) ⟨0, by simp⟩ ?_
  rintro m ⟨t, h1⟩ ⟨i, rfl, hi, hno, q0, q27, q28, q29, e1⟩
  simp only at q0 q27 q28 q29 e1
  subst e1
  by_cases hlt : i < M.length
  · obtain ⟨r, hr, Rr⟩ := R.get hlt
    have ix := R.sl.idx1 (P := Try.prog) Try.underlying27 ts31 (j := i) hlt .i64
    have ld := R.sl.ld (P := Try.prog) ta31 hr
    have lr := Rr.len'
    by_cases hl : (rowA M i).length = w
    · simp [q0, q27, q28, q29, isLt (show (i : Int) < (M.length : Int) by omega), ix, ld, lr, hl, ix0, ld0, l0, i64w ((i : Int) + 1) (by omega) (by omega)]
      refine ⟨M.length - (i + 1), by omega, i + 1, rfl, by omega, fun j hj => ?_, by simp⟩
      by_cases hji : j = i
      · rw [hji]; exact hl
      · exact hno j (by omega)
    · have e : rightM M = false := by
        cases hq : rightM M with
        | false => rfl
        | true =>
          have := (rightM_iff.1 hq).2
          rw [hw] at this
          exact absurd (this.row hlt) hl
      have hl' : ¬ (((rowA M i).length : Nat) : Int) = (w : Int) := by omega
      simp [q0, q27, q28, q29, isLt (show (i : Int) < (M.length : Int) by omega), ix, ld, lr, hl, hl', ix0, ld0, l0, e]
  · have e : rightM M = true := by
      rw [rightM_iff, hw]
      exact ⟨by omega, rows_mem fun j hj => hno j (by omega)⟩
    simp [q0, q27, q28, q29, isLe (show (M.length : Int) ≤ (i : Int) by omega), e]
theorem rright_ok (k : Nat) (hk : 30 < k) (h : Heap) (v : AV) (rs : List AV) (M : Mt) (R : Rd h v rs M) :
    acall Try.prog (k + 1) 23 [v] h = some (.bool (rightM M), h) := by
  rw [acall_text [] Try.func23 (by kernel_rfl)]
  refine afuncT_of rfl (by simp [Try.f23]) ?_
  have lv := R.sl.len'
  by_cases h1 : M.length < 1
  · have e : rightM M = false := by unfold rightM; simp; intro q; omega
    have e0 : M.length = 0 := by omega
    rw [e]
    simp [Try.f23, lv, e0]
  have n0 : ¬ M.length = 0 := by omega
  by_cases h2 : 12 < M.length
  · have e : rightM M = false := by unfold rightM; simp; intro q; omega
    rw [e]
    simp [Try.f23, lv, isLt (show (12 : Int) < (M.length : Int) by omega), n0]
  obtain ⟨r0, hr0, R0⟩ := R.get (i := 0) (by omega)
  have ix0 : aindex Try.prog 27 v (.int .i64 0) = some (.ptr v.blk v.off) := R.sl.idx1 (P := Try.prog) Try.underlying27 ts31 (j := 0) (by omega) .i64
  have ld0 : aload Try.prog h 31 v.blk v.off = some r0 := R.sl.ld (P := Try.prog) ta31 hr0
  have l0 := R0.len'
  generalize hw : (rowA M 0).length = w at *
  have wrong : ∀ i, i < M.length → ((rowA M i).length ≠ w ∨ (rowA M i).length = 0 ∨ 12 < (rowA M i).length) → rightM M = false := fun i hi hq => by
    cases hz : rightM M with
    | false => rfl
    | true =>
      obtain ⟨a, b⟩ := rightM_iff.1 hz
      rw [hw] at a b
      have := b.row hi
      omega
  simp [Try.f23, lv, isLe (show (M.length : Int) ≤ 12 by omega), n0]
  refine W_loop (fun m st => ∃ i, m = M.length - i ∧ i ≤ M.length ∧ (∀ j, j < i → (rowA M j).length = w ∧ 1 ≤ w ∧ w ≤ 12) ∧ st.t.get 0 = some v ∧ st.t.get 3 = some (.int .i64 (i : Nat)) ∧ st.h = h) M.length (by omega) ⟨0, by simp⟩ ?_
  rintro m ⟨t, h1⟩ ⟨i, rfl, hi, hno, q0, q3, e1⟩
  simp only at q0 q3 e1
  subst e1
  by_cases hlt : i < M.length
  · obtain ⟨r, hr, Rr⟩ := R.get hlt
    have ix := R.sl.idx1 (P := Try.prog) Try.underlying27 ts31 (j := i) hlt .i64
    have ld := R.sl.ld (P := Try.prog) ta31 hr
    have lr := Rr.len'
    have wr := wrong i hlt
    generalize hL : (rowA M i).length = l at *
    by_cases hl : l = w
    · subst hl
      by_cases z0 : l = 0
      · have e := wr (.inr (.inl z0))
        simp [q0, q3, lv, isLt (show (i : Int) < (M.length : Int) by omega), ix, ld, lr, ix0, ld0, l0, e, z0]
      · by_cases z1 : 12 < l
        · have e := wr (.inr (.inr z1))
          simp [q0, q3, lv, isLt (show (i : Int) < (M.length : Int) by omega), ix, ld, lr, ix0, ld0, l0, e, z0, isLt (show (12 : Int) < (l : Int) by omega)]
        · simp [q0, q3, lv, isLt (show (i : Int) < (M.length : Int) by omega), ix, ld, lr, ix0, ld0, l0, z0, isLe (show (l : Int) ≤ 12 by omega), i64w ((i : Int) + 1) (by omega) (by omega)]
          refine ⟨M.length - (i + 1), by omega, i + 1, rfl, by omega, fun j hj => ?_, by simp⟩
          by_cases hji : j = i
          · rw [hji]; exact ⟨hL, by omega, by omega⟩
          · exact hno j (by omega)
    · have e := wr (.inl hl)
      have hl' : ¬ (l : Int) = (w : Int) := by omega
      simp [q0, q3, lv, isLt (show (i : Int) < (M.length : Int) by omega), ix, ld, lr, hl, hl', ix0, ld0, l0, e]
  · have e : rightM M = true := by
      rw [rightM_iff, hw]
      obtain ⟨_, a, b⟩ := hno 0 (by omega)
      exact ⟨by omega, rows_mem fun j hj => (hno j (by omega)).1⟩
    simp [q0, q3, lv, isLe (show (M.length : Int) ≤ (i : Int) by omega), e]
end Go.Proofs.Ytcgafaecdjbmiaa
