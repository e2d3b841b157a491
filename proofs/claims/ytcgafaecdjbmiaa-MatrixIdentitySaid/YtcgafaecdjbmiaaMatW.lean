/- depotlaw2: same, square, few. -/
import Derived.Test.YtcgafaecdjbmiaaMatU
import Derived.Test.YtcgafaecdjbmiaaRoomy
namespace Go.Proofs.Ytcgafaecdjbmiaa
open Go Go.YtcgafaecdjbmiaaAbs
set_option linter.unusedSimpArgs false
set_option linter.unusedVariables false
set_option maxRecDepth 4000

theorem same_ok (k : Nat) (hk : 100 < k) (h : Heap) (va vb : AV) (rsa rsb : List AV) (A : Mt) (RA : Rd h va rsa A) (RB : Rd h vb rsb A) (hl : A.length ≤ 12) (hr : ∀ r, r ∈ A → r.length ≤ 50) :
    acall Try.prog (k + 2) 11 [va, vb] h = some (.bool true, h) := by
  rw [acall_text [] Try.func11 (by kernel_rfl)]
  refine afuncT_of rfl (by simp [Try.f11]) ?_
  have lA := RA.sl.len'
  have lB := RB.sl.len'
  simp [Try.f11, lA, lB]
  refine W_loop (fun m st => ∃ i, m = A.length - i ∧ i ≤ A.length ∧ st.t.get 0 = some va ∧ st.t.get 1 = some vb ∧ st.t.get 5 = some (.int .i64 (i : Nat)) ∧ st.h = h) A.length (by omega) ⟨0, by simp⟩ ?_
  rintro m ⟨t, h1⟩ ⟨i, rfl, hi, q0, q1, q5, e1⟩
  simp only at q0 q1 q5 e1
  subst e1
  by_cases hlt : i < A.length
  · obtain ⟨r, hr1, Ra⟩ := RA.get hlt
    obtain ⟨s, hs1, Rb⟩ := RB.get hlt
    have hrl := hr _ (rowA_mem hlt).2
    have ixa := RA.sl.idx1 (P := Try.prog) Try.underlying27 ts31 (j := i) hlt .i64
    have lda := RA.sl.ld (P := Try.prog) ta31 hr1
    have ixb := RB.sl.idx1 (P := Try.prog) Try.underlying27 ts31 (j := i) hlt .i64
    have ldb := RB.sl.ld (P := Try.prog) ta31 hs1
    have E := sameB_ok k (rowA A i) (rowA A i) r s h1 Ra Rb (by omega) (by omega)
    simp at E
    simp [q0, q1, q5, lA, isLt (show (i : Int) < (A.length : Int) by omega), ixa, lda, ixb, ldb, E, i64w ((i : Int) + 1) (by omega) (by omega)]
    exact ⟨A.length - (i + 1), by omega, i + 1, rfl, by omega, by simp⟩
  · simp [q0, q1, q5, lA, isLe (show (A.length : Int) ≤ (i : Int) by omega)]
theorem square_ok (k : Nat) (hk : 30 < k) (h : Heap) (vb : AV) (b : Vc) (S : Sl 1 b.length h vb (b.map bb)) (n : Nat) (n1 : 1 ≤ n) (n2 : n ≤ 12) :
    ∃ v' h', acall Try.prog (k + 2) 26 [vb, .int .i64 (n : Nat)] h = some (v', h') ∧ ∃ M, Nw h h' v' M ∧ M.length = n ∧ RowsN n M := by
  rw [acall_text [] Try.func26 (by kernel_rfl)]
  refine afuncT_ex rfl (by simp [Try.f26]) ?_
  have N0 : Nw h h .nils [] := ⟨[], ⟨Mine.nil 1 h, rfl, fun i r L hr => by simp at hr⟩, by show ([] : List Nat).Nodup; exact List.nodup_nil, fun d hd => by simp [blks, AV.at?] at hd, Keep.refl _ _ _⟩
  simp [Try.f26]
  refine W_cutLoop 0 (fun st => ∃ v' M, st.t.get 5 = some v' ∧ Nw h st.h v' M ∧ M.length = n ∧ RowsN n M) ?_ ?_
  · refine W_loop (fun mm st => ∃ (i : Nat) (v' : AV) (M : Mt), mm = n - i ∧ i ≤ n ∧ st.t.get 0 = some vb ∧ st.t.get 1 = some (.int .i64 (n : Nat)) ∧ st.t.get 5 = some v' ∧ st.t.get 6 = some (.int .i64 (i : Nat)) ∧ Nw h st.h v' M ∧ M.length = i ∧ RowsN n M) n (by omega)
      ⟨0, .nils, [], by omega, by omega, by simp, by simp, by simp, by simp, N0, rfl, fun r hr => by cases hr⟩ ?_
    rintro mm ⟨t, h3⟩ ⟨i, v3, M, rfl, hi, q0, q1, q5, q6, N3, hMl, hMr⟩
    simp only at q0 q1 q5 q6 N3
    by_cases hlt : i < n
    · have Mz := new_row h3 (zv n) n (zv_len n)
      rw [zv_bb] at Mz
      have Kz : Keep h3.next nob h3 (h3.new (.cells (List.replicate n (.int .u8 0)) false)) := Keep.new (Nat.le_refl _) _
      obtain ⟨rv, hrv⟩ : ∃ rv, AV.sl h3.next 0 n n 1 true = rv := ⟨_, rfl⟩
      have Fz : ∀ d, Has rv d → h3.next ≤ d := fun d hd => by rw [← hrv] at hd; cases hd; exact Nat.le_refl _
      simp [q0, q1, q5, q6, isLt (show (i : Int) < (n : Int) by omega), aalloc_make (P := Try.prog) el31 (z := [.int .u8 0]) az5 rfl rfl n n (Nat.le_refl _) (by omega), flat1, afill]
      rw [hrv] at Mz ⊢
      refine W_cutLoop 2 (fun st => st.t.get 0 = some vb ∧ st.t.get 1 = some (.int .i64 (n : Nat)) ∧ st.t.get 5 = some v3 ∧ st.t.get 6 = some (.int .i64 (i : Nat)) ∧ st.t.get 7 = some rv ∧ ∃ L : Vc, L.length = n ∧ Mine 1 n st.h rv (L.map bb) ∧ Keep h3.next nob h3 st.h) ?_ ?_
      · refine W_loop (fun mm st => ∃ (j : Nat) (L : Vc), mm = n - j ∧ j ≤ n ∧ st.t.get 0 = some vb ∧ st.t.get 1 = some (.int .i64 (n : Nat)) ∧ st.t.get 5 = some v3 ∧ st.t.get 6 = some (.int .i64 (i : Nat)) ∧ st.t.get 7 = some rv ∧ st.t.get 8 = some (.int .i64 (j : Nat)) ∧ L.length = n ∧ Mine 1 n st.h rv (L.map bb) ∧ Keep h3.next nob h3 st.h) n (by omega)
          ⟨0, zv n, by omega, by omega, by simp [q0], by simp [q1], by simp [q5], by simp [q6], by simp, by simp, by simp, by rw [zv_bb]; exact Mz, Kz⟩ ?_
        clear q0 q1 q5 q6
        rintro mm ⟨t, h5⟩ ⟨j, L, rfl, hj, q0, q1, q5, q6, q7, q8, hL, M5, K5⟩
        simp only at q0 q1 q5 q6 q7 q8 M5 K5
        have S5 := (S.ext N3.kb).ext K5
        have lb := S5.len'
        have hin : i * n ≤ 12 * 12 := Nat.mul_le_mul (by omega) n2
        obtain ⟨p, hp⟩ : ∃ p, i * n = p := ⟨_, rfl⟩
        have hpi : (i : Int) * (n : Int) = (p : Nat) := by rw [← hp]; simp
        have s1 := i64w ((p : Nat) : Int) (by omega) (by omega)
        have s2 : fwrap .i64 ((p : Int) + (j : Int)) = ((p + j : Nat) : Int) := by rw [i64w _ (by omega) (by omega)]; omega
        obtain ⟨q, hq⟩ : ∃ q, p + j = q := ⟨_, rfl⟩
        rw [hq] at s2
        by_cases hjl : j < n
        · by_cases hb : q < b.length
          · have ixb := S5.idx1 (P := Try.prog) Try.underlying31 ts5 (j := q) hb .i64
            obtain ⟨x, hx⟩ := getb hb
            have ldb := S5.ld (P := Try.prog) ta5 (bb_get hx)
            have ixr := M5.sl.idx1 (P := Try.prog) Try.underlying31 ts5 (j := j) hjl .i64
            obtain ⟨h6, a6, M6, K6, n6⟩ := M5.lay1 (j := j) (x := bb x) hjl rfl
            have e6 : (L.map bb).set j (bb x) = (L.set j x).map bb := by rw [List.map_set]
            rw [e6] at M6
            have K6' : Keep h3.next nob h3 h6 := K5.trans ⟨K6.1, fun d hd _ => K6.2 d (Nat.lt_of_lt_of_le hd K5.1) fun q => by have := Fz d q; omega⟩
            have rb := row1_one (show (bb x).one = true from rfl)
            have ob : (bb x).one = true := rfl
            simp [q0, q1, q5, q6, q7, q8, isLt (show (j : Int) < (n : Int) by omega), hpi, s1, s2, lb, isLt (show (q : Int) < (b.length : Int) by omega), ixb, ldb, ixr, rb, ob, a6, i64w ((j : Int) + 1) (by omega) (by omega)]
            exact ⟨n - (j + 1), by omega, j + 1, by omega, by omega, by simp, L.set j x, by simpa using hL, M6, K6'⟩
          · simp [q0, q1, q5, q6, q7, q8, isLt (show (j : Int) < (n : Int) by omega), hpi, s1, s2, lb, isLe (show (b.length : Int) ≤ (q : Int) by omega)]
            exact ⟨L, hL, M5, K5⟩
        · simp [q0, q1, q5, q6, q7, q8, isLe (show (n : Int) ≤ (j : Int) by omega)]
          exact ⟨L, hL, M5, K5⟩
      clear q0 q1 q5 q6
      rintro ⟨t, h5⟩ ⟨q0, q1, q5, q6, q7, L, hL, M5, K5⟩
      simp only at q0 q1 q5 q6 q7 M5 K5
      obtain ⟨v6, h6, a6, N6⟩ := N3.push K5 (L := L) (by rw [hL]; exact M5) Fz (by omega)
      have rwr := row1_one (show rv.one = true from M5.oneV)
      simp [q0, q1, q5, q6, q7, aalloc, afill, rwr, show rv.one = true from M5.oneV, a6, i64w ((i : Int) + 1) (by omega) (by omega)]
      exact ⟨n - (i + 1), by omega, i + 1, rfl, by omega, by simp, M ++ [L], N6, by simp [hMl], fun r hr => by
        rcases List.mem_append.1 hr with z | z
        · exact hMr r z
        · rw [List.mem_singleton] at z; subst z; exact hL⟩
    · have e : i = n := by omega
      simp [q0, q1, q5, q6, e]
      exact ⟨M, N3, by omega, hMr⟩
  · rintro ⟨t, h3⟩ ⟨v', M, q5, N, hMl, hMr⟩
    simp only at q5 N
    simp [q5]
    exact ⟨M, N, hMl, hMr⟩
end Go.Proofs.Ytcgafaecdjbmiaa
