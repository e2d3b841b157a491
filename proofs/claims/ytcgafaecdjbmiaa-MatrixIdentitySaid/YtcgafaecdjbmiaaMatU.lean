/- matrix.Times, the walk. -/
import Derived.Test.YtcgafaecdjbmiaaMatT
namespace Go.Proofs.Ytcgafaecdjbmiaa
open Go Go.YtcgafaecdjbmiaaAbs
set_option linter.unusedSimpArgs false
set_option linter.unusedVariables false
set_option maxRecDepth 4000

set_option maxHeartbeats 4000000 in
theorem times_ok (k : Nat) (hk : 250 < k) (h : Heap) (fv : AV) (f : Fld h fv) (va vb : AV) (rsa rsb : List AV) (A B : Mt) (RA : Rd h va rsa A) (RB : Rd h vb rsb B) :
    ∃ v' h' b, acall Try.prog (k + 2) 18 [fv, va, vb] h = some (.tup [v', .bool b], h') ∧ (timesP A B).2 = b ∧ Keep h.next nob h h' ∧ (b = true → Nw h h' v' (timesP A B).1) ∧ (b = false → v' = .nils) := by
  have E1 : acall Try.prog (k + 1) 22 [va] h = _ := right_ok k (by omega) h va rsa A RA
  have E2 : acall Try.prog (k + 1) 22 [vb] h = _ := right_ok k (by omega) h vb rsb B RB
  have start : ∀ (b : Bool), (∃ r h', afuncT Try.prog [17] (acall Try.prog (k + 1)) (k + 1) Try.f18 [fv, va, vb] h = some (r, h') ∧ ∃ v', r = .tup [v', .bool b] ∧ Keep h.next nob h h' ∧ (b = true → Nw h h' v' (timesP A B).1) ∧ (b = false → v' = .nils)) → (timesP A B).2 = b →
      ∃ v' h' b, acall Try.prog (k + 2) 18 [fv, va, vb] h = some (.tup [v', .bool b], h') ∧ (timesP A B).2 = b ∧ Keep h.next nob h h' ∧ (b = true → Nw h h' v' (timesP A B).1) ∧ (b = false → v' = .nils) := by
    rintro b ⟨r, h', e, v', rfl, x1, x2, x3⟩ hq
    refine ⟨v', h', b, ?_, hq, x1, x2, x3⟩
    rw [acall_text [17] Try.func18 (by kernel_rfl)]
    exact e
  cases hA : rightM A with
  | false =>
    rw [hA] at E1
    refine start false (afuncT_ex rfl (by simp [Try.f18]) ?_) (by unfold timesP; rw [hA]; simp)
    simp [Try.f18, E1]
    exact Keep.refl _ _ _
  | true =>
  rw [hA] at E1
  cases hB : rightM B with
  | false =>
    rw [hB] at E2
    refine start false (afuncT_ex rfl (by simp [Try.f18]) ?_) (by unfold timesP; rw [hB]; simp)
    simp [Try.f18, E1, E2]
    exact Keep.refl _ _ _
  | true =>
  rw [hB] at E2
  obtain ⟨a1, a2⟩ := rightM_iff.1 hA
  obtain ⟨b1, b2⟩ := rightM_iff.1 hB
  obtain ⟨r0, hr0, R0⟩ := RA.get (i := 0) (by omega)
  have ix0 : aindex Try.prog 27 va (.int .i64 0) = some (.ptr va.blk va.off) := RA.sl.idx1 (P := Try.prog) Try.underlying27 ts31 (j := 0) (by omega) .i64
  have ld0 : aload Try.prog h 31 va.blk va.off = some r0 := RA.sl.ld (P := Try.prog) ta31 hr0
  have l0 := R0.len'
  have lA := RA.sl.len'
  have lB := RB.sl.len'
  by_cases hsq : (rowA A 0).length = B.length
  rotate_left
  · have hsq' : ¬ (((rowA A 0).length : Nat) : Int) = (B.length : Int) := by omega
    refine start false (afuncT_ex rfl (by simp [Try.f18]) ?_) (by unfold timesP; rw [if_neg (fun q => hsq q.2.2)])
    simp [Try.f18, E1, E2, lB, ix0, ld0, l0, hsq, hsq']
    exact Keep.refl _ _ _
  refine start true (afuncT_ex rfl (by simp [Try.f18]) ?_) (by unfold timesP; rw [if_pos ⟨hA, hB, hsq⟩])
  simp [Try.f18, E1, E2, lA, lB, ix0, ld0, l0, hsq, aalloc_make (P := Try.prog) el27 (z := [.nils]) az31 rfl rfl A.length A.length (Nat.le_refl _) (by omega), aalloc_make (P := Try.prog) el31 (z := [.int .u8 0]) az5 rfl rfl B.length B.length (Nat.le_refl _) (by omega), flat1, afill]
  obtain ⟨w, hw⟩ : ∃ w, (rowA B 0).length = w := ⟨_, rfl⟩
  rw [hw] at b1 b2
  have eT : (timesP A B).1 = mtT w A B := by unfold timesP; rw [if_pos ⟨hA, hB, hsq⟩, hw]
  rw [eT]
  have N0 := rows_nil h A.length
  have T0 : Two h ((h.new (.cells (List.replicate A.length .nils) false)).new (.cells (List.replicate B.length (.int .u8 0)) false)) (.sl h.next 0 A.length A.length 1 true) (List.replicate A.length []) (.sl (h.next + 1) 0 B.length B.length 1 true) (zv B.length) := by
    obtain ⟨rs, R, Ap, ff, K⟩ := N0
    have Mz := new_row (h.new (.cells (List.replicate A.length .nils) false)) (zv B.length) B.length (zv_len _)
    rw [zv_bb] at Mz
    refine ⟨⟨rs, R.ext (Keep.new (Nat.le_refl _) _), Ap, fun d hd => ⟨ff d hd, fun q => ?_⟩⟩, by rw [zv_len, zv_bb]; exact Mz, fun d hd => by cases hd; exact Nat.le_succ _, K.trans (Keep.new K.1 _)⟩
    cases q
    have := R.lt hd
    have : h.next + 1 < h.next + 1 := this
    omega
  generalize (h.new (.cells (List.replicate A.length .nils) false)).new (.cells (List.replicate B.length (.int .u8 0)) false) = h1 at *
  obtain ⟨mv, hmv⟩ : ∃ mv, AV.sl h.next 0 A.length A.length 1 true = mv := ⟨_, rfl⟩
  obtain ⟨cv, hcv⟩ : ∃ cv, AV.sl (h.next + 1) 0 B.length B.length 1 true = cv := ⟨_, rfl⟩
  rw [hmv, hcv] at T0
  have hRl : (mtT w A B).length = (List.replicate A.length ([] : Vc)).length := by simp [mtT]
  refine W_cutLoop 0 (fun st => st.t.get 8 = some mv ∧ Nw h st.h mv (mtT w A B)) ?_ ?_
  · refine W_loop (fun mm st => ∃ (i : Nat) (L : Vc), mm = A.length - i ∧ i ≤ A.length ∧ st.t.get 0 = some fv ∧ st.t.get 1 = some va ∧ st.t.get 2 = some vb ∧ st.t.get 8 = some mv ∧ st.t.get 9 = some cv ∧ st.t.get 37 = some (.int .i64 (A.length : Nat)) ∧ st.t.get 38 = some (.int .i64 (i : Nat)) ∧ L.length = B.length ∧ Two h st.h mv (mixL (mtT w A B) (List.replicate A.length []) i) cv L) A.length (by omega)
      ⟨0, zv B.length, by omega, by omega, by simp, by simp, by simp, by simp [hmv], by simp [hcv], by simp, by simp, by simp, by rw [mixL_0]; exact T0⟩ ?_
    rintro mm ⟨t, h3⟩ ⟨i, L, rfl, hi, q0, q1, q2, q8, q9, q37, q38, hL, T⟩
    simp only at q0 q1 q2 q8 q9 q37 q38 T
    by_cases hlt : i < A.length
    · have RB3 := RB.ext T.kb
      have RA3 := RA.ext T.kb
      obtain ⟨rb0, hrb0, Rb0⟩ := RB3.get (i := 0) (by omega)
      have ixb0 : aindex Try.prog 27 vb (.int .i64 0) = some (.ptr vb.blk vb.off) := RB3.sl.idx1 (P := Try.prog) Try.underlying27 ts31 (j := 0) (by omega) .i64
      have ldb0 : aload Try.prog h3 31 vb.blk vb.off = some rb0 := RB3.sl.ld (P := Try.prog) ta31 hrb0
      have lb0 := Rb0.len'
      rw [hw] at lb0
      have hml : (mixL (mtT w A B) (List.replicate A.length []) i).length = A.length := by rw [mixL_len hRl]; simp
      obtain ⟨h4, a4, T4, rs4, R4, hr4⟩ := T.set (j := i) (by omega) (Keep.new (Nat.le_refl _) (.cells ((zv w).map bb) false)) (L' := zv w) (r' := .sl h3.next 0 w w 1 true) (by rw [zv_len]; exact new_row h3 (zv w) w (zv_len w)) (fun d hd => by cases hd; exact Nat.le_refl _)
      rw [zv_bb] at a4
      have ixm := R4.own.sl.idx1 (P := Try.prog) Try.underlying27 ts31 (j := i) (by rw [R4.len, List.length_set]; omega) .i64
      have ldm := R4.own.sl.ld (P := Try.prog) ta31 hr4
      have lz : ∀ (k : Heap) (e : TypeId), vlen' k (.sl h3.next 0 w w 1 true) (some (.slice e)) = some (.int .i64 (w : Nat)) := fun k e => rfl
      simp [q0, q1, q2, q8, q9, q37, q38, isLt (show (i : Int) < (A.length : Int) by omega), ixb0, ldb0, lb0, aalloc_make (P := Try.prog) el31 (z := [.int .u8 0]) az5 rfl rfl w w (Nat.le_refl _) (by omega), flat1, afill, ixm, a4, ldm, lz]
      obtain ⟨X, hX⟩ : ∃ X, mixL (mtT w A B) (List.replicate A.length []) i = X := ⟨_, rfl⟩
      have hXl : X.length = A.length := by rw [← hX]; exact hml
      rw [hX] at T4
      have hrw : (lc w (rowA A i) B).length = (zv w).length := by rw [lc_len b2, zv_len]
      refine W_cutLoop 2 (fun st => st.t.get 0 = some fv ∧ st.t.get 1 = some va ∧ st.t.get 2 = some vb ∧ st.t.get 8 = some mv ∧ st.t.get 9 = some cv ∧ st.t.get 37 = some (.int .i64 (A.length : Nat)) ∧ st.t.get 38 = some (.int .i64 (i : Nat)) ∧ ∃ L : Vc, L.length = B.length ∧ Two h st.h mv (X.set i (lc w (rowA A i) B)) cv L) ?_ ?_
      · refine W_loop (fun mm st => ∃ (j : Nat) (L : Vc), mm = w - j ∧ j ≤ w ∧ st.t.get 0 = some fv ∧ st.t.get 1 = some va ∧ st.t.get 2 = some vb ∧ st.t.get 8 = some mv ∧ st.t.get 9 = some cv ∧ st.t.get 10 = some (.int .i64 (i : Nat)) ∧ st.t.get 37 = some (.int .i64 (A.length : Nat)) ∧ st.t.get 38 = some (.int .i64 (i : Nat)) ∧ st.t.get 53 = some (.int .i64 (w : Nat)) ∧ st.t.get 54 = some (.int .i64 (j : Nat)) ∧ L.length = B.length ∧ Two h st.h mv (X.set i (mixL (lc w (rowA A i) B) (zv w) j)) cv L) w (by omega)
          ⟨0, L, by omega, by omega, by simp [q0], by simp [q1], by simp [q2], by simp [q8], by simp [q9], by simp, by simp [q37], by simp [q38], by simp, by simp, hL, by rw [mixL_0]; exact T4⟩ ?_
        clear q0 q1 q2 q8 q9 q37 q38 T4 R4 hr4 a4 ixm ldm
        rintro mm ⟨t, h5⟩ ⟨j, L5, rfl, hj, q0, q1, q2, q8, q9, q10, q37, q38, q53, q54, hL5, T5⟩
        simp only at q0 q1 q2 q8 q9 q10 q37 q38 q53 q54 T5
        by_cases hjw : j < w
        · have lcv := T5.row.sl.len'
          rw [hL5] at lcv
          have hcl : (colM B j).length = L5.length := by simp [colM, hL5]
          simp [q0, q1, q2, q8, q9, q10, q37, q38, q53, q54, isLt (show (j : Int) < (w : Int) by omega), lcv]
          refine W_cutLoop 4 (fun st => st.t.get 0 = some fv ∧ st.t.get 1 = some va ∧ st.t.get 2 = some vb ∧ st.t.get 8 = some mv ∧ st.t.get 9 = some cv ∧ st.t.get 10 = some (.int .i64 (i : Nat)) ∧ st.t.get 11 = some (.int .i64 (j : Nat)) ∧ st.t.get 37 = some (.int .i64 (A.length : Nat)) ∧ st.t.get 38 = some (.int .i64 (i : Nat)) ∧ st.t.get 53 = some (.int .i64 (w : Nat)) ∧ st.t.get 54 = some (.int .i64 (j : Nat)) ∧ Two h st.h mv (X.set i (mixL (lc w (rowA A i) B) (zv w) j)) cv (colM B j)) ?_ ?_
          · refine W_loop (fun mm st => ∃ (l : Nat), mm = B.length - l ∧ l ≤ B.length ∧ st.t.get 0 = some fv ∧ st.t.get 1 = some va ∧ st.t.get 2 = some vb ∧ st.t.get 8 = some mv ∧ st.t.get 9 = some cv ∧ st.t.get 10 = some (.int .i64 (i : Nat)) ∧ st.t.get 11 = some (.int .i64 (j : Nat)) ∧ st.t.get 37 = some (.int .i64 (A.length : Nat)) ∧ st.t.get 38 = some (.int .i64 (i : Nat)) ∧ st.t.get 53 = some (.int .i64 (w : Nat)) ∧ st.t.get 54 = some (.int .i64 (j : Nat)) ∧ st.t.get 58 = some (.int .i64 (B.length : Nat)) ∧ st.t.get 59 = some (.int .i64 (l : Nat)) ∧ Two h st.h mv (X.set i (mixL (lc w (rowA A i) B) (zv w) j)) cv (mixL (colM B j) L5 l)) B.length (by omega)
              ⟨0, by omega, by omega, by simp [q0], by simp [q1], by simp [q2], by simp [q8], by simp [q9], by simp [q10], by simp, by simp [q37], by simp [q38], by simp [q53], by simp [q54], by simp, by simp, by rw [mixL_0]; exact T5⟩ ?_
            clear q0 q1 q2 q8 q9 q10 q37 q38 q53 q54 T5
            rintro mm ⟨t, h6⟩ ⟨l, rfl, hl, q0, q1, q2, q8, q9, q10, q11, q37, q38, q53, q54, q58, q59, T6⟩
            simp only at q0 q1 q2 q8 q9 q10 q11 q37 q38 q53 q54 q58 q59 T6
            by_cases hll : l < B.length
            · have RB6 := RB.ext T6.kb
              obtain ⟨rb, hrb, Rb⟩ := RB6.get hll
              have hrl := b2.row hll
              have ixb := RB6.sl.idx1 (P := Try.prog) Try.underlying27 ts31 (j := l) hll .i64
              have ldb := RB6.sl.ld (P := Try.prog) ta31 hrb
              have ixe := row_ix Rb (j := j) (by omega)
              have lde := row_ld Rb (j := j) (by omega)
              have ea : (rowA B l)[j]?.getD 0 = atA B l j := rfl
              rw [ea] at lde
              have ixc := T6.row.sl.idx1 (P := Try.prog) Try.underlying31 ts5 (j := l) (by rw [mixL_len hcl]; omega) .i64
              obtain ⟨h7, a7, T7⟩ := T6.col (j := l) (by rw [mixL_len hcl]; omega) (atA B l j)
              rw [mixL_set hcl (colM_at hll)] at T7
              simp [q0, q1, q2, q8, q9, q10, q11, q37, q38, q53, q54, q58, q59, isLt (show (l : Int) < (B.length : Int) by omega), ixb, ldb, ixe, lde, ixc, a7, i64w ((l : Int) + 1) (by omega) (by omega)]
              exact ⟨B.length - (l + 1), by omega, l + 1, rfl, by omega, by simp, T7⟩
            · have e : l = (colM B j).length := by simp [colM]; omega
              rw [e, mixL_all hcl] at T6
              simp [q0, q1, q2, q8, q9, q10, q11, q37, q38, q53, q54, q58, q59, isLe (show (B.length : Int) ≤ (l : Int) by omega)]
              exact T6
          · clear q0 q1 q2 q8 q9 q10 q37 q38 q53 q54 T5
            rintro ⟨t, h6⟩ ⟨q0, q1, q2, q8, q9, q10, q11, q37, q38, q53, q54, T6⟩
            simp only at q0 q1 q2 q8 q9 q10 q11 q37 q38 q53 q54 T6
            have RA6 := RA.ext T6.kb
            obtain ⟨ra, hra, Ra⟩ := RA6.get hlt
            have ixa := RA6.sl.idx1 (P := Try.prog) Try.underlying27 ts31 (j := i) hlt .i64
            have lda := RA6.sl.ld (P := Try.prog) ta31 hra
            have hal := a2.row hlt
            have f6 := f.ext T6.kb
            have hcB : (colM B j).length = B.length := by simp [colM]
            have E6 := dot_ok k h6 fv ra cv f6 (rowA A i) (colM B j) Ra T6.row.sl (by omega) (by omega)
            have hXi : (X.set i (mixL (lc w (rowA A i) B) (zv w) j)).length = A.length := by simp [hXl]
            have hri : rowA (X.set i (mixL (lc w (rowA A i) B) (zv w) j)) i = mixL (lc w (rowA A i) B) (zv w) j := by rw [rowA_set (by omega), if_pos rfl]
            have hge : (lc w (rowA A i) B)[j]? = some (dot (rowA A i) (colM B j)) := by
              have := lc_get j b2 (u := rowA A i)
              rw [List.getElem?_eq_getElem (by rw [lc_len b2]; exact hjw)] at this ⊢
              rw [← this]; rfl
            obtain ⟨r, h7, ldr, Sr, a7, T7⟩ := T6.put (j := i) (by omega) (i := j) (by rw [hri, mixL_len hrw, zv_len]; exact hjw) (dot (rowA A i) (colM B j))
            rw [hri] at Sr T7
            rw [List.set_set, mixL_set hrw hge] at T7
            obtain ⟨rs6, R6, _⟩ := T6.rows
            have ixm6 := R6.own.sl.idx1 (P := Try.prog) Try.underlying27 ts31 (j := i) (by rw [R6.len]; omega) .i64
            have ixr6 := row_ix Sr (j := j) (by rw [mixL_len hrw, zv_len]; exact hjw)
            have vlt := R6.own.sl.blk_lt (by rw [R6.len]; omega)
            have alt := RA6.sl.blk_lt (by omega)
            have smr := Sr.same
            have sma := Ra.same
            have ag : Agree h6.next h6 h6 := fun _ _ => rfl
            simp [q0, q1, q2, q8, q9, q10, q11, q37, q38, q53, q54]
            refine W_split 12 h6.next (by rfl) (by kernel_rfl) (by rfl) ?_
            dsimp only [List.take, List.drop]
            simp [obl, mayEff, mayRead, sameAV, q0, q1, q2, q8, q9, q10, q11, q37, q38, q53, q54, ixa, lda, E6, ixm6, ldr, ixr6, a7, vlt, alt, smr, sma, ag, i64w ((j : Int) + 1) (by omega) (by omega)]
            exact ⟨w - (j + 1), by omega, j + 1, rfl, by omega, by simp, _, hcB, T7⟩
        · have e : j = (lc w (rowA A i) B).length := by rw [hrw, zv_len]; omega
          rw [e, mixL_all hrw] at T5
          have ej : j = w := by omega
          simp [q0, q1, q2, q8, q9, q10, q37, q38, q53, q54, ej]
          exact ⟨L5, hL5, T5⟩
      clear q0 q1 q2 q8 q9 q37 q38
      rintro ⟨t, h5⟩ ⟨q0, q1, q2, q8, q9, q37, q38, L5, hL5, T5⟩
      simp only at q0 q1 q2 q8 q9 q37 q38 T5
      rw [← hX, mixL_set hRl (by unfold mtT; rw [List.getElem?_map, (rowA_mem hlt).1]; rfl)] at T5
      simp [q0, q1, q2, q8, q9, q37, q38, i64w ((i : Int) + 1) (by omega) (by omega)]
      exact ⟨A.length - (i + 1), by omega, i + 1, rfl, by omega, by simp, L5, hL5, T5⟩
    · have e : i = (mtT w A B).length := by simp [mtT]; omega
      rw [e, mixL_all hRl] at T
      simp [q0, q1, q2, q8, q9, q37, q38, isLe (show (A.length : Int) ≤ (i : Int) by omega)]
      exact T.nw
  · rintro ⟨t, h3⟩ ⟨q8, N⟩
    simp only at q8 N
    simp [q8]
    exact ⟨N.kb, N⟩
end Go.Proofs.Ytcgafaecdjbmiaa
