/- The law RsLinear returns true for every input, and its input reads behind the call as it did; no conditions. The kit's model is followed by an abstract machine that is shown to tell what the model does; the contracts of the functions are proved over that machine. -/
import Derived.Test.YtmmibaaidfcbhaaRows
import Derived.Test.YtmmibaaidfcbhaaRsLinearA
import Derived.Test.YtmmibaaidfcbhaaRsLinearB
import Derived.WalkKit
import Derived.ProofKit
import Derived.OpenShut
import Derived.JoinedCond
namespace Go.Proofs.Ytmmibaaidfcbhaa.cRsLinear
open Go Go.ChangeShapes Go.WideShapes Go.ChangeAt Go.RowKit Go.YtmmibaaidfcbhaaAbs
set_option linter.unusedSimpArgs false
set_option linter.unusedVariables false

set_option maxRecDepth 4000
set_option maxHeartbeats 8000000 in
theorem law_run (k : Nat) (hk : 3000 < k) (h : Heap) (a0 : Int) (w0 : (Lit.int .i64 a0).wf = true) (a1 : Int) (w1 : (Lit.int .i64 a1).wf = true) (a2 : ByteArray) (w2 : a2.size ≤ maxLen) (a3 : ByteArray) (w3 : a3.size ≤ maxLen) :
    ∃ v h', afuncT Try.prog [6, 12, 19] (orRuns 3 (acall Try.prog (k + 10))) (k + 10) Try.f7 [.int .i64 a0, .int .i64 a1, .str a2, .str a3] h = some (v, h') ∧ v = .bool true := by
  obtain ⟨a, m, W1, s1, W2, h1, b, rv, E1, C, K1⟩ := rs_start k (by omega) h a0 a1
  have ha := C.k1
  have ha8 := C.k8
  have hm := C.km
  obtain ⟨n, hn⟩ : ∃ n : Nat, min (min a2.size a3.size) 100 = n := ⟨_, rfl⟩
  have n2 : n ≤ a2.size := by omega
  have n3 : n ≤ a3.size := by omega
  have n100 : n ≤ 100 := by omega
  obtain ⟨X, hX⟩ : ∃ X, (bl a2).take n = X := ⟨_, rfl⟩
  obtain ⟨Y, hY⟩ : ∃ Y, (bl a3).take n = Y := ⟨_, rfl⟩
  have lX : X.length = n := by rw [← hX, List.length_take, bl_len]; omega
  have lY : Y.length = n := by rw [← hY, List.length_take, bl_len]; omega
  have sl2 : aslice Try.prog 9 (.str a2) none (some (.int .i64 (n : Nat))) none = some (.str ⟨⟨X⟩⟩) := by
    rw [aslice_strTo Try.underlying9 (by omega) (by omega), Int.toNat_natCast, ba_take, hX]
  have sl3 : aslice Try.prog 9 (.str a3) none (some (.int .i64 (n : Nat))) none = some (.str ⟨⟨Y⟩⟩) := by
    rw [aslice_strTo Try.underlying9 (by omega) (by omega), Int.toNat_natCast, ba_take, hY]
  have mn : min (a2.size : Int) (min (a3.size : Int) 100) = (n : Nat) := by omega
  obtain ⟨h2, e2⟩ : ∃ h2, ((h1.bump 10).at_ (h1.next + 3) (.cells (X.map fun b => .int .u8 (b.toNat : Nat)) false)).at_ (h1.next + 7) (.cells (Y.map fun b => .int .u8 (b.toNat : Nat)) false) = h2 := ⟨_, rfl⟩
  have n2' : h2.next = h1.next + 10 := by rw [← e2]; rfl
  have g3 : h2.get (h1.next + 3) = some (.cells (X.map bb) false) := by rw [← e2, get_at_add, if_neg (by omega), get_at_add, if_pos rfl]; rfl
  have g7 : h2.get (h1.next + 7) = some (.cells (Y.map bb) false) := by rw [← e2, get_at_add, if_pos rfl]; rfl
  have K2 : Keep h1.next nob h1 h2 := ⟨by omega, fun c hc _ => by rw [← e2, get_at_lt hc, get_at_lt hc]; rfl⟩
  obtain ⟨xv, hxv⟩ : ∃ xv, AV.sl (h1.next + 3) 0 n n 1 false = xv := ⟨_, rfl⟩
  obtain ⟨yv, hyv⟩ : ∃ yv, AV.sl (h1.next + 7) 0 n n 1 false = yv := ⟨_, rfl⟩
  have Sx : Sl 1 n h2 xv (X.map bb) := .inr (.inr ⟨_, 0, n, false, _, _, hxv.symm, by omega, g3, by simp [lX], by simp [lX], by rw [List.drop_zero, List.take_of_length_le (by simp [lX])], Nat.le_refl _⟩)
  have Sy : Sl 1 n h2 yv (Y.map bb) := .inr (.inr ⟨_, 0, n, false, _, _, hyv.symm, by omega, g7, by simp [lY], by simp [lY], by rw [List.drop_zero, List.take_of_length_le (by simp [lY])], Nat.le_refl _⟩)
  have Mz := new_row h2 (zv n) n (zv_len n)
  rw [zv_bb] at Mz
  have Kz : Keep h2.next nob h2 (h2.new (.cells (List.replicate n (.int .u8 0)) false)) := Keep.new (Nat.le_refl _) _
  obtain ⟨zv', hzv⟩ : ∃ zv', AV.sl h2.next 0 n n 1 true = zv' := ⟨_, rfl⟩
  have hzv' : AV.sl (h1.next + 10) 0 n n 1 true = zv' := by rw [← n2']; exact hzv
  have Fz : ∀ d, Has zv' d → h2.next ≤ d := fun d hd => by rw [← hzv] at hd; cases hd; exact Nat.le_refl _
  obtain ⟨B, hB⟩ : ∃ B, addL X Y = B := ⟨_, rfl⟩
  have lB : B.length = n := by rw [← hB, addL_len (by omega), lX]
  have hmB : B.length = (zv n).length := by simp [lB]
  refine afuncT_ex rfl (by simp [Try.f7]) ?_
  simp [Try.f7, W1, s1, W2, E1, min3c (m := a2.size) (n := a3.size), hn]
  refine W_late [0, 0, 3, 7, 0, 0, 48, 112, 15, 511] [3, 7] (by rfl) (by kernel_rfl) (by kernel_rfl) (by kernel_rfl) (by kernel_rfl) ?_
  simp [resv, memN, isStore, isEff, isAlloc, mayEff, alate_conv (s := ⟨⟨X⟩⟩) Try.underlying9 Try.underlying47 Try.underlying5, alate_conv (s := ⟨⟨Y⟩⟩) Try.underlying9 Try.underlying47 Try.underlying5, insFl, sl2, sl3, ba_size, lX, lY, e2, hxv, hyv, aalloc_make (P := Try.prog) el47 (z := [.int .u8 0]) az5 rfl rfl n n (Nat.le_refl _) (by omega), flat1, n2', hzv']
  rw [hzv] at Mz
  refine W_cutLoop 0 (fun st => st.t.get 9 = some (.int .i64 (a : Nat)) ∧ st.t.get 10 = some (.ptr b 0) ∧ st.t.get 12 = some (.int .i64 (n : Nat)) ∧ st.t.get 13 = some xv ∧ st.t.get 14 = some yv ∧ st.t.get 15 = some zv' ∧ Mine 1 n st.h zv' (B.map bb) ∧ Keep h2.next nob h2 st.h) ?_ ?_
  · refine W_loop (fun mm st => ∃ i : Nat, mm = n - i ∧ i ≤ n ∧ st.t.get 9 = some (.int .i64 (a : Nat)) ∧ st.t.get 10 = some (.ptr b 0) ∧ st.t.get 12 = some (.int .i64 (n : Nat)) ∧ st.t.get 13 = some xv ∧ st.t.get 14 = some yv ∧ st.t.get 15 = some zv' ∧ st.t.get 16 = some (.int .i64 (i : Nat)) ∧ Mine 1 n st.h zv' ((mixL B (zv n) i).map bb) ∧ Keep h2.next nob h2 st.h) n (by omega)
      ⟨0, by omega, by omega, by simp, by simp, by simp, by simp, by simp, by simp, by simp, by rw [mixL_0, zv_bb]; exact Mz, Kz⟩ ?_
    rintro mm ⟨t, h3⟩ ⟨i, rfl, hi, q9, q10, q12, q13, q14, q15, q16, M3, K3⟩
    simp only at q9 q10 q12 q13 q14 q15 q16 M3 K3
    by_cases hlt : i < n
    · obtain ⟨x, hx⟩ : ∃ x, X[i]? = some x := ⟨X[i]'(by omega), by simp⟩
      obtain ⟨y, hy⟩ : ∃ y, Y[i]? = some y := ⟨Y[i]'(by omega), by simp⟩
      have Sx3 := Sx.ext K3
      have Sy3 := Sy.ext K3
      have ixx := Sx3.idx1 (P := Try.prog) Try.underlying47 ts5 (j := i) hlt .i64
      have ixy := Sy3.idx1 (P := Try.prog) Try.underlying47 ts5 (j := i) hlt .i64
      have ldx : aload Try.prog h3 5 xv.blk (xv.off + i) = some (.int .u8 (x.toNat : Nat)) := Sx3.ld (P := Try.prog) ta5 (bb_get hx)
      have ldy : aload Try.prog h3 5 yv.blk (yv.off + i) = some (.int .u8 (y.toNat : Nat)) := Sy3.ld (P := Try.prog) ta5 (bb_get hy)
      have ixz := M3.sl.idx1 (P := Try.prog) Try.underlying47 ts5 (j := i) hlt .i64
      obtain ⟨h4, a4, M4, K4, _⟩ := M3.lay1 (j := i) (x := .int .u8 ((x ^^^ y).toNat : Nat)) hlt rfl
      have e4 : ((mixL B (zv n) i).map bb).set i (.int .u8 ((x ^^^ y).toNat : Nat)) = (mixL B (zv n) (i + 1)).map bb := by
        rw [← mixL_set hmB (show B[i]? = some (x ^^^ y) by rw [← hB]; exact addL_at hx hy), List.map_set]; rfl
      rw [e4] at M4
      rw [UInt8.toNat_xor] at a4
      simp [q9, q10, q12, q13, q14, q15, q16, isLt (show (i : Int) < (n : Int) by omega), ixx, ldx, ixy, ldy, ixz, a4, xor_u8, i64w ((i : Int) + 1) (by omega) (by omega)]
      exact ⟨n - (i + 1), by omega, i + 1, rfl, by omega, by simp, M4, K3.trans ⟨K4.1, fun d hd _ => K4.2 d (Nat.lt_of_lt_of_le hd K3.1) fun q => by have := Fz d q; omega⟩⟩
    · have e : i = B.length := by omega
      rw [e, mixL_all hmB] at M3
      simp [q9, q10, q12, q13, q14, q15, q16, isLe (show (n : Int) ≤ (i : Int) by omega)]
      exact ⟨M3, K3⟩
  rintro ⟨t, h3⟩ ⟨q9, q10, q12, q13, q14, q15, M3, K3⟩
  simp only at q9 q10 q12 q13 q14 q15 M3 K3
  have Sx3 := Sx.ext K3
  have Sy3 := Sy.ext K3
  have C3 := (C.ext K2).ext K3
  obtain ⟨vp, h4, E4, M4, F4, K4⟩ := enc_ok (k + 7) h3 b a m rv C3 ⟨⟨X⟩⟩ (by rw [ba_size]; omega) (by rw [ba_size]; omega)
  obtain ⟨vq, h5, E5, M5, F5, K5⟩ := enc_ok (k + 7) h4 b a m rv (C3.ext K4) ⟨⟨Y⟩⟩ (by rw [ba_size]; omega) (by rw [ba_size]; omega)
  obtain ⟨vr, h6, E6, M6, F6, K6⟩ := enc_ok (k + 7) h5 b a m rv ((C3.ext K4).ext K5) ⟨⟨B⟩⟩ (by rw [ba_size]; omega) (by rw [ba_size]; omega)
  rw [bl_mk] at M4 M5 M6
  have cx : aconv Try.prog h3 47 9 xv = some (.str ⟨⟨X⟩⟩, h3) := aconv_bs Sx3 Try.underlying47 Try.underlying9 Try.underlying5
  have cy : aconv Try.prog h4 47 9 yv = some (.str ⟨⟨Y⟩⟩, h4) := aconv_bs (Sy3.ext K4) Try.underlying47 Try.underlying9 Try.underlying5
  have cz : aconv Try.prog h5 47 9 zv' = some (.str ⟨⟨B⟩⟩, h5) := aconv_bs ((M3.sl.ext K4).ext K5) Try.underlying47 Try.underlying9 Try.underlying5
  have ox := sl_old Sx3
  have oy := sl_old Sy3
  have oz := sl_old M3.sl
  have g1 := agree_keep (Nat.le_refl _) K4
  have g2 := agree_keep K4.1 K5
  simp [q9, q10, q12, q13, q14, q15]
  refine W_split 11 h3.next (by rfl) (by kernel_rfl) (by rfl) ?_
  dsimp only [List.take, List.drop]
  obtain ⟨P, hP⟩ : ∃ P, encP a m X = P := ⟨_, rfl⟩
  obtain ⟨Q, hQ⟩ : ∃ Q, encP a m Y = Q := ⟨_, rfl⟩
  obtain ⟨R, hR⟩ : ∃ R, encP a m B = R := ⟨_, rfl⟩
  rw [hP] at M4
  rw [hQ] at M5
  rw [hR] at M6
  obtain ⟨N, hN⟩ : ∃ N, a + m = N := ⟨_, rfl⟩
  obtain ⟨sz, hsz⟩ : ∃ sz, szN a n = sz := ⟨_, rfl⟩
  have lP : P.length = N := by rw [← hP, encP_len, hN]
  have lQ : Q.length = N := by rw [← hQ, encP_len, hN]
  have lR : R.length = N := by rw [← hR, encP_len, hN]
  have rP : RowsN sz P := by rw [← hP, ← hsz, ← lX]; exact encP_rows ha X
  have rQ : RowsN sz Q := by rw [← hQ, ← hsz, ← lY]; exact encP_rows ha Y
  have rR : RowsN sz R := by rw [← hR, ← hsz, ← lB]; exact encP_rows ha B
  rw [hN] at M4 M5 M6
  have S4 := (M4.sl.ext K5).ext K6
  have S5 := M5.sl.ext K6
  have S6 := M6.sl
  have l4 := S4.len'
  have l5 := S5.len'
  have l6 := S6.len'
  have C6 := ((C3.ext K4).ext K5).ext K6
  have nE := n_ok (k + 9) C6
  have zE := size_ok (k + 9) C6 n (by omega)
  rw [hN] at nE
  rw [hsz] at zE
  obtain ⟨f1, f2⟩ := szN_fits (k := a) (n := n) ha
  have f3 := szN_le (k := a) (n := n) ha
  rw [hsz] at f1 f2 f3
  simp [obl, mayEff, mayRead, sameAV, q9, q10, q12, q13, q14, q15, cx, cy, cz, E4, E5, E6, ox, oy, oz, g1, g2, l4, l5, l6, nE]
  obtain ⟨T, hT⟩ : ∃ T, a * sz = T := ⟨_, rfl⟩
  rw [hT] at f1 f2
  obtain ⟨V, hV⟩ : ∃ V, padL X T = V := ⟨_, rfl⟩
  have lV : V.length = T := by rw [← hV]; exact padL_len (by omega)
  have hV0 : V.take n = X := by rw [← hV]; unfold padL; rw [List.take_append_of_le_length (by omega), List.take_of_length_le (by omega)]
  have hPi : ∀ i, i < a → V.take (i * sz) ++ rowA P i = V.take ((i + 1) * sz) := fun i hi => by
    rw [← hP, enc_id ha hi, lX, hsz, hT, hV, Nat.succ_mul, List.take_add]
  have hRi : ∀ i, i < N → rowA R i = addL (rowA P i) (rowA Q i) := fun i hi => by
    rw [← hR, ← hB, enc_add ha (by omega) (by omega), hP, hQ]
  have hTi : ∀ i, i ≤ a → i * sz ≤ T := fun i hi => by rw [← hT]; exact Nat.mul_le_mul_right _ hi
  refine W_cutLoop 2 (fun st => st.t.get 12 = some (.int .i64 (n : Nat)) ∧ st.t.get 13 = some xv ∧ st.t.get 20 = some (.str ⟨⟨V⟩⟩) ∧ st.h = h6) ?_ ?_
  · refine W_loop (fun mm st => ∃ (i : Nat), mm = N - i ∧ i ≤ N ∧ st.t.get 9 = some (.int .i64 (a : Nat)) ∧ st.t.get 10 = some (.ptr b 0) ∧ st.t.get 12 = some (.int .i64 (n : Nat)) ∧ st.t.get 13 = some xv ∧ st.t.get 17 = some vp ∧ st.t.get 18 = some vq ∧ st.t.get 19 = some vr ∧ st.t.get 20 = some (.str ⟨⟨V.take (min i a * sz)⟩⟩) ∧ st.t.get 21 = some (.int .i64 (i : Nat)) ∧ st.h = h6) N (by omega)
      ⟨0, by omega, by omega, by simp [q9], by simp [q10], by simp [q12], by simp [q13], by simp, by simp, by simp, by simp, by simp, by simp⟩ ?_
    clear q9 q10 q12 q13 q14 q15
    rintro mm ⟨t, h7⟩ ⟨i, rfl, hi, q9, q10, q12, q13, q17, q18, q19, q20, q21, e⟩
    simp only at q9 q10 q12 q13 q17 q18 q19 q20 q21 e
    replace e := e.symm
    subst e
    by_cases hlt : i < N
    · obtain ⟨ix4, ld4, lt4⟩ := txs_at S4 (i := i) (by omega)
      obtain ⟨ix5, ld5, lt5⟩ := txs_at S5 (i := i) (by omega)
      obtain ⟨ix6, ld6, lt6⟩ := txs_at S6 (i := i) (by omega)
      have hp := rP.row (k := i) (by omega)
      have hq := rQ.row (k := i) (by omega)
      have hr := rR.row (k := i) (by omega)
      have hri := hRi i hlt
      have hpi := hPi i
      generalize rowA P i = p at *
      generalize rowA Q i = q at *
      generalize rowA R i = r at *
      simp only [tx] at ld4 ld5 ld6
      have ag : Agree h6.next h6 h6 := fun _ _ => rfl
      simp [q9, q10, q12, q13, q17, q18, q19, q20, q21, l4, isLt (show (i : Int) < (N : Int) by omega)]
      refine W_split 8 h6.next (by rfl) (by kernel_rfl) (by rfl) ?_
      dsimp only [List.take, List.drop]
      simp [obl, mayEff, mayRead, sameAV, q9, q10, q12, q13, q17, q18, q19, q20, q21, ix4, ld4, lt4, ix5, ld5, lt5, ix6, ld6, lt6, zE, ag, ba_size, hp, hq, hr]
      refine W_cutLoop 4 (fun st => st.t.get 9 = some (.int .i64 (a : Nat)) ∧ st.t.get 10 = some (.ptr b 0) ∧ st.t.get 12 = some (.int .i64 (n : Nat)) ∧ st.t.get 13 = some xv ∧ st.t.get 17 = some vp ∧ st.t.get 18 = some vq ∧ st.t.get 19 = some vr ∧ st.t.get 20 = some (.str ⟨⟨V.take (min i a * sz)⟩⟩) ∧ st.t.get 21 = some (.int .i64 (i : Nat)) ∧ st.h = h6) ?_ ?_
      · refine W_loop (fun mm st => ∃ (j : Nat), mm = sz - j ∧ j ≤ sz ∧ st.t.get 9 = some (.int .i64 (a : Nat)) ∧ st.t.get 10 = some (.ptr b 0) ∧ st.t.get 12 = some (.int .i64 (n : Nat)) ∧ st.t.get 13 = some xv ∧ st.t.get 17 = some vp ∧ st.t.get 18 = some vq ∧ st.t.get 19 = some vr ∧ st.t.get 20 = some (.str ⟨⟨V.take (min i a * sz)⟩⟩) ∧ st.t.get 21 = some (.int .i64 (i : Nat)) ∧ st.t.get 22 = some (.int .i64 (j : Nat)) ∧ st.h = h6) sz (by omega)
          ⟨0, by omega, by omega, by simp [q9], by simp [q10], by simp [q12], by simp [q13], by simp [q17], by simp [q18], by simp [q19], by simp [q20], by simp [q21], by simp, by simp⟩ ?_
        clear q9 q10 q12 q13 q17 q18 q19 q20 q21
        rintro mm ⟨t, h7⟩ ⟨j, rfl, hj, q9, q10, q12, q13, q17, q18, q19, q20, q21, q22, e⟩
        simp only at q9 q10 q12 q13 q17 q18 q19 q20 q21 q22 e
        replace e := e.symm
        subst e
        by_cases hjs : j < sz
        · obtain ⟨x, hx⟩ : ∃ x, p[j]? = some x := ⟨p[j]'(by omega), by simp⟩
          obtain ⟨y, hy⟩ : ∃ y, q[j]? = some y := ⟨q[j]'(by omega), by simp⟩
          have hz : r[j]? = some (x ^^^ y) := by rw [hri]; exact addL_at hx hy
          simp [q9, q10, q12, q13, q17, q18, q19, q20, q21, q22, ix4, ld4, ba_size, hp, isLt (show (j : Int) < (sz : Int) by omega), hx, ix5, ld5, hy, ix6, ld6, hz, xor_u8, i64w ((j : Int) + 1) (by omega) (by omega)]
          exact ⟨sz - (j + 1), by omega, j + 1, rfl, by omega, by simp⟩
        · simp [q9, q10, q12, q13, q17, q18, q19, q20, q21, q22, ix4, ld4, ba_size, hp, isLe (show (sz : Int) ≤ (j : Int) by omega)]
      clear q9 q10 q12 q13 q17 q18 q19 q20 q21
      rintro ⟨t, h7⟩ ⟨q9, q10, q12, q13, q17, q18, q19, q20, q21, e⟩
      simp only at q9 q10 q12 q13 q17 q18 q19 q20 q21 e
      replace e := e.symm
      subst e
      by_cases hia : i < a
      · have hTi1 := hTi (i + 1) (by omega)
        have hTi0 := hTi i (by omega)
        have e1 := hpi hia
        rw [show min i a = i by omega] at q20
        have lq : (V.take (i * sz)).length = i * sz := by rw [List.length_take]; omega
        simp [q9, q10, q12, q13, q17, q18, q19, q20, q21, isLt (show (i : Int) < (a : Int) by omega), ix4, ld4, ba_size, lq, hp, show i * sz + sz ≤ 9223372036854775807 by omega, ba_cat, e1, i64w ((i : Int) + 1) (by omega) (by omega)]
        exact ⟨N - (i + 1), by omega, i + 1, rfl, by omega, by simp [show min (i + 1) a = i + 1 by omega]⟩
      · simp [q9, q10, q12, q13, q17, q18, q19, q20, q21, isLe (show (a : Int) ≤ (i : Int) by omega), i64w ((i : Int) + 1) (by omega) (by omega)]
        exact ⟨N - (i + 1), by omega, i + 1, rfl, by omega, by simp [show min (i + 1) a = a by omega, show min i a = a by omega]⟩
    · rw [show min i a = a by omega, hT, List.take_of_length_le (by omega)] at q20
      simp [q9, q10, q12, q13, q17, q18, q19, q20, q21, l4, isLe (show (N : Int) ≤ (i : Int) by omega)]
  clear q9 q10 q12 q13 q14 q15
  rintro ⟨t, h7⟩ ⟨q12, q13, q20, e⟩
  simp only at q12 q13 q20 e
  subst e
  have cx7 : aconv Try.prog h7 47 9 xv = some (.str ⟨⟨X⟩⟩, h7) := aconv_bs (((Sx3.ext K4).ext K5).ext K6) Try.underlying47 Try.underlying9 Try.underlying5
  have slx : aslice Try.prog 9 (.str ⟨⟨V⟩⟩) none (some (.int .i64 (n : Nat))) none = some (.str ⟨⟨X⟩⟩) := by
    rw [aslice_strTo Try.underlying9 (by omega) (by rw [ba_size]; omega), Int.toNat_natCast, ba_take, bl_mk, hV0]
  simp [q12, q13, q20, ba_size, lV, isLe (show (n : Int) ≤ (T : Int) by omega), slx, cx7]


theorem own : ownKnob Try.prog.godebug = none := by kernel_rfl
theorem laid : laidOutB Try.prog = true := by kernel_rfl

set_option maxRecDepth 100000 in
theorem lifted (os : Os) (started : os.Started) (H : Type) (enc : TypeId × Value → H) :
    ReturnsInHanded {} Try.checked os 7 .any (Rows.rsLinearSpec.pre6 enc Try.prog Try.f7 Rows.rsLinearRow.domain false) (Rows.rsLinearSpec.post enc Try.prog Try.f7 false true false false) := by
  refine returnsInHanded_of_change (C := Try.checked) own started (by kernel_rfl) Try.func7
    (ChangeSpec.witness6 (enc := enc) (C := Try.checked) false ⟨#[], #[.int .i64 0, .int .i64 0, .string ByteArray.empty, .string ByteArray.empty], []⟩ 8 (by kernel_rfl) (by kernel_rfl) (by kernel_rfl) (by kernel_rfl)) ?_
  intro W base args ds gs before hval0 hW hcnd _
  have hval : ∀ (j : Nat) t v, Try.f7.params.toList[j]? = some t → args.toList[j]? = some v → Value.okWide Try.prog W .any base t v := fun j t v h1 h2 => hval0 j t v (by simpa using h1) (by simpa using h2)
  have hW' := hW
  obtain ⟨p, q, hA0, hV, rfl, hfz, hnd⟩ := hW
  have hA : DataW.TrodAll enc Try.prog W 0 (fun _ => true) true Try.f7.params.toList args.toList ds p := hA0
  obtain ⟨rfl, rfl⟩ := trodVars_none hV
  have hlt : ∀ x ∈ p, x.block < W.heap.size := fun x hx => hW'.lt x (by simp [hx])
  have hps : Try.f7.params.toList = [3, 3, 9, 9] := by rw [Try.params7]
  rw [hps] at hA hval
  obtain ⟨m, h, avs, x, g1, _, _, g2, g3, g4⟩ := (good_as1 (good_int Try.underlying3 (by kernel_rfl)) rfl (by kernel_rfl) (good_as1 (good_int Try.underlying3 (by kernel_rfl)) rfl (by kernel_rfl) (good_as1 (good_str Try.underlying9 (by kernel_rfl)) rfl (by kernel_rfl) (good_as1 (good_str Try.underlying9 (by kernel_rfl)) rfl (by kernel_rfl) good_as0)))) H enc W base args.toList ds p hval hA _ _ (HRo.start W)
  obtain ⟨a0, a1, a2, a3, _⟩ := x
  obtain ⟨_, _, rfl, ⟨e0, w0⟩, ⟨_, _, rfl, ⟨e1, w1⟩, ⟨_, _, rfl, ⟨e2, w2⟩, ⟨_, _, rfl, ⟨e3, w3⟩, rfl⟩⟩⟩⟩ := g3
  obtain rfl := (List.cons.inj e0).1
  obtain rfl := (List.cons.inj e1).1
  obtain rfl := (List.cons.inj e2).1
  obtain rfl := (List.cons.inj e3).1
  have hcall := law_any mixed (k := 3000000 + 10) Try.func7 (by kernel_rfl) runs_ok g1 g2 (law_run 3000000 (by decide) h a0 w0 a1 w1 a2 w2 a3 w3)
  refine hcall.mono fun e W' ⟨he, hg⟩ => ?_
  subst he
  simp only [List.append_nil] at hW' hA0 ⊢
  have hlen : ds.length = 4 := trodAll_len hA
  have hvars : (Rows.rsLinearSpec.fn H (ds ++ [])).vars = [] ∧ (Rows.rsLinearSpec.fn H (ds ++ [])).args = ds ∧ (Rows.rsLinearSpec.fn H (ds ++ [])).results = [.lit (.bool true)] := by
    rw [List.append_nil]
    match ds, hlen with
    | [d0, d1, d2, d3], _ => exact ⟨rfl, rfl, rfl⟩
  obtain ⟨hv1, hv2, hv3⟩ := hvars
  refine ⟨_, rfl, law_post hW' rfl hg (fun _ _ _ => ?_) (fun sp hsp => ?_) hv1
    (ok_one (by kernel_rfl) rfl (okWide_bool_mk Try.underlying4 _))⟩
  · rw [hv3]
    exact (trodAll_cons_mk (shut_bool Try.underlying4 _) trodAll_mk0)
  · have hA1 := trodAll_below laid hg sp (ts := [3, 3, 9, 9]) (by decide +kernel) hlt hsp hA
    rw [hv2, hps]
    exact hA1

theorem over : Rows.rsLinearRow.holds Try.pinned (OpenSpec.ofChange Rows.rsLinearSpec) :=
  OpenClaim.holds_of_wide 7 Try.f7 rfl rfl rfl rfl rfl rfl rfl ⟨rfl, rfl, rfl, rfl, rfl⟩ rfl rfl rfl rfl rfl (by kernel_rfl) Try.func7 (by kernel_rfl)
    (of_decide_eq_true (by kernel_rfl)) (by unfold Func.isWrapper; first | (rw [if_pos (by decide +kernel)]; kernel_rfl) | (rw [if_neg (by decide +kernel)]; exact ⟨rfl, rfl⟩))
    (fun os started H enc _ => lifted os started H enc)

/-- The statement. -/
theorem proved : Rows.RsLinearSaid :=
  over
#print axioms proved
end Go.Proofs.Ytmmibaaidfcbhaa.cRsLinear
