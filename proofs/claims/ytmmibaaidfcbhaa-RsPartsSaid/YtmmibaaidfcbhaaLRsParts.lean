/- The law RsParts returns true for every input, and its input reads behind the call as it did; no conditions. The kit's model is followed by an abstract machine that is shown to tell what the model does; the contracts of the functions are proved over that machine. -/
import Derived.Test.YtmmibaaidfcbhaaRows
import Derived.Test.YtmmibaaidfcbhaaRsPartsA
import Derived.Test.YtmmibaaidfcbhaaRsPartsB
import Derived.WalkKit
import Derived.ProofKit
import Derived.OpenShut
import Derived.JoinedCond
namespace Go.Proofs.Ytmmibaaidfcbhaa.cRsParts
open Go Go.ChangeShapes Go.WideShapes Go.ChangeAt Go.RowKit Go.YtmmibaaidfcbhaaAbs
set_option linter.unusedSimpArgs false
set_option linter.unusedVariables false

set_option maxRecDepth 4000
set_option maxHeartbeats 8000000 in
theorem law_run (k : Nat) (hk : 10000 < k) (h : Heap) (a0 : Int) (w0 : (Lit.int .i64 a0).wf = true) (a1 : Int) (w1 : (Lit.int .i64 a1).wf = true) (a2 : Int) (w2 : (Lit.int .i64 a2).wf = true) (a3 : Int) (w3 : (Lit.int .i64 a3).wf = true) (a4 : ByteArray) (w4 : a4.size ≤ maxLen) (v5 : AV) (a5 : (List (Int × (ByteArray × Unit)))) (w5 : SlA (kPair (kInt .i64) (kPair kStr kNil)) h v5 a5) (a6 : Bool) :
    ∃ v h', afuncT Try.prog [] (orRuns 3 (acall Try.prog (k + 10))) (k + 10) Try.f4 [.int .i64 a0, .int .i64 a1, .int .i64 a2, .int .i64 a3, .str a4, v5, .bool a6] h = some (v, h') ∧ v = .bool true := by
  have S5 := sla_pts w5
  obtain ⟨n, m, W1, s1, W2, h1, b, rv, E1, C, K1⟩ := rs_start k (by omega) h a0 a1
  have hn := C.k1
  have hn8 := C.k8
  have hm := C.km
  obtain ⟨l, hl⟩ : ∃ l, a5.map toPt = l := ⟨_, rfl⟩
  rw [hl] at S5
  have S51 := S5.ext K1
  have l5 := S51.len'
  have wa2 := (wf64 w2).1
  refine afuncT_ex rfl (by simp [Try.f4]) ?_
  simp [Try.f4, W1, s1, W2, E1, -W_cond]
  rw [W_cond]
  simp [-W_cond, l5]
  refine W_cutN (fun st => ∃ v5' L, st.t.get 2 = some (.int .i64 a2) ∧ st.t.get 3 = some (.int .i64 a3) ∧ st.t.get 4 = some (.str a4) ∧ st.t.get 5 = some v5' ∧ st.t.get 6 = some (.bool a6) ∧ st.t.get 15 = some (.int .i64 (n : Nat)) ∧ st.t.get 16 = some (.int .i64 (m : Nat)) ∧ st.t.get 17 = some (.ptr b 0) ∧ st.h = h1 ∧ Sl 2 L.length h1 v5' (cat ptC L) ∧ L.length ≤ 14) ?_ ?_
  · by_cases h14 : 14 < l.length
    · obtain ⟨v', c1, c2⟩ := S51.to (P := Try.prog) (ty := 34) Try.underlying34 ts31 (k := .i64) (j := 14) (by omega)
      rw [cat_take ptC_len] at c2
      have lt : (l.take 14).length = 14 := by rw [List.length_take]; omega
      simp at c1
      simp [isLt (show (14 : Int) < (l.length : Int) by omega), c1]
      exact ⟨l.take 14, by rw [lt]; exact c2, by omega⟩
    · simp [isLe (show (l.length : Int) ≤ 14 by omega)]
      exact ⟨l, S51, by omega⟩
  rintro ⟨t, h2⟩ ⟨v5', L, q2, q3, q4, q5, q6, q15, q16, q17, e, SL, hL⟩
  simp only at q2 q3 q4 q5 q6 q15 q16 q17 e
  subst e
  obtain ⟨mv, h3, A3, M3, F3, K3⟩ := copy_pts SL (by omega)
  simp [q2, q3, q4, q5, q6, q15, q16, q17, aalloc, afill, A3, -W_cond]
  have nL : ∃ ln, L.length = ln := ⟨_, rfl⟩
  obtain ⟨ln, hln⟩ := nL
  have hL14 : ln ≤ 14 := by omega
  refine W_cutN (fun st => ∃ (sz : Int) (L : List Pt), st.t.get 2 = some (.int .i64 sz) ∧ -9223372036854775808 ≤ sz ∧ st.t.get 3 = some (.int .i64 a3) ∧ st.t.get 15 = some (.int .i64 (n : Nat)) ∧ st.t.get 16 = some (.int .i64 (m : Nat)) ∧ st.t.get 17 = some (.ptr b 0) ∧ st.t.get 19 = some mv ∧ L.length = ln ∧ Mine 2 L.length st.h mv (cat ptC L) ∧ Keep h2.next nob h2 st.h) ?_ ?_
  · cases a6 with
    | false =>
      simp [q2, q3, q4, q5, q6, q15, q16, q17]
      exact ⟨wa2, L, hln, M3, K3⟩
    | true =>
      have E4 : acall Try.prog (k + 10) 15 [.str a4, .int .i64 100] h3 = _ := short3_ok (k + 9) a4 100 h3
      have hs := shortN_le 100 a4
      generalize shortN 100 a4 = s at *
      obtain ⟨fv, h4, E5, M5, F5, K5⟩ := renc_ok (k + 6) h3 n m (by omega) (by omega) (by omega) s (by omega) (by omega)
      obtain ⟨E, hE⟩ : ∃ E, encP n m (bl s) = E := ⟨_, rfl⟩
      obtain ⟨N, hN⟩ : ∃ N, n + m = N := ⟨_, rfl⟩
      have lE : E.length = N := by rw [← hE, encP_len, hN]
      rw [hE, hN] at M5
      have nfv : ¬ Has mv fv.blk := fun z => by
        have := F5 _ (M5.blk (by omega))
        have := M3.lt z
        omega
      have Fm : ∀ d, Has mv d → h2.next ≤ d := F3
      have sN : fwrap .i64 ((n : Int) + (m : Int)) = (N : Nat) := by rw [i64w _ (by omega) (by omega)]; omega
      have sN1 : fwrap .i64 ((N : Int) - 1) = (N : Int) - 1 := i64w _ (by omega) (by omega)
      simp [q2, q3, q4, q5, q6, q15, q16, q17, E4, E5]
      refine W_cutLoop 0 (fun st => ∃ (L : List Pt), st.t.get 2 = some (.int .i64 (s.size : Nat)) ∧ st.t.get 3 = some (.int .i64 a3) ∧ st.t.get 15 = some (.int .i64 (n : Nat)) ∧ st.t.get 16 = some (.int .i64 (m : Nat)) ∧ st.t.get 17 = some (.ptr b 0) ∧ st.t.get 19 = some mv ∧ L.length = ln ∧ Mine 2 L.length st.h mv (cat ptC L) ∧ Keep h2.next nob h2 st.h) ?_ ?_
      · refine W_loop (fun mm st => ∃ (i : Nat) (L : List Pt), mm = ln - i ∧ i ≤ ln ∧ st.t.get 2 = some (.int .i64 (s.size : Nat)) ∧ st.t.get 3 = some (.int .i64 a3) ∧ st.t.get 15 = some (.int .i64 (n : Nat)) ∧ st.t.get 16 = some (.int .i64 (m : Nat)) ∧ st.t.get 17 = some (.ptr b 0) ∧ st.t.get 19 = some mv ∧ st.t.get 21 = some fv ∧ st.t.get 22 = some (.int .i64 (i : Nat)) ∧ L.length = ln ∧ Mine 2 L.length st.h mv (cat ptC L) ∧ Keep h2.next nob h2 st.h ∧ Sl 1 N st.h fv (E.map tx)) ln (by omega)
          ⟨0, L, by omega, by omega, by simp [q2], by simp [q3], by simp [q15], by simp [q16], by simp [q17], by simp, by simp, by simp, hln, M3.ext K5, K3.trans (K5.weak K3.1 fun _ _ q => q), M5.sl⟩ ?_
        clear q2 q3 q4 q5 q6 q15 q16 q17 M3 hln hL
        rintro mm ⟨t, h5⟩ ⟨i, L, rfl, hi, q2, q3, q15, q16, q17, q19, q21, q22, hln, M, K, Sf⟩
        simp only at q2 q3 q15 q16 q17 q19 q21 q22 M K Sf
        have ll := M.sl.len'
        rw [hln] at ll
        by_cases hlt : i < ln
        · obtain ⟨p, hp⟩ : ∃ p, L[i]? = some p := ⟨L[i]'(by omega), by simp⟩
          obtain ⟨ix, _, ldi, _, mlt⟩ := pt_at M.sl hp
          obtain ⟨y, W6, y0, y1⟩ := within_nat (k + 9) p.1 0 ((N : Int) - 1) (by omega) (by omega) (by omega) h5
          have hyN : y < N := by omega
          obtain ⟨h6, a6', M6, K6⟩ := pt_set1 M hp (y : Int)
          have hp6 : (L.set i ((y : Int), p.2))[i]? = some ((y : Int), p.2) := List.getElem?_set_self (by omega)
          obtain ⟨ix6, _, ldi6, _, _⟩ := pt_at M6.sl hp6
          have Sf6 : Sl 1 N h6 fv (E.map tx) := Sf.keep' K6 fun _ => ⟨Sf.blk_lt (by omega), nfv⟩
          obtain ⟨fx, fl, _⟩ := txs_at Sf6 (i := y) (by omega)
          obtain ⟨h7, a7', M7, K7⟩ := pt_set2 M6 hp6 ⟨⟨rowA E y⟩⟩
          have Sf7 : Sl 1 N h7 fv (E.map tx) := Sf6.keep' K7 fun _ => ⟨Sf6.blk_lt (by omega), nfv⟩
          have K27 : Keep h2.next nob h2 h7 := (K.trans ⟨K6.1, fun d hd _ => K6.2 d (Nat.lt_of_lt_of_le hd K.1) fun q => by have := Fm d q; omega⟩).trans ⟨K7.1, fun d hd _ => K7.2 d (Nat.lt_of_lt_of_le hd (Nat.le_trans K.1 K6.1)) fun q => by have := Fm d q; omega⟩
          simp only [tx] at fl
          simp [q2, q3, q15, q16, q17, q19, q21, q22, ll, isLt (show (i : Int) < (ln : Int) by omega), ix, ldi, sN, sN1, W6, a6', ix6, ldi6, fx, fl, a7', i64w ((i : Int) + 1) (by omega) (by omega)]
          exact ⟨ln - (i + 1), by omega, i + 1, rfl, by omega, by simp, _, by simpa using hln, M7, K27, Sf7⟩
        · have e : i = ln := by omega
          simp [q2, q3, q15, q16, q17, q19, q21, q22, ll, isLe (show (ln : Int) ≤ (i : Int) by omega)]
          exact ⟨L, hln, M, K⟩
      clear q2 q3 q4 q5 q6 q15 q16 q17
      rintro ⟨t, h5⟩ ⟨L, q2, q3, q15, q16, q17, q19, hln, M, K⟩
      simp only at q2 q3 q15 q16 q17 q19 M K
      simp [q2, q3, q15, q16, q17, q19]
      exact ⟨L, hln, M, K⟩
  clear q2 q3 q4 q5 q6 q15 q16 q17 M3 hln hL K3
  rintro ⟨t, h3⟩ ⟨sz, L, q2, hsz, q3, q15, q16, q17, q19, hln, M, K3⟩
  simp only at q2 q3 q15 q16 q17 q19 M K3
  simp [q2, q3, q15, q16, q17, q19]
  refine W_cutLoop 2 (fun st => ∃ (L : List Pt), st.t.get 2 = some (.int .i64 sz) ∧ st.t.get 3 = some (.int .i64 a3) ∧ st.t.get 15 = some (.int .i64 (n : Nat)) ∧ st.t.get 16 = some (.int .i64 (m : Nat)) ∧ st.t.get 17 = some (.ptr b 0) ∧ st.t.get 19 = some mv ∧ L.length = ln ∧ (∀ p, p ∈ L → p.2.size ≤ 300) ∧ Mine 2 L.length st.h mv (cat ptC L) ∧ Keep h2.next nob h2 st.h) ?_ ?_
  · refine W_loop (fun mm st => ∃ (i : Nat) (L : List Pt), mm = ln - i ∧ i ≤ ln ∧ st.t.get 2 = some (.int .i64 sz) ∧ st.t.get 3 = some (.int .i64 a3) ∧ st.t.get 15 = some (.int .i64 (n : Nat)) ∧ st.t.get 16 = some (.int .i64 (m : Nat)) ∧ st.t.get 17 = some (.ptr b 0) ∧ st.t.get 19 = some mv ∧ st.t.get 23 = some (.int .i64 (i : Nat)) ∧ L.length = ln ∧ (∀ j p, j < i → L[j]? = some p → p.2.size ≤ 300) ∧ Mine 2 L.length st.h mv (cat ptC L) ∧ Keep h2.next nob h2 st.h) ln (by omega)
      ⟨0, L, by omega, by omega, by simp [q2], by simp [q3], by simp [q15], by simp [q16], by simp [q17], by simp [q19], by simp, hln, (fun j p hj => absurd hj (Nat.not_lt_zero _)), M, K3⟩ ?_
    clear q2 q3 q15 q16 q17 q19 M hln K3
    rintro mm ⟨t, h5⟩ ⟨i, L, rfl, hi, q2, q3, q15, q16, q17, q19, q23, hln, hsm, M, K⟩
    simp only at q2 q3 q15 q16 q17 q19 q23 M K
    have ll := M.sl.len'
    rw [hln] at ll
    by_cases hlt : i < ln
    · obtain ⟨p, hp⟩ : ∃ p, L[i]? = some p := ⟨L[i]'(by omega), by simp⟩
      obtain ⟨ix, _, _, lds, mlt⟩ := pt_at M.sl hp
      have E6 : acall Try.prog (k + 10) 15 [.str p.2, .int .i64 300] h5 = _ := short3_ok (k + 9) p.2 300 h5
      have hs6 := shortN_le 300 p.2
      obtain ⟨h7, a7', M7, K7⟩ := pt_set2 M hp (shortN 300 p.2)
      have K27 : Keep h2.next nob h2 h7 := K.trans ⟨K7.1, fun d hd _ => K7.2 d (Nat.lt_of_lt_of_le hd K.1) fun q => by have := F3 d q; omega⟩
      simp [q2, q3, q15, q16, q17, q19, q23, ll, isLt (show (i : Int) < (ln : Int) by omega), ix, lds, E6, a7', i64w ((i : Int) + 1) (by omega) (by omega)]
      refine ⟨ln - (i + 1), by omega, i + 1, rfl, by omega, by simp, L.set i (p.1, shortN 300 p.2), by simpa using hln, fun j a' b' hj hp' => ?_, M7, K27⟩
      by_cases hji : i = j
      · subst hji
        rw [List.getElem?_set_self (by omega)] at hp'
        cases hp'
        exact hs6
      · rw [List.getElem?_set_ne hji] at hp'
        exact hsm j (a', b') (by omega) hp'
    · have e : i = ln := by omega
      simp [q2, q3, q15, q16, q17, q19, q23, ll, isLe (show (ln : Int) ≤ (i : Int) by omega)]
      exact ⟨L, hln, fun a' b' hp => by
        obtain ⟨j, hj⟩ := List.getElem?_of_mem hp
        exact hsm j (a', b') (by have := (List.getElem?_eq_some_iff.1 hj).1; omega) hj, M, K⟩
  clear q2 q3 q15 q16 q17 q19 M hln K3
  rintro ⟨t, h3⟩ ⟨L, q2, q3, q15, q16, q17, q19, hln, hsm, M, K3⟩
  simp only at q2 q3 q15 q16 q17 q19 M K3
  have hb4 : ∀ p, p ∈ L → p.2.size ≤ 400 := fun p hp => Nat.le_trans (hsm p hp) (by omega)
  obtain ⟨mk, hmk⟩ : ∃ mk : Pt, mk = ((-8 : Int), ByteArray.empty) := ⟨_, rfl⟩
  have emk : ptC mk = [.int .i64 (-8), .str .empty] := by rw [hmk]; rfl
  have rowm : (AV.agg (ptC mk)).row1 = some (ptC mk) := row1_agg (ptC_one mk)
  rw [emk] at rowm
  have K4 : Keep h3.next nob h3 (h3.new (.cells (ptC mk) false)) := Keep.new (Nat.le_refl _) _
  have g4 : (h3.new (.cells (ptC mk) false)).get h3.next = some (.cells (ptC mk) false) := get_new_self _ _
  have lay4 : alay (h3.new (.cells [.int .i64 0, .str .empty] false)) h3.next 0 (ptC mk) = some (h3.new (.cells (ptC mk) false)) := alay_new rfl
  rw [emk] at lay4
  obtain ⟨mb, hmb⟩ : ∃ mb, h3.next = mb := ⟨_, rfl⟩
  have mlt : h3.next < (h3.new (.cells (ptC mk) false)).next := Nat.lt_succ_self _
  obtain ⟨h4, e4⟩ : ∃ h4, h3.new (.cells (ptC mk) false) = h4 := ⟨_, rfl⟩
  rw [← emk, e4] at lay4
  rw [e4] at K4 g4 mlt
  rw [hmb] at lay4 g4 mlt
  rw [emk] at lay4
  have ldm : aload Try.prog h4 31 mb 0 = some (.agg (ptC mk)) := by simp [aload, Heap.row, g4, ptC]
  have M4 := M.ext K4
  obtain ⟨_, h5, E5, B, rfl, g5, n5, K5⟩ := roomyP_ok (k + 9) L mv mk h4 M4.sl (by omega) (by omega)
  have Sfu : Sl 2 (L.length + 80) h5 (.sl B 0 (L.length + 80) (L.length + 80) 2 true) (cat ptC (L ++ List.replicate 80 mk)) :=
    .inr (.inr ⟨B, 0, _, _, _, _, rfl, n5, g5, by rw [cat_len ptC_len]; simp, by rw [cat_len ptC_len]; simp, by rw [List.drop_zero, List.take_of_length_le (by rw [cat_len ptC_len]; simp)], Nat.le_refl _⟩)
  obtain ⟨fu, hfu⟩ : ∃ fu, AV.sl B 0 (L.length + 80) (L.length + 80) 2 true = fu := ⟨_, rfl⟩
  rw [hfu] at Sfu E5
  obtain ⟨fs, f1, Sfs⟩ := Sfu.to (P := Try.prog) (ty := 34) Try.underlying34 ts31 (k := .i64) (j := L.length) (by omega)
  rw [cat_take ptC_len, List.take_append_of_le_length (Nat.le_refl _), List.take_length] at Sfs
  have Mv5 := (M4.ext K5).sl
  have K25 : Keep h2.next nob h2 h5 := (K3.trans (K4.weak K3.1 fun _ _ q => q)).trans (K5.weak (Nat.le_trans K3.1 K4.1) fun _ _ q => q)
  have C5 := C.ext K25
  obtain ⟨_, h6, E6, rfl, K6⟩ := dec_ok (k + 4) h5 b n m rv C5 sz hsz fs L Sfs (by omega) (by omega) hb4
  obtain ⟨_, h7, E7, rfl, K7⟩ := rdec_ok (k + 4) h6 n m hn hn8 hm sz hsz mv L (Mv5.ext K6) (by omega) (by omega) hb4
  have C7 := (C5.ext K6).ext K7
  obtain ⟨_, h8, E8, rfl, K8⟩ := reb_ok (k + 3) h7 b n m rv C7 sz a3 hsz fs L ((Sfs.ext K6).ext K7) (by omega) (by omega) hb4
  obtain ⟨_, h9, E9, rfl, K9⟩ := rreb_ok (k + 3) h8 n m hn hn8 hm sz a3 hsz mv L (((Mv5.ext K6).ext K7).ext K8) (by omega) (by omega) hb4
  have K59 : Keep h5.next nob h5 h9 := ((K6.trans (K7.weak K6.1 fun _ _ q => q)).trans (K8.weak (Nat.le_trans K6.1 K7.1) fun _ _ q => q)).trans (K9.weak (Nat.le_trans K6.1 (Nat.le_trans K7.1 K8.1)) fun _ _ q => q)
  obtain ⟨_, h10, E10, rfl⟩ := intactP_ok (k + 8) L fu mv mk h9 (Sfu.ext K59) (Mv5.ext K59) (by omega) (by omega)
  have g9 : h9.get mb = some (.cells (ptC mk) false) := by rw [K59.2 mb (Nat.lt_of_lt_of_le mlt K5.1) id, K5.2 mb mlt id]; exact g4
  have ldm9 : aload Try.prog h9 31 mb 0 = some (.agg (ptC mk)) := by simp [aload, Heap.row, g9, ptC]
  have lm5 := Mv5.len'
  rw [emk] at E5 E10 ldm ldm9
  generalize decP n m sz L = d at *
  generalize rebP n m sz a3 L = r at *
  simp only [tx] at E6 E7 E8 E9
  simp [q2, q3, q15, q16, q17, q19, afill, aalloc, hmb, rowm, lay4, ldm, E5, lm5, f1, E6, E7, E8, E9, ldm9, E10]


theorem own : ownKnob Try.prog.godebug = none := by kernel_rfl
theorem laid : laidOutB Try.prog = true := by kernel_rfl

set_option maxRecDepth 100000 in
theorem lifted (os : Os) (started : os.Started) (H : Type) (enc : TypeId × Value → H) :
    ReturnsInHanded {} Try.checked os 4 .any (Rows.rsPartsSpec.pre6 enc Try.prog Try.f4 Rows.rsPartsRow.domain false) (Rows.rsPartsSpec.post enc Try.prog Try.f4 false true false false) := by
  refine returnsInHanded_of_change (C := Try.checked) own started (by kernel_rfl) Try.func4
    (ChangeSpec.witness6 (enc := enc) (C := Try.checked) false ⟨#[], #[.int .i64 0, .int .i64 0, .int .i64 0, .int .i64 0, .string ByteArray.empty, .slice none 0 0, .bool false], []⟩ 8 (by kernel_rfl) (by kernel_rfl) (by kernel_rfl) (by kernel_rfl)) ?_
  intro W base args ds gs before hval0 hW hcnd _
  have hval : ∀ (j : Nat) t v, Try.f4.params.toList[j]? = some t → args.toList[j]? = some v → Value.okWide Try.prog W .any base t v := fun j t v h1 h2 => hval0 j t v (by simpa using h1) (by simpa using h2)
  have hW' := hW
  obtain ⟨p, q, hA0, hV, rfl, hfz, hnd⟩ := hW
  have hA : DataW.TrodAll enc Try.prog W 0 (fun _ => true) true Try.f4.params.toList args.toList ds p := hA0
  obtain ⟨rfl, rfl⟩ := trodVars_none hV
  have hlt : ∀ x ∈ p, x.block < W.heap.size := fun x hx => hW'.lt x (by simp [hx])
  have hps : Try.f4.params.toList = [3, 3, 3, 3, 9, 34, 4] := by rw [Try.params4]
  rw [hps] at hA hval
  obtain ⟨m, h, avs, x, g1, _, _, g2, g3, g4⟩ := (good_as1 (good_int Try.underlying3 (by kernel_rfl)) rfl (by kernel_rfl) (good_as1 (good_int Try.underlying3 (by kernel_rfl)) rfl (by kernel_rfl) (good_as1 (good_int Try.underlying3 (by kernel_rfl)) rfl (by kernel_rfl) (good_as1 (good_int Try.underlying3 (by kernel_rfl)) rfl (by kernel_rfl) (good_as1 (good_str Try.underlying9 (by kernel_rfl)) rfl (by kernel_rfl) (good_as1 (good_slice Try.underlying34 (by kernel_rfl) (by decide) (good_struct Try.underlying31 (by kernel_rfl) (good_fs rfl (good_int Try.underlying3 (by kernel_rfl)) (good_fs rfl (good_str Try.underlying9 (by kernel_rfl)) (good_fs0 _))))) rfl (by kernel_rfl) (good_as1 (good_bool Try.underlying4 (by kernel_rfl)) rfl (by kernel_rfl) good_as0))))))) H enc W base args.toList ds p hval hA _ _ (HRo.start W)
  obtain ⟨a0, a1, a2, a3, a4, a5, a6, _⟩ := x
  obtain ⟨_, _, rfl, ⟨e0, w0⟩, ⟨_, _, rfl, ⟨e1, w1⟩, ⟨_, _, rfl, ⟨e2, w2⟩, ⟨_, _, rfl, ⟨e3, w3⟩, ⟨_, _, rfl, ⟨e4, w4⟩, ⟨v5, _, rfl, ⟨u5, e5, w5⟩, ⟨_, _, rfl, e6, rfl⟩⟩⟩⟩⟩⟩⟩ := g3
  obtain rfl := (List.cons.inj e0).1
  obtain rfl := (List.cons.inj e1).1
  obtain rfl := (List.cons.inj e2).1
  obtain rfl := (List.cons.inj e3).1
  obtain rfl := (List.cons.inj e4).1
  obtain rfl := (List.cons.inj e5).1
  obtain rfl := (List.cons.inj e6).1
  have hcall := law_any mixed (k := 3000000 + 10) Try.func4 (by kernel_rfl) runs_ok g1 g2 (law_run 3000000 (by decide) h a0 w0 a1 w1 a2 w2 a3 w3 a4 w4 v5 a5 w5 a6)
  refine hcall.mono fun e W' ⟨he, hg⟩ => ?_
  subst he
  simp only [List.append_nil] at hW' hA0 ⊢
  have hlen : ds.length = 7 := trodAll_len hA
  have hvars : (Rows.rsPartsSpec.fn H (ds ++ [])).vars = [] ∧ (Rows.rsPartsSpec.fn H (ds ++ [])).args = ds ∧ (Rows.rsPartsSpec.fn H (ds ++ [])).results = [.lit (.bool true)] := by
    rw [List.append_nil]
    match ds, hlen with
    | [d0, d1, d2, d3, d4, d5, d6], _ => exact ⟨rfl, rfl, rfl⟩
  obtain ⟨hv1, hv2, hv3⟩ := hvars
  refine ⟨_, rfl, law_post hW' rfl hg (fun _ _ _ => ?_) (fun sp hsp => ?_) hv1
    (ok_one (by kernel_rfl) rfl (okWide_bool_mk Try.underlying4 _))⟩
  · rw [hv3]
    exact (trodAll_cons_mk (shut_bool Try.underlying4 _) trodAll_mk0)
  · have hA1 := trodAll_below laid hg sp (ts := [3, 3, 3, 3, 9, 34, 4]) (by decide +kernel) hlt hsp hA
    rw [hv2, hps]
    exact hA1

theorem over : Rows.rsPartsRow.holds Try.pinned (OpenSpec.ofChange Rows.rsPartsSpec) :=
  OpenClaim.holds_of_wide 4 Try.f4 rfl rfl rfl rfl rfl rfl rfl ⟨rfl, rfl, rfl, rfl, rfl⟩ rfl rfl rfl rfl rfl (by kernel_rfl) Try.func4 (by kernel_rfl)
    (of_decide_eq_true (by kernel_rfl)) (by unfold Func.isWrapper; first | (rw [if_pos (by decide +kernel)]; kernel_rfl) | (rw [if_neg (by decide +kernel)]; exact ⟨rfl, rfl⟩))
    (fun os started H enc _ => lifted os started H enc)

/-- The statement. -/
theorem proved : Rows.RsPartsSaid :=
  over
#print axioms proved
end Go.Proofs.Ytmmibaaidfcbhaa.cRsParts
