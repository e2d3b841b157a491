/- The law RsAny returns true for every input, and its input reads behind the call as it did; no conditions. The kit's model is followed by an abstract machine that is shown to tell what the model does; the contracts of the functions are proved over that machine. -/
import Derived.Test.YtmmibaaidfcbhaaRows
import Derived.Test.YtmmibaaidfcbhaaRsAnyA
import Derived.Test.YtmmibaaidfcbhaaRsAnyB
import Derived.WalkKit
import Derived.ProofKit
import Derived.OpenShut
import Derived.JoinedCond
namespace Go.Proofs.Ytmmibaaidfcbhaa.cRsAny
open Go Go.ChangeShapes Go.WideShapes Go.ChangeAt Go.RowKit Go.YtmmibaaidfcbhaaAbs
set_option linter.unusedSimpArgs false
set_option linter.unusedVariables false

set_option maxRecDepth 4000
def nI (x : Nat) : AV := .int .i64 (x : Nat)
set_option maxHeartbeats 8000000 in
theorem law_run (k : Nat) (hk : 5000 < k) (h : Heap) (a0 : Int) (w0 : (Lit.int .i64 a0).wf = true) (a1 : Int) (w1 : (Lit.int .i64 a1).wf = true) (a2 : ByteArray) (w2 : a2.size ≤ maxLen) (v3 : AV) (a3 : (List Int)) (w3 : SlA (kInt .i64) h v3 a3) (a4 : Int) (w4 : (Lit.int .i64 a4).wf = true) :
    ∃ v h', afuncT Try.prog [22] (orRuns 3 (acall Try.prog (k + 10))) (k + 10) Try.f5 [.int .i64 a0, .int .i64 a1, .str a2, v3, .int .i64 a4] h = some (v, h') ∧ v = .bool true := by
  obtain ⟨s3, r3⟩ := sla_ints w3
  obtain ⟨n, m, W1, s1, W2, h1, b, rv, E1, C, K1⟩ := rs_start k (by omega) h a0 a1
  have hn := C.k1
  have hn8 := C.k8
  have hm := C.km
  have E2 : acall Try.prog (k + 10) 15 [.str a2, .int .i64 150] h1 = _ := short3_ok (k + 9) a2 150 h1
  have hs := shortN_le 150 a2
  generalize shortN 150 a2 = s at *
  obtain ⟨fv, h3, E3, M3, F3, K3⟩ := enc_ok (k + 7) h1 b n m rv C s (by omega) (by omega)
  obtain ⟨X, hX⟩ : ∃ X, bl s = X := ⟨_, rfl⟩
  have lX : X.length = s.size := by rw [← hX, bl_len]
  rw [hX] at M3
  have C3 := C.ext K3
  have lf := M3.sl.len'
  obtain ⟨N, hN⟩ : ∃ N, n + m = N := ⟨_, rfl⟩
  rw [hN] at lf
  have snm : fwrap .i64 ((n : Int) + (m : Int)) = (N : Nat) := by rw [i64w _ (by omega) (by omega)]; omega
  have Sf3 := M3.sl
  rw [hN] at Sf3
  have k3 : Keep h.next nob h h3 := K1.trans (K3.weak K1.1 fun _ _ q => q)
  refine afuncT_ex rfl (by simp [Try.f5]) ?_
  simp [Try.f5, W1, s1, W2, E1, E2, E3, lf, snm]
  refine W_cutLoop 0 (fun st => ∃ v17, st.t.get 3 = some v3 ∧ st.t.get 4 = some (.int .i64 a4) ∧ st.t.get 11 = some (.int .i64 (n : Nat)) ∧ st.t.get 12 = some (.int .i64 (m : Nat)) ∧ st.t.get 13 = some (.ptr b 0) ∧ st.t.get 15 = some (.str s) ∧ st.t.get 16 = some fv ∧ st.t.get 17 = some v17 ∧ Wd h3 st.h [(v17, .vec 1 N ((List.range N).map nI))]) ?_ ?_
  · refine W_loop (fun mm st => ∃ (j : Nat) (v17 : AV), mm = N - j ∧ j ≤ N ∧ st.t.get 3 = some v3 ∧ st.t.get 4 = some (.int .i64 a4) ∧ st.t.get 11 = some (.int .i64 (n : Nat)) ∧ st.t.get 12 = some (.int .i64 (m : Nat)) ∧ st.t.get 13 = some (.ptr b 0) ∧ st.t.get 15 = some (.str s) ∧ st.t.get 16 = some fv ∧ st.t.get 17 = some v17 ∧ st.t.get 18 = some (.int .i64 (j : Nat)) ∧ Wd h3 st.h [(v17, .vec 1 j ((List.range j).map nI))]) N (by omega)
      ⟨0, .nils, by omega, by omega, by simp, by simp, by simp, by simp, by simp, by simp, by simp, by simp, by simp, (Wd.start h3).cons (Keep.refl _ _ _) (Mine.nil 1 h3) (fun d hd => by cases hd)⟩ ?_
    rintro mm ⟨t, h4⟩ ⟨j, v17, rfl, hj, q3, q4, q11, q12, q13, q15, q16, q17, q18, W⟩
    simp only at q3 q4 q11 q12 q13 q15 q16 q17 q18 W
    by_cases hlt : j < N
    · obtain ⟨v', h5, a5, M5, F5, K5⟩ := (show Mine 1 j h4 v17 ((List.range j).map nI) from W.own.get (i := 0) rfl).push (P := Try.prog) el44 (a := [nI j]) (ex := true) rfl rfl (by omega)
      have W5 := W.upd (i := 0) rfl K5 (v' := v') (o' := .vec 1 (j + 1) ((List.range (j + 1)).map nI)) (by rw [List.range_succ, List.map_append]; exact M5) F5
      simp [nI] at a5
      simp [q3, q4, q11, q12, q13, q15, q16, q17, q18, snm, isLt (show (j : Int) < (N : Int) by omega), aalloc, afill, a5, i64w ((j : Int) + 1) (by omega) (by omega)]
      exact ⟨N - (j + 1), by omega, j + 1, rfl, by omega, by simp, W5⟩
    · have e : j = N := by omega
      subst e
      simp [q3, q4, q11, q12, q13, q15, q16, q17, q18, snm]
      exact W
  rintro ⟨t, h4⟩ ⟨v17, q3, q4, q11, q12, q13, q15, q16, q17, W⟩
  simp only at q3 q4 q11 q12 q13 q15 q16 q17 W
  simp [q3, q4, q11, q12, q13, q15, q16, q17]
  have W0 := W.snoc (Keep.refl _ _ _) (v := .nils) (o := .vec 2 0 []) (Mine.nil 2 h4) (fun d hd => by cases hd)
  refine W_cutLoop 2 (fun st => ∃ (v19 : AV) (sel : List Nat), st.t.get 4 = some (.int .i64 a4) ∧ st.t.get 11 = some (.int .i64 (n : Nat)) ∧ st.t.get 12 = some (.int .i64 (m : Nat)) ∧ st.t.get 13 = some (.ptr b 0) ∧ st.t.get 15 = some (.str s) ∧ st.t.get 16 = some fv ∧ st.t.get 19 = some v19 ∧ sel.length = n ∧ sel.Nodup ∧ (∀ s, s ∈ sel → s < N) ∧ Keep h3.next nob h3 st.h ∧ Sl 2 (twiceP n m X sel).length st.h v19 (cat ptC (twiceP n m X sel))) ?_ ?_
  · refine W_loop (fun mm st => ∃ (i : Nat) (v17 v19 : AV) (left sel : List Nat), mm = n - i ∧ i ≤ n ∧ st.t.get 3 = some v3 ∧ st.t.get 4 = some (.int .i64 a4) ∧ st.t.get 11 = some (.int .i64 (n : Nat)) ∧ st.t.get 12 = some (.int .i64 (m : Nat)) ∧ st.t.get 13 = some (.ptr b 0) ∧ st.t.get 15 = some (.str s) ∧ st.t.get 16 = some fv ∧ st.t.get 17 = some v17 ∧ st.t.get 19 = some v19 ∧ st.t.get 20 = some (.int .i64 (i : Nat)) ∧
        sel.length = i ∧ left.length = N - i ∧ (sel ++ left).Nodup ∧ (∀ s, s ∈ sel ++ left → s < N) ∧ Wd h3 st.h [(v17, .vec 1 left.length (left.map nI)), (v19, .vec 2 (twiceP n m X sel).length (cat ptC (twiceP n m X sel)))]) n (by omega)
      ⟨0, v17, .nils, List.range N, [], by omega, by omega, by simp [q3], by simp [q4], by simp [q11], by simp [q12], by simp [q13], by simp [q15], by simp [q16], by simp [q17], by simp, by simp, rfl, by simp, by simpa using List.nodup_range, by simp, by rw [twice_nil, List.length_range]; exact W0⟩ ?_
    clear q3 q4 q11 q12 q13 q15 q16 q17 W W0
    rintro mm ⟨t, h5⟩ ⟨i, v17, v19, left, sel, rfl, hi, q3, q4, q11, q12, q13, q15, q16, q17, q19, q20, hsl, hll, hnd, hlt, W⟩
    simp only at q3 q4 q11 q12 q13 q15 q16 q17 q19 q20 W
    have M17 : Mine 1 left.length h5 v17 (left.map nI) := W.own.get (i := 0) rfl
    have M19 : Mine 2 (twiceP n m X sel).length h5 v19 (cat ptC (twiceP n m X sel)) := W.own.get (i := 1) rfl
    have ll := M17.sl.len'
    have sa := s3.ext (k3.trans (W.kb.weak k3.1 fun _ _ q => q))
    have la := sa.len'
    have Sf5 := Sf3.ext W.kb
    have htl := twice_len (k := n) (m := m) (X := X) sel
    by_cases hin : i < n
    · have step : ∀ p, p < left.length → ∃ (y : Nat) (c0 : Nat) (u1 u2 s1 s2 v19' : AV) (h6 h7 h8 : Heap), aindex Try.prog 44 v17 (.int .i64 (p : Nat)) = some (.ptr v17.blk (v17.off + p)) ∧ aload Try.prog h5 3 v17.blk (v17.off + p) = some (.int .i64 (y : Nat)) ∧ v17.blk < h5.next ∧
          aindex Try.prog 26 fv (.int .i64 (y : Nat)) = some (.ptr fv.blk (fv.off + y)) ∧ aload Try.prog h5 9 fv.blk (fv.off + y) = some (.str (ownPt n m X y).2) ∧ fv.blk < h5.next ∧
          acall Try.prog (k + 10) 21 [v19, .int .i64 (y : Nat)] h5 = some (.int .i64 (c0 : Nat), h5) ∧ aindex Try.prog 26 fv (.int .i64 (c0 : Nat)) = some (.ptr fv.blk (fv.off + c0)) ∧ aload Try.prog h5 9 fv.blk (fv.off + c0) = some (.str (ownPt n m X c0).2) ∧
          aappend Try.prog (h5.new (.cells [.int .i64 (y : Nat), .str (ownPt n m X y).2, .int .i64 (c0 : Nat), .str (ownPt n m X c0).2] false)) 34 34 v19 (.sl h5.next 0 2 2 2 true) = some (v19', h6) ∧
          aslice Try.prog 44 v17 none (some (.int .i64 (p : Nat))) none = some s1 ∧ aappend Try.prog (h6.new (.cells [] false)) 44 44 (.sl h6.next 0 0 0 1 true) s1 = some (u1, h7) ∧
          aslice Try.prog 44 v17 (some (.int .i64 ((p : Int) + 1))) none none = some s2 ∧ aappend Try.prog h7 44 44 u1 s2 = some (u2, h8) ∧
          (sel ++ [y]).length = i + 1 ∧ (left.take p ++ left.drop (p + 1)).length = N - (i + 1) ∧ ((sel ++ [y]) ++ (left.take p ++ left.drop (p + 1))).Nodup ∧ (∀ x, x ∈ (sel ++ [y]) ++ (left.take p ++ left.drop (p + 1)) → x < N) ∧
          Wd h3 h8 [(u2, .vec 1 (left.take p ++ left.drop (p + 1)).length ((left.take p ++ left.drop (p + 1)).map nI)), (v19', .vec 2 (twiceP n m X (sel ++ [y])).length (cat ptC (twiceP n m X (sel ++ [y]))))] := by
        intro p hp
        obtain ⟨y, hy⟩ : ∃ y, left[p]? = some y := ⟨left[p], by simp⟩
        have hsm := List.mem_of_getElem? hy
        have hsn := hlt y (List.mem_append.2 (.inr hsm))
        obtain ⟨c0, hc0⟩ : ∃ c0, (sel ++ [y]).headD 0 = c0 := ⟨_, rfl⟩
        have hcN : c0 < N := by
          rw [← hc0]
          cases sel with
          | nil => exact hsn
          | cons a r => exact hlt a (by simp)
        have L0 := l0_ok (k + 9) h5 v19 _ M19.sl y
        rw [nth0_twice, hc0] at L0
        obtain ⟨f1, f2, f3⟩ := txs_at Sf5 (i := y) (by rw [encP_len]; omega)
        obtain ⟨g1, g2, _⟩ := txs_at Sf5 (i := c0) (by rw [encP_len]; omega)
        obtain ⟨v19', h6, a6, M6, F6, K6⟩ := push_two M19 (ownPt n m X y) (ownPt n m X c0) (by omega)
        rw [← hc0, ← twice_snoc] at M6
        have W6 := W.upd (i := 1) rfl K6 (v' := v19') (o' := .vec 2 (twiceP n m X (sel ++ [y])).length (cat ptC (twiceP n m X (sel ++ [y])))) M6 F6
        have N17 : Mine 1 left.length h6 v17 (left.map nI) := W6.own.get (i := 0) rfl
        obtain ⟨s1, s2, u1, h7, u2, h8, b1, b2, b3, b4, b5, b6, b7⟩ := N17.cut (P := Try.prog) el44 (j := p) hp (by omega)
        have hln : (left.take p ++ left.drop (p + 1)).length = left.length - 1 := by rw [List.length_append, List.length_take, List.length_drop]; omega
        have W8 := W6.upd (i := 0) rfl (b6.weak (Nat.le_refl _) fun _ _ q => q.elim) (v' := u2) (o' := .vec 1 (left.take p ++ left.drop (p + 1)).length ((left.take p ++ left.drop (p + 1)).map nI)) (show Mine 1 _ h8 u2 _ by rw [hln, List.map_append, List.map_take, List.map_drop]; simpa using b5) (fun d hd => .inr (b7 d hd))
        have pm : ((sel ++ [y]) ++ (left.take p ++ left.drop (p + 1))).Perm (sel ++ left) := by
          obtain ⟨z1, z2⟩ := List.getElem?_eq_some_iff.1 hy
          have e : left = left.take p ++ y :: left.drop (p + 1) := by
            conv => lhs; rw [← List.take_append_drop p left, List.drop_eq_getElem_cons z1, z2]
          conv => rhs; rw [e]
          rw [List.append_assoc]
          refine List.Perm.append_left sel ?_
          exact (List.perm_middle (a := y) (l₁ := left.take p) (l₂ := left.drop (p + 1))).symm
        exact ⟨y, c0, u1, u2, s1, s2, v19', h6, h7, h8, M17.sl.idx1 (P := Try.prog) Try.underlying44 ts3 hp .i64, M17.sl.ld ta3 (by rw [List.getElem?_map, hy]; rfl), M17.sl.blk_lt (by omega), f1, f2, f3, L0, g1, g2, a6, b1, b2, b3, b4, by simp [hsl], by omega, pm.nodup_iff.2 hnd, fun x hx => hlt x (pm.mem_iff.1 hx), W8⟩
      have ag : Agree h5.next h5 h5 := fun _ _ => rfl
      by_cases hv : i < a3.length
      · obtain ⟨x, hx⟩ : ∃ x, a3[i]? = some x := ⟨a3[i], by simp⟩
        have ixa := sa.idx1 (P := Try.prog) Try.underlying44 ts3 (j := i) hv .i64
        have lda : aload Try.prog h5 3 v3.blk (v3.off + i) = some (.int .i64 x) := sa.ld ta3 (ii_get hx)
        have sl1 := i64w ((left.length : Int) - 1) (by omega) (by omega)
        obtain ⟨p, W3, p0, p1⟩ := within_nat (k + 9) x 0 ((left.length : Int) - 1) (by omega) (by omega) (by omega) h5
        have hpl : p < left.length := by omega
        have sp := i64w ((p : Int) + 1) (by omega) (by omega)
        obtain ⟨y, c0, u1, u2, z1, z2, v19', h6, h7, h8, x1, x2, x3, x4, x5, x6, x7, x8, x9, x10, x11, x12, x13, x14, y1, y2, y3, y4, W8⟩ := step p hpl
        simp [q3, q4, q11, q12, q13, q15, q16, q17, q19, q20, isLt (show (i : Int) < (n : Int) by omega), la, isLt (show (i : Int) < (a3.length : Int) by omega), ixa, lda, ll, sl1, W3]
        refine W_split 26 h5.next (by rfl) (by kernel_rfl) (by rfl) ?_
        dsimp only [List.take, List.drop]
        have r1 : (AV.agg [.int .i64 (y : Nat), .str (ownPt n m X y).2]).row1 = some [.int .i64 (y : Nat), .str (ownPt n m X y).2] := row1_agg rfl
        have r2 : (AV.agg [.int .i64 (c0 : Nat), .str (ownPt n m X c0).2]).row1 = some [.int .i64 (c0 : Nat), .str (ownPt n m X c0).2] := row1_agg rfl
        simp [obl, mayEff, mayRead, sameAV, q3, q4, q11, q12, q13, q15, q16, q17, q19, q20, x1, x2, x3, x4, x5, x6, x7, x8, x9, ag, aalloc, afill, r1, r2, x10, x11, x12, sp, x13, x14, i64w ((i : Int) + 1) (by omega) (by omega)]
        exact ⟨n - (i + 1), by omega, i + 1, by omega, by omega, by simp, _, _, y1, y2, y3, (fun x hx => y4 x (List.mem_append.2 hx)), W8⟩
      · obtain ⟨y, c0, u1, u2, z1, z2, v19', h6, h7, h8, x1, x2, x3, x4, x5, x6, x7, x8, x9, x10, x11, x12, x13, x14, y1, y2, y3, y4, W8⟩ := step 0 (by omega)
        simp at x1 x2 x11 x13
        simp [q3, q4, q11, q12, q13, q15, q16, q17, q19, q20, isLt (show (i : Int) < (n : Int) by omega), la, isLe (show (a3.length : Int) ≤ (i : Int) by omega)]
        refine W_split 26 h5.next (by rfl) (by kernel_rfl) (by rfl) ?_
        dsimp only [List.take, List.drop]
        have r1 : (AV.agg [.int .i64 (y : Nat), .str (ownPt n m X y).2]).row1 = some [.int .i64 (y : Nat), .str (ownPt n m X y).2] := row1_agg rfl
        have r2 : (AV.agg [.int .i64 (c0 : Nat), .str (ownPt n m X c0).2]).row1 = some [.int .i64 (c0 : Nat), .str (ownPt n m X c0).2] := row1_agg rfl
        simp [obl, mayEff, mayRead, sameAV, q3, q4, q11, q12, q13, q15, q16, q17, q19, q20, x1, x2, x3, x4, x5, x6, x7, x8, x9, ag, aalloc, afill, r1, r2, x10, x11, x12, i64w 1 (by omega) (by omega), x13, x14, i64w ((i : Int) + 1) (by omega) (by omega)]
        exact ⟨n - (i + 1), by omega, i + 1, by omega, by omega, by simp, _, _, y1, y2, y3, (fun x hx => y4 x (List.mem_append.2 hx)), W8⟩
    · have e : i = n := by omega
      simp [q3, q4, q11, q12, q13, q15, q16, q17, q19, q20, e]
      exact ⟨sel, by omega, (List.nodup_append.1 hnd).1, fun s hs => hlt s (List.mem_append.2 (.inl hs)), W.kb, M19.sl⟩
  clear q3 q4 q11 q12 q13 q15 q16 q17 W W0
  rintro ⟨t, h5⟩ ⟨v19, sel, q4, q11, q12, q13, q15, q16, q19, hsl, hnd, hlt, K5, S5⟩
  simp only at q4 q11 q12 q13 q15 q16 q19 K5 S5
  have C5 := C3.ext K5
  have htl := twice_len (k := n) (m := m) (X := X) sel
  have hsN : ∀ s, s ∈ sel → s < n + m := fun s h => by have := hlt s h; omega
  have hall := twice_in (m := m) (X := X) hn hsN
  have hpk := pick_twice (k := n) (m := m) (X := X) sel hnd (by omega)
  have hdec : decP n m (s.size : Nat) (twiceP n m X sel) = (X, 0) := by
    rw [← lX]
    exact dec_own hn hn8 hm (by omega) hall hpk hnd hsN hsl
  have hsz : szN n X.length ≤ 150 := Nat.le_trans (szN_le hn) (by omega)
  have hb : ∀ p, p ∈ twiceP n m X sel → p.2.size ≤ 400 := fun p hp => by
    have := (allIn_iff.1 hall p hp).2.2
    omega
  obtain ⟨_, h6, E6, e6, K6⟩ := dec_ok (k + 4) h5 b n m rv C5 (s.size : Nat) (by omega) v19 _ S5 (by omega) (by omega) hb
  rw [hdec] at e6
  subst e6
  have C6 := C5.ext K6
  obtain ⟨i, W7, i0, i1⟩ := within_nat (k + 9) a4 0 ((N : Int) - 1) (by omega) (by omega) (by omega) h6
  have hiN : i < N := by omega
  obtain ⟨_, h7, E7, e7, K7⟩ := reb_ok (k + 3) h6 b n m rv C6 (s.size : Nat) (i : Nat) (by omega) v19 _ (S5.ext K6) (by omega) (by omega) hb
  have hreb : rebP n m (s.size : Nat) (i : Nat) (twiceP n m X sel) = (rowA (encP n m X) i, 0) := by
    unfold rebP
    rw [if_neg (by omega), hdec, if_neg (by simp), Int.toNat_natCast]
  rw [hreb] at e7
  subst e7
  have C7 := C6.ext K7
  have S7 := (S5.ext K6).ext K7
  obtain ⟨lv2, sl2, S8⟩ := S7.to (P := Try.prog) (ty := 34) Try.underlying34 ts31 (k := .i64) (j := 2 * (n - 1)) (by omega)
  rw [cat_take ptC_len] at S8
  have htk : (twiceP n m X sel).length = 2 * n := by omega
  have hl8 : ((twiceP n m X sel).take (2 * (n - 1))).length = 2 * (n - 1) := by rw [List.length_take]; omega
  have hpk8 : (pickP n ((twiceP n m X sel).take (2 * (n - 1)))).length < n := by
    obtain ⟨sel0, y, e⟩ : ∃ sel0 y, sel = sel0 ++ [y] := by
      rcases List.eq_nil_or_concat sel with q | ⟨a, b, q⟩
      · rw [q] at hsl; simp at hsl; omega
      · exact ⟨a, b, by rw [q, List.concat_eq_append]⟩
    have l0 : sel0.length = n - 1 := by rw [e, List.length_append] at hsl; simp at hsl; omega
    have e2 : (twiceP n m X sel).take (2 * (n - 1)) = twiceP n m X sel0 := by
      rw [e, twice_snoc, List.take_left' (by rw [twice_len]; omega)]
    rw [e2, pick_twice sel0 (by rw [e] at hnd; exact (List.nodup_append.1 hnd).1) (by omega), List.length_map]
    omega
  have hdec8 : decP n m (s.size : Nat) ((twiceP n m X sel).take (2 * (n - 1))) = ([], 3) := by
    rw [← lX]
    exact dec_few (fun p hp => (List.all_eq_true.1 hall) p (List.mem_of_mem_take hp)) (by omega) hpk8
  obtain ⟨_, h8, E8, e8, K8⟩ := dec_ok (k + 4) h7 b n m rv C7 (s.size : Nat) (by omega) lv2 _ (by rw [hl8]; exact S8) (by omega) (by omega) (fun p hp => hb p (List.mem_of_mem_take hp))
  rw [hdec8] at e8
  subst e8
  have Sf8 := Sf3.ext (K5.trans ((K6.trans ((K7.trans (K8.weak K7.1 fun _ _ q => q)).weak K6.1 fun _ _ q => q)).weak K5.1 fun _ _ q => q))
  obtain ⟨f1, f2, f3⟩ := txs_at Sf8 (i := i) (by rw [encP_len]; omega)
  have sN1 : fwrap .i64 ((N : Int) - 1) = (N : Int) - 1 := i64w _ (by omega) (by omega)
  have t1 : fwrap .i64 ((2 : Int) * (n : Int)) = ((2 * n : Nat) : Int) := by rw [i64w _ (by omega) (by omega)]; omega
  have t2 : fwrap .i64 (((2 * n : Nat) : Int) - 2) = ((2 * (n - 1) : Nat) : Int) := by rw [i64w _ (by omega) (by omega)]; omega
  obtain ⟨M, hM⟩ : ∃ M, 2 * n = M := ⟨_, rfl⟩
  obtain ⟨M', hM'⟩ : ∃ M', 2 * (n - 1) = M' := ⟨_, rfl⟩
  rw [hM] at t1 t2
  rw [hM'] at t2 sl2
  have esX : (⟨⟨X⟩⟩ : ByteArray) = s := by rw [← hX]; rfl
  simp only [tx, esX] at E6 E7 E8 f2
  simp [q4, q11, q12, q13, q15, q16, q19, E6, snm, sN1, W7, E7, t1, t2, sl2, E8, f1, f2]


theorem own : ownKnob Try.prog.godebug = none := by kernel_rfl
theorem laid : laidOutB Try.prog = true := by kernel_rfl

set_option maxRecDepth 100000 in
theorem lifted (os : Os) (started : os.Started) (H : Type) (enc : TypeId × Value → H) :
    ReturnsInHanded {} Try.checked os 5 .any (Rows.rsAnySpec.pre6 enc Try.prog Try.f5 Rows.rsAnyRow.domain false) (Rows.rsAnySpec.post enc Try.prog Try.f5 false true false false) := by
  refine returnsInHanded_of_change (C := Try.checked) own started (by kernel_rfl) Try.func5
    (ChangeSpec.witness6 (enc := enc) (C := Try.checked) false ⟨#[], #[.int .i64 0, .int .i64 0, .string ByteArray.empty, .slice none 0 0, .int .i64 0], []⟩ 8 (by kernel_rfl) (by kernel_rfl) (by kernel_rfl) (by kernel_rfl)) ?_
  intro W base args ds gs before hval0 hW hcnd _
  have hval : ∀ (j : Nat) t v, Try.f5.params.toList[j]? = some t → args.toList[j]? = some v → Value.okWide Try.prog W .any base t v := fun j t v h1 h2 => hval0 j t v (by simpa using h1) (by simpa using h2)
  have hW' := hW
  obtain ⟨p, q, hA0, hV, rfl, hfz, hnd⟩ := hW
  have hA : DataW.TrodAll enc Try.prog W 0 (fun _ => true) true Try.f5.params.toList args.toList ds p := hA0
  obtain ⟨rfl, rfl⟩ := trodVars_none hV
  have hlt : ∀ x ∈ p, x.block < W.heap.size := fun x hx => hW'.lt x (by simp [hx])
  have hps : Try.f5.params.toList = [3, 3, 9, 44, 3] := by rw [Try.params5]
  rw [hps] at hA hval
  obtain ⟨m, h, avs, x, g1, _, _, g2, g3, g4⟩ := (good_as1 (good_int Try.underlying3 (by kernel_rfl)) rfl (by kernel_rfl) (good_as1 (good_int Try.underlying3 (by kernel_rfl)) rfl (by kernel_rfl) (good_as1 (good_str Try.underlying9 (by kernel_rfl)) rfl (by kernel_rfl) (good_as1 (good_slice Try.underlying44 (by kernel_rfl) (by decide) (good_int Try.underlying3 (by kernel_rfl))) rfl (by kernel_rfl) (good_as1 (good_int Try.underlying3 (by kernel_rfl)) rfl (by kernel_rfl) good_as0))))) H enc W base args.toList ds p hval hA _ _ (HRo.start W)
  obtain ⟨a0, a1, a2, a3, a4, _⟩ := x
  obtain ⟨_, _, rfl, ⟨e0, w0⟩, ⟨_, _, rfl, ⟨e1, w1⟩, ⟨_, _, rfl, ⟨e2, w2⟩, ⟨v3, _, rfl, ⟨u3, e3, w3⟩, ⟨_, _, rfl, ⟨e4, w4⟩, rfl⟩⟩⟩⟩⟩ := g3
  obtain rfl := (List.cons.inj e0).1
  obtain rfl := (List.cons.inj e1).1
  obtain rfl := (List.cons.inj e2).1
  obtain rfl := (List.cons.inj e3).1
  obtain rfl := (List.cons.inj e4).1
  have hcall := law_any mixed (k := 3000000 + 10) Try.func5 (by kernel_rfl) runs_ok g1 g2 (law_run 3000000 (by decide) h a0 w0 a1 w1 a2 w2 v3 a3 w3 a4 w4)
  refine hcall.mono fun e W' ⟨he, hg⟩ => ?_
  subst he
  simp only [List.append_nil] at hW' hA0 ⊢
  have hlen : ds.length = 5 := trodAll_len hA
  have hvars : (Rows.rsAnySpec.fn H (ds ++ [])).vars = [] ∧ (Rows.rsAnySpec.fn H (ds ++ [])).args = ds ∧ (Rows.rsAnySpec.fn H (ds ++ [])).results = [.lit (.bool true)] := by
    rw [List.append_nil]
    match ds, hlen with
    | [d0, d1, d2, d3, d4], _ => exact ⟨rfl, rfl, rfl⟩
  obtain ⟨hv1, hv2, hv3⟩ := hvars
  refine ⟨_, rfl, law_post hW' rfl hg (fun _ _ _ => ?_) (fun sp hsp => ?_) hv1
    (ok_one (by kernel_rfl) rfl (okWide_bool_mk Try.underlying4 _))⟩
  · rw [hv3]
    exact (trodAll_cons_mk (shut_bool Try.underlying4 _) trodAll_mk0)
  · have hA1 := trodAll_below laid hg sp (ts := [3, 3, 9, 44, 3]) (by decide +kernel) hlt hsp hA
    rw [hv2, hps]
    exact hA1

theorem over : Rows.rsAnyRow.holds Try.pinned (OpenSpec.ofChange Rows.rsAnySpec) :=
  OpenClaim.holds_of_wide 5 Try.f5 rfl rfl rfl rfl rfl rfl rfl ⟨rfl, rfl, rfl, rfl, rfl⟩ rfl rfl rfl rfl rfl (by kernel_rfl) Try.func5 (by kernel_rfl)
    (of_decide_eq_true (by kernel_rfl)) (by unfold Func.isWrapper; first | (rw [if_pos (by decide +kernel)]; kernel_rfl) | (rw [if_neg (by decide +kernel)]; exact ⟨rfl, rfl⟩))
    (fun os started H enc _ => lifted os started H enc)

/-- The statement. -/
theorem proved : Rows.RsAnySaid :=
  over
#print axioms proved
end Go.Proofs.Ytmmibaaidfcbhaa.cRsAny
