/- The law PackBack returns true for every input, and its input reads behind the call as it did; no conditions. The kit's model is followed by an abstract machine that is shown to tell what the model does; the contracts of the functions are proved over that machine. -/
import Derived.Test.YtadopcddagkhbaaRows
import Derived.Test.YtadopcddagkhbaaRuns
import Derived.Test.YtadopcddagkhbaaBack
import Derived.Test.YtadopcddagkhbaaBook
import Derived.WalkKit
import Derived.ProofKit
import Derived.OpenShut
import Derived.JoinedCond
namespace Go.Proofs.Ytadopcddagkhbaa.cPackBack
open Go Go.ChangeShapes Go.WideShapes Go.ChangeAt Go.RowKit Go.YtadopcddagkhbaaAbs
set_option linter.unusedSimpArgs false
set_option linter.unusedVariables false

set_option maxRecDepth 4000
/-- Its block is behind b. -/
def Above (b : Nat) (y : AV) : Prop := ∀ c i n k s x, y = .sl c i n k s x → b < c
theorem encL_snoc (l : List (Int × List UInt8)) (x : Int × List UInt8) : encL (l ++ [x]) = encL l ++ encP x := by simp [encL]
theorem pairs_succ {a0 : List Int} {a1 : List ByteArray} {n : Nat} {x : Int} {s : ByteArray} (hx : a0[n]? = some x) (hs : a1[n]? = some s) : pairs a0 a1 (n + 1) = pairs a0 a1 n ++ [(x, sb (cut100 s))] := by
  unfold pairs
  rw [List.take_add_one, List.getElem?_zipWith, hx, hs]
  rfl
theorem pairs_ok {a0 : List Int} {a1 : List ByteArray} {n : Nat} (h : ∀ x ∈ a0, -9223372036854775808 ≤ x ∧ x ≤ 9223372036854775807) : ∀ x ∈ pairs a0 a1 n, PairOk x := by
  intro x hx
  unfold pairs at hx
  have hx := List.mem_of_mem_take hx
  obtain ⟨j, hj⟩ := List.getElem?_of_mem hx
  rw [List.getElem?_zipWith] at hj
  cases h0 : a0[j]? with
  | none => rw [h0] at hj; cases hj
  | some y =>
    cases h1 : a1[j]? with
    | none => rw [h0, h1] at hj; cases hj
    | some s =>
      rw [h0, h1] at hj
      simp at hj
      subst hj
      obtain ⟨r1, r2⟩ := h y (List.mem_of_getElem? h0)
      refine ⟨r1, r2, ?_⟩
      simp only [sb_len]
      exact cut100_le s
set_option maxHeartbeats 4000000 in
theorem law_run (k : Nat) (hk : 3000 < k) (h : Heap) (v0 : AV) (a0 : (List Int)) (w0 : SlA (kInt .i64) h v0 a0) (v1 : AV) (a1 : (List ByteArray)) (w1 : SlA kStr h v1 a1) (v2 : AV) (a2 : (List UInt8)) (w2 : SlA kByte h v2 a2) (a3 : Int) (w3 : (Lit.int .i64 a3).wf = true) :
    ∃ v h', afuncT Try.prog [] (orRuns 3 (acall Try.prog (k + 10))) (k + 10) Try.f6 [v0, v1, v2, .int .i64 a3] h = some (v, h') ∧ v = .bool true := by
  obtain ⟨s0, r0⟩ := sla_ints w0
  obtain ⟨s1, r1⟩ := sla_strs w1
  have s2 := sla_bytes w2
  obtain ⟨B, hB⟩ : ∃ B, B = h.next := ⟨_, rfl⟩
  obtain ⟨N, hN⟩ : ∃ N, N = min (min a0.length a1.length) 12 := ⟨_, rfl⟩
  refine afuncT_ex rfl (by simp [Try.f6]) ?_
  have o0 := row1_one s0.oneV
  have o1 := row1_one s1.oneV
  simp [Try.f6, o0, o1]
  have al : alay (((h.new (AO.cells [v0] false)).new (AO.cells [v1] false)).new (AO.cells [AV.int IntKind.i64 0] false)) (h.next + 1 + 1) 0 [AV.int IntKind.i64 0] = some (((h.new (AO.cells [v0] false)).new (AO.cells [v1] false)).new (AO.cells [AV.int IntKind.i64 0] false)) :=
    alay_new (h := (h.new (AO.cells [v0] false)).new (AO.cells [v1] false)) rfl
  rw [al]
  have k1 : Keep h.next nob h (((h.new (AO.cells [v0] false)).new (AO.cells [v1] false)).new (AO.cells [AV.int IntKind.i64 0] false)) :=
    ((Keep.new (Nat.le_refl _) _).trans (Keep.new (Nat.le_succ _) _)).trans (Keep.new (Nat.le_trans (Nat.le_succ _) (Nat.le_succ _)) _)
  have g4 : (((h.new (AO.cells [v0] false)).new (AO.cells [v1] false)).new (AO.cells [AV.int IntKind.i64 0] false)).get B = some (.cells [v0] false) := by
    rw [get_new_old (by simp; omega), get_new_old (by simp; omega), hB, get_new_self]
  have g5 : (((h.new (AO.cells [v0] false)).new (AO.cells [v1] false)).new (AO.cells [AV.int IntKind.i64 0] false)).get (B + 1) = some (.cells [v1] false) := by
    rw [get_new_old (by simp; omega)]
    rw [hB]
    exact get_new_self _ _
  have g10 : (((h.new (AO.cells [v0] false)).new (AO.cells [v1] false)).new (AO.cells [AV.int IntKind.i64 0] false)).get (B + 2) = some (.cells [.int .i64 0] false) := by
    rw [hB]
    exact get_new_self _ _
  have nx : B + 2 < (((h.new (AO.cells [v0] false)).new (AO.cells [v1] false)).new (AO.cells [AV.int IntKind.i64 0] false)).next := by simp; omega
  generalize (((h.new (AO.cells [v0] false)).new (AO.cells [v1] false)).new (AO.cells [AV.int IntKind.i64 0] false)) = h1 at k1 g4 g5 g10 nx
  simp
  rw [← hB, show B + 1 + 1 = B + 2 from rfl]
  refine W_cutLoop 0 (fun st => ∃ (y : AV), st.t.get 2 = some v2 ∧ st.t.get 3 = some (.int .i64 a3) ∧ st.t.get 4 = some (.ptr B 0) ∧ st.t.get 5 = some (.ptr (B + 1) 0) ∧ st.t.get 10 = some (.ptr (B + 2) 0) ∧ st.t.get 9 = some y ∧
      Keep h.next nob h st.h ∧ st.h.get B = some (.cells [v0] false) ∧ st.h.get (B + 1) = some (.cells [v1] false) ∧ st.h.get (B + 2) = some (.cells [.int .i64 (N : Nat)] false) ∧ B + 2 < st.h.next ∧
      Sl 1 (encL (pairs a0 a1 N)).length st.h y ((encL (pairs a0 a1 N)).map bb) ∧ (encL (pairs a0 a1 N)).length ≤ N * 122) ?_ ?_
  · refine W_loop (fun m st => ∃ (n : Nat) (y : AV), m = N - n ∧ n ≤ N ∧ st.t.get 2 = some v2 ∧ st.t.get 3 = some (.int .i64 a3) ∧ st.t.get 4 = some (.ptr B 0) ∧ st.t.get 5 = some (.ptr (B + 1) 0) ∧ st.t.get 10 = some (.ptr (B + 2) 0) ∧ st.t.get 9 = some y ∧
      Keep h.next nob h st.h ∧ st.h.get B = some (.cells [v0] false) ∧ st.h.get (B + 1) = some (.cells [v1] false) ∧ st.h.get (B + 2) = some (.cells [.int .i64 (n : Nat)] false) ∧ B + 2 < st.h.next ∧
      Sl 1 (encL (pairs a0 a1 n)).length st.h y ((encL (pairs a0 a1 n)).map bb) ∧ Above (B + 2) y ∧ (encL (pairs a0 a1 n)).length ≤ n * 122) N (by omega)
      ⟨0, .nils, by simp, by omega, rfl, rfl, rfl, rfl, rfl, rfl, k1, g4, g5, g10, nx, .inl ⟨rfl, by simp [pairs, encL], by simp [pairs, encL]⟩, (fun _ _ _ _ _ _ q => by cases q), by simp [pairs, encL]⟩ ?_
    rintro m ⟨t, h2⟩ ⟨n, y, rfl, hn, q2, q3, q4, q5, q10, q9, hK, G4, G5, G10, hnx, Y, hy, hL⟩
    simp only at q2 q3 q4 q5 q10 q9 hK G4 G5 G10 hnx Y
    have L4 := ldc (P := Try.prog) (ty := 40) G4 ta40 (i := 0) rfl
    have L5 := ldc (P := Try.prog) (ty := 41) G5 ta41 (i := 0) rfl
    have L10 := ldc (P := Try.prog) (ty := 3) G10 ta3 (i := 0) rfl
    have T0 := s0.ext hK
    have T1 := s1.ext hK
    by_cases hlt : n < N
    · obtain ⟨x, hx⟩ := getb (l := a0) (j := n) (by omega)
      obtain ⟨s, hs⟩ := getb (l := a1) (j := n) (by omega)
      have ix0 := T0.idx1 (P := Try.prog) Try.underlying40 ts3 (j := n) (by omega) .i64
      have ix1 := T1.idx1 (P := Try.prog) Try.underlying41 ts9 (j := n) (by omega) .i64
      have ld0 := T0.ld (P := Try.prog) ta3 (ii_get hx)
      have ld1 := T1.ld (P := Try.prog) ta9 (ss_get hs)
      simp only [ii, ss] at ld0 ld1
      have hx0 := r0 x (List.mem_of_getElem? hx)
      simp [q2, q3, q4, q5, q10, q9, L4, L5, L10, T0.len', T1.len', isLt (show (n : Int) < (a0.length : Int) by omega), isLt (show (n : Int) < (a1.length : Int) by omega), isLt (show (n : Int) < 12 by omega), ix1, ld1, -W_regionR0, W_stop 6]
      simp [-W_cond]
      refine W_cutN (fun st => st.h = h2 ∧ st.t.get 2 = some v2 ∧ st.t.get 3 = some (.int .i64 a3) ∧ st.t.get 4 = some (.ptr B 0) ∧ st.t.get 5 = some (.ptr (B + 1) 0) ∧ st.t.get 10 = some (.ptr (B + 2) 0) ∧ st.t.get 9 = some y ∧ st.t.get 11 = some (.str (cut100 s))) ?_ ?_
      · unfold cut100
        by_cases hc : s.size ≤ 100
        · simp [q2, q3, q4, q5, q10, q9, isLe (show (s.size : Int) ≤ 100 by omega), hc]
        · simp [q2, q3, q4, q5, q10, q9, isLt (show (100 : Int) < (s.size : Int) by omega), hc, aslice_strTo Try.underlying9 (s := s) (k := .i64) (n := 100) (by omega) (by omega)]
      · rintro ⟨t2, h3⟩ ⟨e3, q2, q3, q4, q5, q10, q9, q11⟩
        obtain rfl : h3 = h2 := e3
        simp only at q2 q3 q4 q5 q10 q9 q11
        simp [q2, q3, q4, q5, q10, q9, q11, L4, L5, L10, ix0, ld0]
        refine use (packNum_ok (k + 8) (by omega) h3 y (encL (pairs a0 a1 n)) x Y (by omega) hx0.1 hx0.2) ?_
        intro y1 h4 hq
        have Y1 := hq.1
        have k4 := hq.2
        clear hq
        have c100 := cut100_le s
        have pl := packN_len x
        simp [q11]
        refine use (packText_ok (k + 8) (by omega) h4 y1 (encL (pairs a0 a1 n) ++ packN x) (cut100 s) Y1.sl (by rw [List.length_append]; omega) (by omega)) ?_
        intro y2 h5 hq
        have Y2 := hq.1
        have k5 := hq.2
        clear hq
        have kk : Keep h3.next nob h3 h5 := k4.trans (k5.weak k4.1 fun _ _ q => q)
        have G4' : h5.get B = some (.cells [v0] false) := (kk.2 B (by omega) id).trans G4
        have G5' : h5.get (B + 1) = some (.cells [v1] false) := (kk.2 (B + 1) (by omega) id).trans G5
        have G10' : h5.get (B + 2) = some (.cells [.int .i64 (n : Nat)] false) := (kk.2 (B + 2) (by omega) id).trans G10
        have nx5 : B + 2 < h5.next := by have := kk.1; omega
        have L10' := ldc (P := Try.prog) (ty := 3) G10' ta3 (i := 0) rfl
        have w8 := i64w ((n : Int) + 1) (by omega) (by omega)
        have a10 : alay h5 (B + 2) 0 [.int .i64 ((n : Int) + 1)] = some (h5.set (B + 2) (.cells [.int .i64 ((n + 1 : Nat) : Int)] false)) := by
          unfold alay; rw [G10']; rfl
        have E : encL (pairs a0 a1 (n + 1)) = encL (pairs a0 a1 n) ++ packN x ++ packT (cut100 s) := by
          rw [pairs_succ hx hs, encL_snoc]
          unfold encP packT
          simp only [sb_len, List.append_assoc]
        have Y3 := Y2.sl
        have lt3 : Above (B + 2) y2 := by
          rintro c i n' k' s' x' rfl
          rcases Y2 with ⟨q, _⟩ | ⟨b', i', cap, ex, c', q, q2, _⟩
          · cases q
          · cases q
            rcases q2 with q2 | q2
            · exact q2.elim
            · have := k4.1; omega
        rw [← E] at Y3
        have kS : Keep (B + 3) (fun c => c = B + 2) h5 (h5.set (B + 2) (.cells [.int .i64 ((n + 1 : Nat) : Int)] false)) := Keep.set (F := fun c => c = B + 2) (.inl rfl) _
        have Y4 : Sl 1 (encL (pairs a0 a1 (n + 1))).length (h5.set (B + 2) (.cells [.int .i64 ((n + 1 : Nat) : Int)] false)) y2 ((encL (pairs a0 a1 (n + 1))).map bb) :=
          Y3.keep (m := h5.next) (F := fun c => c = B + 2) (Keep.set (F := fun c => c = B + 2) (.inl rfl) _) fun c i n k s x q => ⟨sl_lt Y3 c i n k s x q, fun q' => by have := lt3 c i n k s x q; have q' : c = B + 2 := q'; omega⟩
        have K5 : Keep h.next nob h (h5.set (B + 2) (.cells [.int .i64 ((n + 1 : Nat) : Int)] false)) := (hK.trans (kk.weak hK.1 fun _ _ q => q)).trans (Keep.set (.inr (by omega)) _)
        have E4 : (h5.set (B + 2) (.cells [.int .i64 ((n + 1 : Nat) : Int)] false)).get B = some (.cells [v0] false) := by rw [get_set_ne (by omega)]; exact G4'
        have E5 : (h5.set (B + 2) (.cells [.int .i64 ((n + 1 : Nat) : Int)] false)).get (B + 1) = some (.cells [v1] false) := by rw [get_set_ne (by omega)]; exact G5'
        have E10 : (h5.set (B + 2) (.cells [.int .i64 ((n + 1 : Nat) : Int)] false)).get (B + 2) = some (.cells [.int .i64 ((n + 1 : Nat) : Int)] false) := get_set_self _ _ _
        have NX : B + 2 < (h5.set (B + 2) (.cells [.int .i64 ((n + 1 : Nat) : Int)] false)).next := nx5
        have LL : (encL (pairs a0 a1 (n + 1))).length ≤ (n + 1) * 122 := by
          rw [E, List.length_append, List.length_append]
          have := packN_len (cut100 s).size
          unfold packT
          rw [List.length_append, sb_len]
          omega
        generalize h5.set (B + 2) (.cells [.int .i64 ((n + 1 : Nat) : Int)] false) = h6 at a10 Y4 K5 E4 E5 E10 NX
        simp [q2, q3, q4, q5, q10, q9, q11, L10', w8, a10]
        exact ⟨N - (n + 1), by omega, n + 1, rfl, by omega, K5, E4, E5, E10, NX, Y4, lt3, LL⟩
    · obtain rfl : n = N := by omega
      by_cases c1 : n < a0.length
      · by_cases c2 : n < a1.length
        · simp [q2, q3, q4, q5, q10, q9, L4, L5, L10, T0.len', T1.len', isLt (show (n : Int) < (a0.length : Int) by omega), isLt (show (n : Int) < (a1.length : Int) by omega), isLe (show (12 : Int) ≤ (n : Int) by omega)]
          exact ⟨hK, G4, G5, G10, hnx, Y, hL⟩
        · simp [q2, q3, q4, q5, q10, q9, L4, L5, L10, T0.len', T1.len', isLt (show (n : Int) < (a0.length : Int) by omega), isLe (show (a1.length : Int) ≤ (n : Int) by omega)]
          exact ⟨hK, G4, G5, G10, hnx, Y, hL⟩
      · simp [q2, q3, q4, q5, q10, q9, L4, L5, L10, T0.len', T1.len', isLe (show (a0.length : Int) ≤ (n : Int) by omega)]
        exact ⟨hK, G4, G5, G10, hnx, Y, hL⟩
  rintro ⟨t, h2⟩ ⟨y, q2, q3, q4, q5, q10, q9, hK, G4, G5, G10, hnx, Y, hL⟩
  simp only at q2 q3 q4 q5 q10 q9 hK G4 G5 G10 hnx Y
  have T2 := s2.ext hK
  have hok := pairs_ok (a1 := a1) (n := N) r0
  have hall := readA_all (pairs a0 a1 N)
  have hcut := readA_cut (pairs a0 a1 N)
  obtain ⟨L, hLe⟩ : ∃ L, L = encL (pairs a0 a1 N) := ⟨_, rfl⟩
  rw [← hLe] at Y hL
  obtain ⟨M, hM⟩ : ∃ M, M = a2.take 50 := ⟨_, rfl⟩
  have hMl : M.length = min 50 a2.length := by rw [hM, List.length_take]
  simp [q2, q3, q4, q5, q10, q9, -W_regionR0, W_stop 10]
  simp [-W_cond, q2, T2.len']
  refine W_cutN (fun st => ∃ z, st.h = h2 ∧ st.t.get 2 = some z ∧ st.t.get 3 = some (.int .i64 a3) ∧ st.t.get 9 = some y ∧ st.t.get 12 = some (.fn 20 [.ptr (B + 2) 0, .ptr (B + 1) 0, .ptr B 0]) ∧ Sl 1 M.length h2 z (M.map bb)) ?_ ?_
  · by_cases hc : a2.length ≤ 50
    · have : M = a2 := by rw [hM, List.take_of_length_le hc]
      rw [this]
      simp [q2, q3, q4, q5, q10, q9, isLe (show (a2.length : Int) ≤ 50 by omega)]
      exact T2
    · obtain ⟨z, z1, Z⟩ := T2.to (P := Try.prog) (ty := 23) Try.underlying23 ts5 (k := .i64) (j := 50) (by omega)
      rw [Nat.mul_one, ← List.map_take, ← hM] at Z
      have z1 : aslice Try.prog 23 v2 none (some (.int .i64 50)) none = some z := z1
      simp [q2, q3, q4, q5, q10, q9, isLt (show (50 : Int) < (a2.length : Int) by omega), z1]
      rw [show M.length = 50 by omega]
      exact Z
  rintro ⟨t2, h3⟩ ⟨z, e3, q2, q3, q9, q12, Z⟩
  obtain rfl : h3 = h2 := e3
  simp only at q2 q3 q9 q12
  have V0 : Vec h3.next nob 1 0 (h3.new (.cells [] false)) (.sl h3.next 0 0 0 1 true) [] :=
    .inr ⟨h3.next, 0, 0, true, [], rfl, .inr (Nat.le_refl _), Nat.lt_succ_self _, get_new_self _ _, rfl, by simp, Nat.le_refl _, by simp, rfl⟩
  have Y' := Y.new (.cells [] false)
  simp [q2, q3, q9, q12, aalloc, afill]
  refine use (vec_append el23 (xt := 23) (by rw [Try.underlying23]; rfl) V0 Y'.alen Y'.acells (bb_one L) (by simp) (by omega) (Nat.le_succ _)) ?_
  intro y1 h4 hq
  have V4 := hq.1
  have k4 := hq.2
  clear hq
  have k4' := (Keep.new (Nat.le_refl h3.next) (.cells [] false)).trans k4
  have Z' := Z.ext k4'
  simp [q2, q3, q9, q12]
  refine use (vec_append el23 (xt := 23) (by rw [Try.underlying23]; rfl) V4 Z'.alen Z'.acells (bb_one M) (by simp) (by omega) k4'.1) ?_
  intro y2 h5 hq
  have V5 := hq.1
  have k5 := hq.2
  clear hq
  have k5' := k4'.trans k5
  rw [List.nil_append, ← List.map_append, show 0 + L.length + M.length = (L ++ M).length by simp] at V5
  have S5 := V5.sl
  have K5 := hK.trans (k5'.weak hK.1 fun _ _ q => q)
  have g4 : h5.get B = some (.cells [v0] false) := (k5'.2 B (by omega) id).trans G4
  have g5 : h5.get (B + 1) = some (.cells [v1] false) := (k5'.2 (B + 1) (by omega) id).trans G5
  have g10 : h5.get (B + 2) = some (.cells [.int .i64 (N : Nat)] false) := (k5'.2 (B + 2) (by omega) id).trans G10
  have n5 : h3.next ≤ h5.next := k5'.1
  simp [q2, q3, q9, q12]
  refine use (readP_ok (k + 4) (by omega) h5 y2 v0 v1 (L ++ M) a0 a1 N B (B + 1) (B + 2) S5 (s0.ext K5) (s1.ext K5) g4 g5 g10 (by omega) (by omega) (by omega) (by omega) (by omega) (by omega) (by rw [List.length_append]; omega)) ?_
  intro r h6 hq
  have er := hq.1
  have k6 := hq.2
  clear hq
  have R1 := hall (L ++ M) 0 M hok (by rw [List.drop_zero, hLe])
  rw [R1] at er
  simp only [Nat.zero_add, ← hLe] at er
  have er : r = .tup [.bool true, .int .i64 (if M = [] then 0 else 5)] := by
    rw [er]
    unfold rdEnd
    by_cases hm : M = []
    · rw [if_pos hm, if_neg (by rw [hm]; simp)]
      rfl
    · rw [if_neg hm, if_pos ⟨rfl, by rw [List.length_append]; have := List.length_pos_iff.2 hm; omega⟩]
      rfl
  subst er
  have Z6 := (Z.ext k5').ext k6
  have Y6 := (Y.ext k5').ext k6
  simp [q2, q3, q9, q12, Z6.len', -W_cond]
  refine W_cutN (fun st => st.h = h6 ∧ st.t.get 3 = some (.int .i64 a3) ∧ st.t.get 9 = some y ∧ st.t.get 12 = some (.fn 20 [.ptr (B + 2) 0, .ptr (B + 1) 0, .ptr B 0]) ∧ st.t.get 13 = some (.bool true) ∧ st.t.get 14 = some (.int .i64 (if M = [] then 0 else 5)) ∧ st.t.get 15 = some (.int .i64 (if M = [] then 0 else 5))) ?_ ?_
  · by_cases hm : M = []
    · simp [q2, q3, q9, q12, hm]
    · have hm' : 0 < M.length := List.length_pos_iff.2 hm
      simp [q2, q3, q9, q12, hm]
  rintro ⟨t3, h7⟩ ⟨e7, q3, q9, q12, q13, q14, q15⟩
  obtain rfl : h7 = h6 := e7
  simp only at q3 q9 q12 q13 q14 q15
  generalize (if M = [] then (0 : Int) else 5) = e5 at q14 q15
  have K7 := K5.trans (k6.weak K5.1 fun _ _ q => q)
  have n7 : h5.next ≤ h7.next := k6.1
  have e1 : acall Try.prog (k + 10) 23 [.int .i64 a3, .int .i64 0, .int .i64 (L.length : Nat)] h7 = _ := within_ok (k + 9) a3 0 (L.length : Nat) (by omega) (by omega) (by omega) h7
  have b1 : 0 ≤ a3 % ((L.length : Nat) - 0 + 1) := Int.emod_nonneg _ (by omega)
  have b2 : a3 % ((L.length : Nat) - 0 + 1) < (L.length : Nat) - 0 + 1 := Int.emod_lt_of_pos _ (by omega)
  generalize a3 % ((L.length : Nat) - 0 + 1) = q at e1 b1 b2
  obtain ⟨c, hc⟩ := Int.eq_ofNat_of_zero_le (show 0 ≤ 0 + q by omega)
  rw [hc] at e1
  have hcl : c ≤ L.length := by omega
  obtain ⟨x, x1, X⟩ := Y6.to (P := Try.prog) (ty := 23) Try.underlying23 ts5 (k := .i64) (j := c) hcl
  rw [Nat.mul_one, ← List.map_take] at X
  have lc : (L.take c).length = c := by rw [List.length_take]; omega
  simp [q3, q9, q12, q13, q14, q15, Y6.len', e1, x1]
  refine use (readP_ok (k + 4) (by omega) h7 x v0 v1 (L.take c) a0 a1 N B (B + 1) (B + 2) (by rw [lc]; exact X) (s0.ext K7) (s1.ext K7) ((k6.2 B (by omega) id).trans g4) ((k6.2 (B + 1) (by omega) id).trans g5) ((k6.2 (B + 2) (by omega) id).trans g10) (by omega) (by omega) (by omega) (by omega) (by omega) (by omega) (by omega)) ?_
  intro r h8 hq
  have er := hq.1
  have k8 := hq.2
  clear hq
  have Y8 := Y6.ext k8
  obtain ⟨ok, f, rfl, hf⟩ : ∃ ok f, r = .tup [.bool ok, .int .i64 f] ∧ (decide (f = 0) = decide ((c : Int) = (L.length : Nat))) := by
    refine ⟨_, _, er, ?_⟩
    by_cases hcc : c = L.length
    · have ht : L.take c = L := List.take_of_length_le (by omega)
      rw [ht, hall L 0 [] hok (by rw [List.drop_zero, hLe, List.append_nil]), ← hLe]
      unfold rdEnd
      simp [hcc]
    · have hd : L.drop c ≠ [] := by
        intro q
        have := congrArg List.length q
        rw [List.length_drop] at this
        simp at this
        omega
      have := hcut (L.take c) 0 (L.drop c) hok (by rw [List.drop_zero, List.take_append_drop, hLe]) hd
      unfold rdEnd
      rw [if_neg (fun q => this q.1)]
      have h2 : ¬ ((c : Int) = (L.length : Nat)) := by omega
      simp [this, h2]
  simp [q3, q9, q12, q13, q14, q15, Y8.len', hf]


theorem own : ownKnob Try.prog.godebug = none := by kernel_rfl
theorem laid : laidOutB Try.prog = true := by kernel_rfl

set_option maxRecDepth 100000 in
theorem lifted (os : Os) (started : os.Started) (H : Type) (enc : TypeId × Value → H) :
    ReturnsInHanded {} Try.checked os 6 .any (Rows.packBackSpec.pre6 enc Try.prog Try.f6 Rows.packBackRow.domain false) (Rows.packBackSpec.post enc Try.prog Try.f6 false true false false) := by
  refine returnsInHanded_of_change (C := Try.checked) own started (by kernel_rfl) Try.func6
    (ChangeSpec.witness6 (enc := enc) (C := Try.checked) false ⟨#[], #[.slice none 0 0, .slice none 0 0, .slice none 0 0, .int .i64 0], []⟩ 8 (by kernel_rfl) (by kernel_rfl) (by kernel_rfl) (by kernel_rfl)) ?_
  intro W base args ds gs before hval0 hW hcnd _
  have hval : ∀ (j : Nat) t v, Try.f6.params.toList[j]? = some t → args.toList[j]? = some v → Value.okWide Try.prog W .any base t v := fun j t v h1 h2 => hval0 j t v (by simpa using h1) (by simpa using h2)
  have hW' := hW
  obtain ⟨p, q, hA0, hV, rfl, hfz, hnd⟩ := hW
  have hA : DataW.TrodAll enc Try.prog W 0 (fun _ => true) true Try.f6.params.toList args.toList ds p := hA0
  obtain ⟨rfl, rfl⟩ := trodVars_none hV
  have hlt : ∀ x ∈ p, x.block < W.heap.size := fun x hx => hW'.lt x (by simp [hx])
  have hps : Try.f6.params.toList = [40, 41, 23, 3] := by rw [Try.params6]
  rw [hps] at hA hval
  obtain ⟨m, h, avs, x, g1, _, _, g2, g3, g4⟩ := (good_as1 (good_slice Try.underlying40 (by kernel_rfl) (by decide) (good_int Try.underlying3 (by kernel_rfl))) rfl (by kernel_rfl) (good_as1 (good_slice Try.underlying41 (by kernel_rfl) (by decide) (good_str Try.underlying9 (by kernel_rfl))) rfl (by kernel_rfl) (good_as1 (good_slice Try.underlying23 (by kernel_rfl) (by decide) (good_byte Try.underlying5 (by kernel_rfl))) rfl (by kernel_rfl) (good_as1 (good_int Try.underlying3 (by kernel_rfl)) rfl (by kernel_rfl) good_as0)))) H enc W base args.toList ds p hval hA _ _ (HRo.start W)
  obtain ⟨a0, a1, a2, a3, _⟩ := x
  obtain ⟨v0, _, rfl, ⟨u0, e0, w0⟩, ⟨v1, _, rfl, ⟨u1, e1, w1⟩, ⟨v2, _, rfl, ⟨u2, e2, w2⟩, ⟨_, _, rfl, ⟨e3, w3⟩, rfl⟩⟩⟩⟩ := g3
  obtain rfl := (List.cons.inj e0).1
  obtain rfl := (List.cons.inj e1).1
  obtain rfl := (List.cons.inj e2).1
  obtain rfl := (List.cons.inj e3).1
  have hcall := law_any mixed (k := 4000 + 10) Try.func6 (by kernel_rfl) runs_ok g1 g2 (law_run 4000 (by decide) h v0 a0 w0 v1 a1 w1 v2 a2 w2 a3 w3)
  refine hcall.mono fun e W' ⟨he, hg⟩ => ?_
  subst he
  simp only [List.append_nil] at hW' hA0 ⊢
  have hlen : ds.length = 4 := trodAll_len hA
  have hvars : (Rows.packBackSpec.fn H (ds ++ [])).vars = [] ∧ (Rows.packBackSpec.fn H (ds ++ [])).args = ds ∧ (Rows.packBackSpec.fn H (ds ++ [])).results = [.lit (.bool true)] := by
    rw [List.append_nil]
    match ds, hlen with
    | [d0, d1, d2, d3], _ => exact ⟨rfl, rfl, rfl⟩
  obtain ⟨hv1, hv2, hv3⟩ := hvars
  refine ⟨_, rfl, law_post hW' rfl hg (fun _ _ _ => ?_) (fun sp hsp => ?_) hv1
    (ok_one (by kernel_rfl) rfl (okWide_bool_mk Try.underlying4 _))⟩
  · rw [hv3]
    exact (trodAll_cons_mk (shut_bool Try.underlying4 _) trodAll_mk0)
  · have hA1 := trodAll_below laid hg sp (ts := [40, 41, 23, 3]) (by decide +kernel) hlt hsp hA
    rw [hv2, hps]
    exact hA1

theorem over : Rows.packBackRow.holds Try.pinned (OpenSpec.ofChange Rows.packBackSpec) :=
  OpenClaim.holds_of_wide 6 Try.f6 rfl rfl rfl rfl rfl rfl rfl ⟨rfl, rfl, rfl, rfl, rfl⟩ rfl rfl rfl rfl rfl (by kernel_rfl) Try.func6 (by kernel_rfl)
    (of_decide_eq_true (by kernel_rfl)) (by unfold Func.isWrapper; first | (rw [if_pos (by decide +kernel)]; kernel_rfl) | (rw [if_neg (by decide +kernel)]; exact ⟨rfl, rfl⟩))
    (fun os started H enc _ => lifted os started H enc)

/-- The statement. -/
theorem proved : Rows.PackBackSaid :=
  over
#print axioms proved
end Go.Proofs.Ytadopcddagkhbaa.cPackBack
