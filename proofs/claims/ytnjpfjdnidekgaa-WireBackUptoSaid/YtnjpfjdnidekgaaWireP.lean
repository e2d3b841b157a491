/- Contracts of chapter 9: a frame's bytes. -/
import Derived.Test.YtnjpfjdnidekgaaWire
namespace Go.Proofs.Ytnjpfjdnidekgaa
open Go Go.YtnjpfjdnidekgaaAbs
set_option linter.unusedSimpArgs false
set_option linter.unusedVariables false
set_option maxRecDepth 4000

def Fr.ns (f : Fr) : List Int := [f.kind, f.slot, f.inc, f.rid, f.floor, f.role]
def encN (l : List Int) : List UInt8 := (l.map packN).flatten
def Fr.enc (f : Fr) : List UInt8 := encN f.ns ++ packT f.key ++ packN f.ver ++ packT f.data
/-- The bytes, if it is right. -/
def Fr.put (f : Fr) : List UInt8 := if f.R then f.enc else []
theorem encN_snoc (l : List Int) (x : Int) : encN (l ++ [x]) = encN l ++ packN x := by simp [encN]
theorem encN_le (l : List Int) : (encN l).length ≤ 11 * l.length := by
  induction l with
  | nil => exact Nat.zero_le _
  | cons x l ih =>
    have := packN_len x
    have e : encN (x :: l) = packN x ++ encN l := rfl
    rw [e, List.length_append, List.length_cons]
    omega
theorem packT_len (s : ByteArray) : (packT s).length ≤ 11 + s.size := by
  have := packN_len (s.size : Nat)
  unfold packT
  rw [List.length_append, sb_len]
  omega
theorem Fr.put_len {f : Fr} : f.put.length ≤ 1049600 + 500 := by
  unfold Fr.put
  split
  · rename_i h
    obtain ⟨_, _, _, _, h1, h2⟩ := h
    have a := encN_le f.ns
    have b := packT_len f.key
    have c := packN_len f.ver
    have d := packT_len f.data
    have e : f.ns.length = 6 := rfl
    unfold Fr.enc
    rw [List.length_append, List.length_append, List.length_append]
    omega
  · exact Nat.zero_le _
theorem Fr.R_rng {f : Fr} (h : f.R) : ∀ x, x ∈ f.ns → -9223372036854775808 ≤ x ∧ x ≤ 9223372036854775807 := by
  obtain ⟨h1, h2, h3, h4, _⟩ := h
  unfold Fr.nums at h4
  unfold roleR at h3
  intro x hx
  simp [Fr.ns] at hx
  omega

set_option maxHeartbeats 1000000 in
theorem wPut_ok (k : Nat) (hk : 50 < k) (h : Heap) (f : Fr) (hks : f.key.size ≤ maxLen) (hds : f.data.size ≤ maxLen) :
    ∃ v' h', acall Try.prog (k + 3) 6 [.agg f.c] h = some (v', h') ∧ Vec h.next nob 1 f.put.length h' v' (f.put.map bb) ∧ Keep h.next nob h h' := by
  have rw1 : (AV.agg f.c).row1 = some f.c := rfl
  have g1 : (h.new (.cells f.c false)).get h.next = some (.cells f.c false) := get_new_self _ _
  have K1 : Keep h.next nob h (h.new (.cells f.c false)) := Keep.new (Nat.le_refl _) _
  have L := fr_ld g1
  have n1 : h.next < (h.new (.cells f.c false)).next := Nat.lt_succ_self _
  obtain ⟨v2, h2, E2, e2, k2⟩ := wRight_ok k (h.new (.cells f.c false)) f hks hds
  subst e2
  rw [acall_text [9] Try.func6 (by kernel_rfl)]
  refine afuncT_ex rfl (by simp [Try.f6]) ?_
  simp [Try.f6, rw1]
  generalize h.new (.cells f.c false) = h1 at *
  have K2 := K1.trans (k2.weak K1.1 fun _ _ q => q)
  unfold Fr.put
  by_cases hR : f.R
  rotate_left
  · rw [decide_eq_false hR] at E2
    rw [if_neg hR]
    simp [L, E2]
    exact ⟨Vec.nil _ _ _ _, K2⟩
  rw [decide_eq_true hR] at E2
  rw [if_pos hR]
  have rng := Fr.R_rng hR
  have g2 : h2.get h.next = some (.cells f.c false) := (k2.2 _ n1 id).trans g1
  have n2 : h.next < h2.next := Nat.lt_of_lt_of_le n1 k2.1
  have L2 := fr_ld g2
  simp [L, L2, E2, aalloc, afill, AV.row1, AV.row, AV.one]
  obtain ⟨h3, hN⟩ : ∃ h3, h3 = h2.new (.cells [.int .i64 f.kind, .int .i64 f.slot, .int .i64 f.inc, .int .i64 f.rid, .int .i64 f.floor, .int .i64 f.role] false) := ⟨_, rfl⟩
  have S3 : Sl 1 6 h3 (.sl h2.next 0 6 6 1 true) (f.ns.map ii) := by
    rw [hN]
    exact .inr (.inr ⟨h2.next, 0, 6, true, _, false, rfl, Nat.lt_succ_self _, get_new_self _ _, rfl, by simp, rfl, Nat.le_refl _⟩)
  have k3 : Keep h2.next nob h2 h3 := by rw [hN]; exact Keep.new (Nat.le_refl _) _
  rw [← hN]
  have K3 := K2.trans (k3.weak K2.1 fun _ _ q => q)
  have g3 : h3.get h.next = some (.cells f.c false) := (k3.2 _ n2 id).trans g2
  have n3 : h.next < h3.next := Nat.lt_of_lt_of_le n2 k3.1
  clear E2 L L2 rw1 hN
  obtain ⟨v21, hv21⟩ : ∃ v, v = AV.sl h2.next 0 6 6 1 true := ⟨_, rfl⟩
  rw [← hv21] at S3 ⊢
  refine W_cutLoop 0 (fun st => ∃ y, st.t.get 1 = some (.ptr h.next 0) ∧ st.t.get 3 = some y ∧ Keep h3.next nob h3 st.h ∧ Sl 1 (encN f.ns).length st.h y ((encN f.ns).map bb)) ?_ ?_
  · refine W_loop (fun m st => ∃ (n : Nat) (y : AV), m = 6 - n ∧ n ≤ 6 ∧ st.t.get 1 = some (.ptr h.next 0) ∧ st.t.get 3 = some y ∧ st.t.get 21 = some v21 ∧ st.t.get 22 = some (.int .i64 6) ∧ st.t.get 23 = some (.int .i64 (n : Nat)) ∧
      Keep h3.next nob h3 st.h ∧ Sl 1 (encN (f.ns.take n)).length st.h y ((encN (f.ns.take n)).map bb)) 6 (by omega)
      ⟨0, .nils, by simp, by omega, by simp, by simp, by simp [hv21], by simp, by simp, Keep.refl _ _ _, .inl ⟨rfl, by simp [encN], by simp [encN]⟩⟩ ?_
    rintro m ⟨t, h4⟩ ⟨n, y, rfl, hn, q1, q3, q21, q22, q23, K, Y⟩
    simp only at q1 q3 q21 q22 q23 K Y
    by_cases hlt : n < 6
    · obtain ⟨x, hx⟩ : ∃ x, f.ns[n]? = some x := getb (l := f.ns) (j := n) hlt
      have hxr := rng x (List.mem_of_getElem? hx)
      have S4 := S3.ext K
      have ix := S4.idx1 (P := Try.prog) Try.underlying39 ts3 (j := n) hlt .i64
      have ld := S4.ld (P := Try.prog) ta3 (ii_get hx)
      simp only [ii] at ld
      have el := encN_le (f.ns.take n)
      have el2 : (f.ns.take n).length ≤ 6 := by rw [List.length_take]; omega
      obtain ⟨y5, h5, E5, Y5, k5⟩ := packNum_ok k (by omega) h4 y (encN (f.ns.take n)) x Y (by omega) hxr.1 hxr.2
      have Y5 := Y5.sl
      rw [← encN_snoc, show f.ns.take n ++ [x] = f.ns.take (n + 1) by rw [List.take_add_one, hx]; rfl] at Y5
      simp [q1, q3, q21, q22, q23, isLt (show (n : Int) < 6 by omega), ix, ld, E5, i64w ((n : Int) + 1) (by omega) (by omega)]
      exact ⟨6 - (n + 1), by omega, n + 1, rfl, by omega, rfl, K.trans (k5.weak K.1 fun _ _ q => q), Y5⟩
    · have : n = 6 := by omega
      subst this
      simp [q1, q3, q21, q22, q23]
      have e : f.ns.take 6 = f.ns := rfl
      rw [e] at Y
      exact ⟨K, Y⟩
  rintro ⟨t, h4⟩ ⟨y, q1, q3, K, Y⟩
  simp only at q1 q3 K Y
  have K4 := K3.trans (K.weak K3.1 fun _ _ q => q)
  have g4 : h4.get h.next = some (.cells f.c false) := (K.2 _ n3 id).trans g3
  have n4 : h.next < h4.next := Nat.lt_of_lt_of_le n3 K.1
  have el := encN_le f.ns
  have el2 : f.ns.length = 6 := rfl
  obtain ⟨R1, R2, R3, R4, R5, R6⟩ := hR
  unfold Fr.nums at R4
  have c7 := packN_len f.ver
  have c6 := packT_len f.key
  obtain ⟨y5, h5, E5, Y5, k5⟩ := packText_ok k (by omega) h4 y (encN f.ns) f.key Y (by omega) (by omega)
  have Y5 := Y5.sl
  obtain ⟨y6, h6, E6, Y6, k6⟩ := packNum_ok k (by omega) h5 y5 (encN f.ns ++ packT f.key) f.ver Y5 (by rw [List.length_append]; omega) (by omega) (by omega)
  have Y6 := Y6.sl
  obtain ⟨y7, h7, E7, Y7, k7⟩ := packText_ok k (by omega) h6 y6 (encN f.ns ++ packT f.key ++ packN f.ver) f.data Y6 (by rw [List.length_append, List.length_append]; omega) (by omega)
  have g5 : h5.get h.next = some (.cells f.c false) := (k5.2 _ n4 id).trans g4
  have n5 : h.next < h5.next := Nat.lt_of_lt_of_le n4 k5.1
  have g6 : h6.get h.next = some (.cells f.c false) := (k6.2 _ n5 id).trans g5
  have n6 : h.next < h6.next := Nat.lt_of_lt_of_le n5 k6.1
  have K5 := K4.trans (k5.weak K4.1 fun _ _ q => q)
  have K6 := K5.trans (k6.weak K5.1 fun _ _ q => q)
  have K7 := K6.trans (k7.weak K6.1 fun _ _ q => q)
  have L4 := fr_ld g4
  have L5 := fr_ld g5
  have L6 := fr_ld g6
  have Y7' : Vec h.next nob 1 (Fr.enc f).length h7 y7 ((Fr.enc f).map bb) := Y7.weak fun b q => q.elim (fun q => q.elim) fun q => .inr (Nat.le_trans K6.1 q)
  have A5 : Agree h4.next h4 h5 := fun c hc => k5.2 c hc id
  have A6 : Agree h4.next h5 h6 := fun c hc => k6.2 c (Nat.lt_of_lt_of_le hc k5.1) id
  have A7 : Agree h4.next h6 h7 := fun c hc => k7.2 c (Nat.lt_of_lt_of_le hc (Nat.le_trans k5.1 k6.1)) id
  clear g1 g2 g3 g5 g6 n1 n2 n3 n5 n6 k2 k3 S3 rng
  simp
  refine W_drawn h4.next (by rfl) (by kernel_rfl) ?_
  simp [q1, q3, obl, mayEff, mayRead, sameAV, n4, L4, L5, L6, E5, E6, E7, A5, A6, A7]
  exact ⟨Y7', K7⟩

set_option maxHeartbeats 1000000 in
theorem rPut_ok (k : Nat) (hk : 50 < k) (h : Heap) (f : Fr) (hks : f.key.size ≤ maxLen) (hds : f.data.size ≤ maxLen) :
    ∃ v' h', acall Try.prog (k + 3) 11 [.agg f.c] h = some (v', h') ∧ Vec h.next nob 1 f.put.length h' v' (f.put.map bb) ∧ Keep h.next nob h h' := by
  have rw1 : (AV.agg f.c).row1 = some f.c := rfl
  have g1 : (h.new (.cells f.c false)).get h.next = some (.cells f.c false) := get_new_self _ _
  have K1 : Keep h.next nob h (h.new (.cells f.c false)) := Keep.new (Nat.le_refl _) _
  have L := fr_ld g1
  have n1 : h.next < (h.new (.cells f.c false)).next := Nat.lt_succ_self _
  obtain ⟨v2, h2, E2, e2, k2⟩ := rRight_ok (k + 1) (h.new (.cells f.c false)) f hks hds
  subst e2
  rw [acall_text [9] Try.func11 (by kernel_rfl)]
  refine afuncT_ex rfl (by simp [Try.f11]) ?_
  simp [Try.f11, rw1]
  generalize h.new (.cells f.c false) = h1 at *
  have K2 := K1.trans (k2.weak K1.1 fun _ _ q => q)
  unfold Fr.put
  by_cases hR : f.R
  rotate_left
  · rw [decide_eq_false hR] at E2
    rw [if_neg hR]
    simp [L, E2]
    exact ⟨Vec.nil _ _ _ _, K2⟩
  rw [decide_eq_true hR] at E2
  rw [if_pos hR]
  have rng := Fr.R_rng hR
  have g2 : h2.get h.next = some (.cells f.c false) := (k2.2 _ n1 id).trans g1
  have n2 : h.next < h2.next := Nat.lt_of_lt_of_le n1 k2.1
  have L2 := fr_ld g2
  simp [L, L2, E2, aalloc, afill, AV.row1, AV.row, AV.one]
  obtain ⟨h3, hN⟩ : ∃ h3, h3 = h2.new (.cells [.int .i64 f.kind, .int .i64 f.slot, .int .i64 f.inc, .int .i64 f.rid, .int .i64 f.floor, .int .i64 f.role] false) := ⟨_, rfl⟩
  have S3 : Sl 1 6 h3 (.sl h2.next 0 6 6 1 true) (f.ns.map ii) := by
    rw [hN]
    exact .inr (.inr ⟨h2.next, 0, 6, true, _, false, rfl, Nat.lt_succ_self _, get_new_self _ _, rfl, by simp, rfl, Nat.le_refl _⟩)
  have k3 : Keep h2.next nob h2 h3 := by rw [hN]; exact Keep.new (Nat.le_refl _) _
  rw [← hN]
  have K3 := K2.trans (k3.weak K2.1 fun _ _ q => q)
  have g3 : h3.get h.next = some (.cells f.c false) := (k3.2 _ n2 id).trans g2
  have n3 : h.next < h3.next := Nat.lt_of_lt_of_le n2 k3.1
  clear E2 L L2 rw1 hN
  obtain ⟨v21, hv21⟩ : ∃ v, v = AV.sl h2.next 0 6 6 1 true := ⟨_, rfl⟩
  rw [← hv21] at S3 ⊢
  refine W_cutLoop 0 (fun st => ∃ y, st.t.get 1 = some (.ptr h.next 0) ∧ st.t.get 3 = some y ∧ Keep h3.next nob h3 st.h ∧ Sl 1 (encN f.ns).length st.h y ((encN f.ns).map bb)) ?_ ?_
  · refine W_loop (fun m st => ∃ (n : Nat) (y : AV), m = 6 - n ∧ n ≤ 6 ∧ st.t.get 1 = some (.ptr h.next 0) ∧ st.t.get 3 = some y ∧ st.t.get 21 = some v21 ∧ st.t.get 22 = some (.int .i64 6) ∧ st.t.get 23 = some (.int .i64 (n : Nat)) ∧
      Keep h3.next nob h3 st.h ∧ Sl 1 (encN (f.ns.take n)).length st.h y ((encN (f.ns.take n)).map bb)) 6 (by omega)
      ⟨0, .nils, by simp, by omega, by simp, by simp, by simp [hv21], by simp, by simp, Keep.refl _ _ _, .inl ⟨rfl, by simp [encN], by simp [encN]⟩⟩ ?_
    rintro m ⟨t, h4⟩ ⟨n, y, rfl, hn, q1, q3, q21, q22, q23, K, Y⟩
    simp only at q1 q3 q21 q22 q23 K Y
    by_cases hlt : n < 6
    · obtain ⟨x, hx⟩ : ∃ x, f.ns[n]? = some x := getb (l := f.ns) (j := n) hlt
      have hxr := rng x (List.mem_of_getElem? hx)
      have S4 := S3.ext K
      have ix := S4.idx1 (P := Try.prog) Try.underlying39 ts3 (j := n) hlt .i64
      have ld := S4.ld (P := Try.prog) ta3 (ii_get hx)
      simp only [ii] at ld
      have el := encN_le (f.ns.take n)
      have el2 : (f.ns.take n).length ≤ 6 := by rw [List.length_take]; omega
      obtain ⟨y5, h5, E5, Y5, k5⟩ := refNum_ok (k + 1) (by omega) h4 y (encN (f.ns.take n)) x Y (by omega) hxr.1 hxr.2
      have Y5 := Y5.sl
      rw [← encN_snoc, show f.ns.take n ++ [x] = f.ns.take (n + 1) by rw [List.take_add_one, hx]; rfl] at Y5
      simp [q1, q3, q21, q22, q23, isLt (show (n : Int) < 6 by omega), ix, ld, E5, i64w ((n : Int) + 1) (by omega) (by omega)]
      exact ⟨6 - (n + 1), by omega, n + 1, rfl, by omega, rfl, K.trans (k5.weak K.1 fun _ _ q => q), Y5⟩
    · have : n = 6 := by omega
      subst this
      simp [q1, q3, q21, q22, q23]
      have e : f.ns.take 6 = f.ns := rfl
      rw [e] at Y
      exact ⟨K, Y⟩
  rintro ⟨t, h4⟩ ⟨y, q1, q3, K, Y⟩
  simp only at q1 q3 K Y
  have K4 := K3.trans (K.weak K3.1 fun _ _ q => q)
  have g4 : h4.get h.next = some (.cells f.c false) := (K.2 _ n3 id).trans g3
  have n4 : h.next < h4.next := Nat.lt_of_lt_of_le n3 K.1
  have el := encN_le f.ns
  have el2 : f.ns.length = 6 := rfl
  obtain ⟨R1, R2, R3, R4, R5, R6⟩ := hR
  unfold Fr.nums at R4
  have c7 := packN_len f.ver
  have c6 := packT_len f.key
  obtain ⟨y5, h5, E5, Y5, k5⟩ := refText_ok k (by omega) h4 y (encN f.ns) f.key Y (by omega) (by omega)
  have Y5 := Y5.sl
  obtain ⟨y6, h6, E6, Y6, k6⟩ := refNum_ok (k + 1) (by omega) h5 y5 (encN f.ns ++ packT f.key) f.ver Y5 (by rw [List.length_append]; omega) (by omega) (by omega)
  have Y6 := Y6.sl
  obtain ⟨y7, h7, E7, Y7, k7⟩ := refText_ok k (by omega) h6 y6 (encN f.ns ++ packT f.key ++ packN f.ver) f.data Y6 (by rw [List.length_append, List.length_append]; omega) (by omega)
  have g5 : h5.get h.next = some (.cells f.c false) := (k5.2 _ n4 id).trans g4
  have n5 : h.next < h5.next := Nat.lt_of_lt_of_le n4 k5.1
  have g6 : h6.get h.next = some (.cells f.c false) := (k6.2 _ n5 id).trans g5
  have n6 : h.next < h6.next := Nat.lt_of_lt_of_le n5 k6.1
  have K5 := K4.trans (k5.weak K4.1 fun _ _ q => q)
  have K6 := K5.trans (k6.weak K5.1 fun _ _ q => q)
  have K7 := K6.trans (k7.weak K6.1 fun _ _ q => q)
  have L4 := fr_ld g4
  have L5 := fr_ld g5
  have L6 := fr_ld g6
  have Y7' : Vec h.next nob 1 (Fr.enc f).length h7 y7 ((Fr.enc f).map bb) := Y7.weak fun b q => q.elim (fun q => q.elim) fun q => .inr (Nat.le_trans K6.1 q)
  have A5 : Agree h4.next h4 h5 := fun c hc => k5.2 c hc id
  have A6 : Agree h4.next h5 h6 := fun c hc => k6.2 c (Nat.lt_of_lt_of_le hc k5.1) id
  have A7 : Agree h4.next h6 h7 := fun c hc => k7.2 c (Nat.lt_of_lt_of_le hc (Nat.le_trans k5.1 k6.1)) id
  clear g1 g2 g3 g5 g6 n1 n2 n3 n5 n6 k2 k3 S3 rng
  simp
  refine W_drawn h4.next (by rfl) (by kernel_rfl) ?_
  simp [q1, q3, obl, mayEff, mayRead, sameAV, n4, L4, L5, L6, E5, E6, E7, A5, A6, A7]
  exact ⟨Y7', K7⟩
end Go.Proofs.Ytnjpfjdnidekgaa
