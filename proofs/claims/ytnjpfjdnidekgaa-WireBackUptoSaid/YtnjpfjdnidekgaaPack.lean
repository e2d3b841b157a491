/- Contracts of chapter 4's writers. -/
import Derived.Test.YtnjpfjdnidekgaaRoomy
namespace Go.Proofs.Ytnjpfjdnidekgaa
open Go Go.YtnjpfjdnidekgaaAbs
set_option linter.unusedSimpArgs false
set_option linter.unusedVariables false
set_option maxRecDepth 4000

/-- A number in groups of seven bits, the lowest first. -/
def vint : Nat → Nat → List UInt8
  | 0, u => [UInt8.ofNat u]
  | f + 1, u => if u < 128 then [UInt8.ofNat u] else UInt8.ofNat (u % 128 + 128) :: vint f (u / 128)
/-- Numbers without a sign. -/
def zig (n : Int) : Nat := if 0 ≤ n then 2 * n.toNat else (-2 * n - 1).toNat
def packN (n : Int) : List UInt8 := vint 10 (zig n)
theorem vint_len : ∀ f u, (vint f u).length ≤ f + 1
  | 0, u => by simp [vint]
  | f + 1, u => by
    simp only [vint]
    split
    · simp
    · have := vint_len f (u / 128)
      simp
      omega
theorem vint_pos : ∀ f u, 1 ≤ (vint f u).length
  | 0, u => by simp [vint]
  | f + 1, u => by
    simp only [vint]
    split <;> simp
theorem zig_lt {n : Int} (h : -9223372036854775808 ≤ n) (h' : n ≤ 9223372036854775807) : zig n < 18446744073709551616 := by
  unfold zig
  split <;> omega
theorem xor_ones {x : Nat} (h : x < 18446744073709551616) : x ^^^ 18446744073709551615 = 18446744073709551615 - x := by
  have e := congrArg BitVec.toNat (BitVec.xor_allOnes (x := BitVec.ofNat 64 x))
  rw [BitVec.toNat_xor, BitVec.toNat_not, BitVec.toNat_ofNat, BitVec.toNat_allOnes] at e
  have hx : x % 2 ^ 64 = x := Nat.mod_eq_of_lt (by omega)
  rw [hx] at e
  simpa using e
theorem u64m {x : Nat} (h : x < 18446744073709551616) : x % modulus .u64 = x := Nat.mod_eq_of_lt h
theorem u64w {x : Nat} (h : x < 18446744073709551616) : fwrap .u64 (x : Int) = (x : Nat) := by
  simp [fwrap] <;> omega
theorem u64neg {n : Int} (h : -9223372036854775808 ≤ n) (h' : n < 0) : fwrap .u64 n = n + 18446744073709551616 := by
  rw [fwrap_eq]
  simp [IntKind.wrap, IntKind.signed, IntKind.bits]
  omega

theorem grown_ok (k : Nat) (h : Heap) (v : AV) (l : List UInt8) (g : Nat) (r : Sl 1 l.length h v (l.map bb)) (hl : l.length < 100000000) (hg : g < 100000000) :
    ∃ v' h', acall Try.prog (k + 1) 31 [v, .int .i64 (g : Nat)] h = some (v', h') ∧ Vec h.next nob 1 l.length h' v' (l.map bb) ∧ Keep h.next nob h h' := by
  rw [acall_text [] Try.func31 (by kernel_rfl)]
  refine afuncT_ex rfl (by simp [Try.f31]) ?_
  obtain ⟨M, hM⟩ : ∃ M, M = l.length + g := ⟨_, rfl⟩
  have w1 : fwrap .i64 ((l.length : Int) + (g : Int)) = (M : Nat) := by rw [i64w _ (by omega) (by omega)]; omega
  simp [Try.f31, r.len', w1, aalloc_make0 (P := Try.prog) el22 (z := [.int .u8 0]) az5 rfl rfl M (by omega), flat1]
  have V : Vec h.next nob 1 0 (h.new (.cells (List.replicate M (.int .u8 0)) false)) (.sl h.next 0 0 M 1 true) [] :=
    .inr ⟨h.next, 0, M, true, _, rfl, .inr (Nat.le_refl _), Nat.lt_succ_self _, get_new_self _ _, rfl, by simp, by omega, by simp, rfl⟩
  have r' := r.new (.cells (List.replicate M (.int .u8 0)) false)
  refine use (vec_append el22 (xt := 22) (by rw [Try.underlying22]; rfl) V r'.alen r'.acells (bb_one l) (by simp) (by omega) (Nat.le_succ _)) ?_
  intro v2 h2 hh
  have a1 := hh.1
  have a2 := hh.2
  clear hh
  simp at a1
  simp
  exact ⟨a1, (Keep.new (Nat.le_refl _) _).trans a2⟩

theorem or128 : ∀ x, x < 256 → x ||| 128 = x % 128 + 128 := by decide +kernel
theorem or_u8 {x : Nat} (h : x < 256) : fwrap .u8 (((x % modulus .u8) ||| (128 % modulus .u8) : Nat) : Int) = ((x % 128 + 128 : Nat) : Int) := by
  have e1 : x % modulus .u8 = x := Nat.mod_eq_of_lt h
  have e2 : 128 % modulus .u8 = 128 := by decide
  rw [e1, e2, or128 x h]
  simp [fwrap]
  omega
theorem ofNat_b {n : Nat} (h : n < 256) : ((UInt8.ofNat n).toNat : Nat) = n := by
  rw [UInt8.toNat_ofNat']
  omega
theorem fwrap_mod8 (u : Nat) : fwrap .u8 (u : Int) = ((u % 256 : Nat) : Int) := rfl

set_option maxHeartbeats 1000000 in
theorem num_ok (k : Nat) (hk : 40 < k) (h : Heap) (v : AV) (l : List UInt8) (n : Int) {m : Nat} {F : Nat → Prop} (V : Vec m F 1 l.length h v (l.map bb)) (hm : m ≤ h.next) (hl : l.length < 100000000) (h1 : -9223372036854775808 ≤ n) (h2 : n ≤ 9223372036854775807) :
    ∃ v' h', acall Try.prog (k + 1) 30 [v, .int .i64 n] h = some (v', h') ∧ Vec m F 1 (l ++ packN n).length h' v' ((l ++ packN n).map bb) ∧ Keep m F h h' := by
  rw [acall_text [] Try.func30 (by kernel_rfl)]
  refine afuncT_ex rfl (by simp [Try.f30]) ?_
  simp [Try.f30, -W_seq]
  rw [W_seq]
  simp [-W_seq]
  refine W_cut (fun s => s.h = h ∧ s.t.get 0 = some v ∧ s.t.get 5 = some (.int .u64 (zig n : Nat))) ?_ ?_
  · by_cases hn : 0 ≤ n
    · obtain ⟨N, rfl⟩ := Int.eq_ofNat_of_zero_le hn
      have hz : zig (N : Nat) = 2 * N := by unfold zig; rw [if_pos hn, Int.toNat_natCast]
      rw [hz]
      obtain ⟨A, hA⟩ : ∃ A, A = 2 * N := ⟨_, rfl⟩
      have s1 : fwrap .u64 (N : Int) = (N : Nat) := u64w (by omega)
      have s2 : fwrap .u64 ((N : Int) * 2) = (A : Nat) := by
        have : (N : Int) * 2 = ((A : Nat) : Int) := by omega
        rw [this, u64w (by omega)]
      have s3 : (N : Int) / 9223372036854775808 = 0 := by omega
      have s4 : fwrap .u64 (((A % modulus .u64) ^^^ (0 % modulus .u64) : Nat) : Int) = (A : Nat) := by
        rw [u64m (by omega), u64m (by omega), Nat.xor_zero, u64w (by omega)]
      have s5 : fwrap .u64 0 = 0 := rfl
      have s6 : fwrap .u64 ((A : Int) % ((modulus .u64 : Nat) : Int)) = (A : Nat) := by rw [← Int.natCast_emod, u64m (by omega), u64w (by omega)]
      rw [← hA]
      simp [s1, s2, s3, s4, s5, s6]
    · obtain ⟨A, hA⟩ : ∃ A : Nat, A = (n + 18446744073709551616).toNat := ⟨_, rfl⟩
      obtain ⟨B, hB⟩ : ∃ B : Nat, B = (2 * n + 18446744073709551616).toNat := ⟨_, rfl⟩
      obtain ⟨C, hC⟩ : ∃ C : Nat, C = 18446744073709551615 := ⟨_, rfl⟩
      have hz : zig n = C - B := by unfold zig; rw [if_neg hn]; omega
      rw [hz]
      have s1 : fwrap .u64 n = (A : Nat) := by rw [u64neg h1 (by omega)]; omega
      have s2 : fwrap .u64 ((A : Int) * 2) = (B : Nat) := by
        have : (A : Int) * 2 = ((A * 2 : Nat) : Int) := by omega
        rw [this]
        show ((A * 2 % 18446744073709551616 : Nat) : Int) = _
        omega
      have s3 : n.fdiv 9223372036854775808 = -1 := by
        rw [Int.fdiv_eq_ediv_of_nonneg _ (by omega)]; omega
      have s3' : fshift .shr .i64 n 63 = none := by
        cases n with
        | ofNat x => exact absurd (Int.natCast_nonneg x) hn
        | negSucc x => rfl
      have s5 : fwrap .u64 (-1) = (C : Nat) := by rw [u64neg (by omega) (by omega), hC]; rfl
      obtain ⟨D, hD⟩ : ∃ D : Nat, D = C - B := ⟨_, rfl⟩
      have s4 : fwrap .u64 (((B % modulus .u64) ^^^ (C % modulus .u64) : Nat) : Int) = (D : Nat) := by
        rw [u64m (by omega), u64m (by omega), hC, xor_ones (by omega), hD, hC, u64w (by omega)]
      rw [← hD]
      simp [s1, s2, s3, s3', s4, s5]
  rintro ⟨t, h'⟩ ⟨rfl, q0, q5⟩
  simp only at q0 q5
  have hz := zig_lt h1 h2
  have hbig : zig n < 128 ^ (10 + 1) := Nat.lt_of_lt_of_le hz (by decide)
  simp
  refine W_cutLoop 0 (fun st => ∃ u w lc, u < 128 ∧ st.t.get 0 = some w ∧ st.t.get 5 = some (.int .u64 (u : Nat)) ∧ Vec m F 1 lc.length st.h w (lc.map bb) ∧ Keep m F h' st.h ∧ lc ++ [UInt8.ofNat u] = l ++ packN n ∧ lc.length ≤ l.length + 10) ?_ ?_
  · refine W_loop (fun q st => ∃ u w lc, q ≤ 10 ∧ u < 128 ^ (q + 1) ∧ u < 18446744073709551616 ∧ st.t.get 0 = some w ∧ st.t.get 5 = some (.int .u64 (u : Nat)) ∧ Vec m F 1 lc.length st.h w (lc.map bb) ∧ Keep m F h' st.h ∧ lc ++ vint q u = l ++ packN n ∧ lc.length + q ≤ l.length + 10) 10 (by omega)
      ⟨zig n, v, l, by omega, hbig, hz, q0, q5, V, Keep.refl _ _ _, rfl, by omega⟩ ?_
    rintro q ⟨t, h3⟩ ⟨u, w, lc, hq, hu, hu64, q0, q5, hV, hK, hE, hL⟩
    simp only at q0 q5 hV hK
    by_cases hlt : u < 128
    · have hv : vint q u = [UInt8.ofNat u] := by
        cases q with
        | zero => rfl
        | succ q => simp only [vint]; rw [if_pos hlt]
      rw [hv] at hE
      have hl' := isLt (show (u : Int) < 128 by omega)
      simp [q0, q5, hl']
      exact ⟨u, hlt, rfl, lc, hV, hK, hE, by omega⟩
    · obtain ⟨q, rfl⟩ : ∃ q', q = q' + 1 := by
        cases q with
        | zero => simp at hu; omega
        | succ q => exact ⟨q, rfl⟩
      have hv : vint (q + 1) u = UInt8.ofNat (u % 128 + 128) :: vint q (u / 128) := by simp only [vint]; rw [if_neg hlt]
      rw [hv] at hE
      have hl' := isLe (show (128 : Int) ≤ (u : Int) by omega)
      obtain ⟨e, he⟩ : ∃ e, e = u % 256 := ⟨_, rfl⟩
      obtain ⟨g, hg⟩ : ∃ g, g = UInt8.ofNat (u % 128 + 128) := ⟨_, rfl⟩
      have hgn : g.toNat = u % 128 + 128 := by rw [hg]; exact ofNat_b (by omega)
      have c1 : fwrap .u8 (u : Int) = (e : Nat) := by rw [he]; rfl
      have c2 : fwrap .u8 (((e % modulus .u8) ||| (128 % modulus .u8) : Nat) : Int) = (g.toNat : Nat) := by rw [or_u8 (by omega), hgn]; omega
      have hu2 : u / 128 < 128 ^ (q + 1) := by
        rw [Nat.pow_succ, Nat.mul_comm] at hu
        exact Nat.div_lt_of_lt_mul hu
      simp [q0, q5, hl', c1, c2, aalloc, afill, AV.row1, AV.row, AV.one]
      refine use (vec_push el22 hV (a := [.int .u8 (g.toNat : Nat)]) (by rfl) (by rfl) (by omega) (Nat.le_trans hm hK.1)) ?_
      intro w2 h4 hh
      have hV2 := hh.1
      have hK2 := hh.2
      clear hh
      simp [q5]
      refine ⟨q, by omega, by omega, u / 128, hu2, by omega, by omega, lc ++ [g], by rw [List.length_append, List.map_append]; exact hV2, hK.trans hK2, ?_, by simp; omega⟩
      rw [List.append_assoc, hg]
      exact hE
  rintro ⟨t, h3⟩ ⟨u, w, lc, hu, q0, q5, hV, hK, hE, hL⟩
  simp only at q0 q5 hV hK
  have c1 : fwrap .u8 (u : Int) = (u : Nat) := by rw [fwrap_mod8]; omega
  have hb : bb (UInt8.ofNat u) = .int .u8 (u : Nat) := by unfold bb; rw [ofNat_b (by omega)]
  simp [q0, q5, c1, aalloc, afill, AV.row1, AV.row, AV.one]
  refine use (vec_push el22 hV (a := [.int .u8 (u : Nat)]) (by rfl) (by rfl) (by omega) (Nat.le_trans hm hK.1)) ?_
  intro w2 h4 hh
  have hV2 := hh.1
  have hK2 := hh.2
  clear hh
  rw [← hE]
  simp [hb]
  exact ⟨by simpa using hV2, hK.trans hK2⟩

/-- pack.Num: a number behind bytes, in new memory. -/
theorem packNum_ok (k : Nat) (hk : 40 < k) (h : Heap) (v : AV) (l : List UInt8) (n : Int) (r : Sl 1 l.length h v (l.map bb)) (hl : l.length < 100000000) (h1 : -9223372036854775808 ≤ n) (h2 : n ≤ 9223372036854775807) :
    ∃ v' h', acall Try.prog (k + 2) 17 [v, .int .i64 n] h = some (v', h') ∧ Vec h.next nob 1 (l ++ packN n).length h' v' ((l ++ packN n).map bb) ∧ Keep h.next nob h h' := by
  rw [acall_text [] Try.func17 (by kernel_rfl)]
  refine afuncT_ex rfl (by simp [Try.f17]) ?_
  simp [Try.f17]
  refine use (grown_ok k h v l 10 r hl (by omega)) ?_
  intro v3 h3 hh
  have hV := hh.1
  have hK := hh.2
  clear hh
  simp
  refine use (num_ok k hk h3 v3 l n hV hK.1 hl h1 h2) ?_
  intro v4 h4 hh
  have hV4 := hh.1
  have hK4 := hh.2
  clear hh
  simp [hK.trans hK4]
  simpa using hV4

theorem or_one2 {N : Nat} (h : N < 9223372036854775808) : fwrap .u64 ((((2 * N) % modulus .u64) ||| (1 % modulus .u64) : Nat) : Int) = ((2 * N + 1 : Nat) : Int) := by
  rw [u64m (by omega), u64m (by omega)]
  have := Nat.two_pow_add_eq_or_of_lt (i := 1) (b := 1) (by omega) N
  rw [Nat.pow_one] at this
  rw [← this, u64w (by omega)]
theorem and127 {u : Nat} (h : u < 18446744073709551616) : fwrap .u64 (((u % modulus .u64) &&& (127 % modulus .u64) : Nat) : Int) = ((u % 128 : Nat) : Int) := by
  rw [u64m h, u64m (by omega)]
  have := Nat.and_two_pow_sub_one_eq_mod u 7
  have e : u &&& 127 = u % 128 := this
  rw [e, u64w (by omega)]
/-- depotref1.Num: the same. -/
theorem refNum_ok (k : Nat) (hk : 40 < k) (h : Heap) (v : AV) (l : List UInt8) (n : Int) (r : Sl 1 l.length h v (l.map bb)) (hl : l.length < 100000000) (h1 : -9223372036854775808 ≤ n) (h2 : n ≤ 9223372036854775807) :
    ∃ v' h', acall Try.prog (k + 1) 23 [v, .int .i64 n] h = some (v', h') ∧ Vec h.next nob 1 (l ++ packN n).length h' v' ((l ++ packN n).map bb) ∧ Keep h.next nob h h' := by
  rw [acall_text [] Try.func23 (by kernel_rfl)]
  refine afuncT_ex rfl (by simp [Try.f23]) ?_
  simp [Try.f23, -W_seq]
  rw [W_seq]
  simp [-W_seq, aalloc, afill]
  rw [W_seq]
  have V0 : Vec h.next nob 1 0 (h.new (.cells [] false)) (.sl h.next 0 0 0 1 true) [] :=
    .inr ⟨h.next, 0, 0, true, [], rfl, .inr (Nat.le_refl _), Nat.lt_succ_self _, get_new_self _ _, rfl, by simp, Nat.le_refl _, by simp, rfl⟩
  have r' := r.new (.cells [] false)
  simp [-W_seq, aalloc, afill]
  refine use (vec_append el22 (xt := 22) (by rw [Try.underlying22]; rfl) V0 r'.alen r'.acells (bb_one l) (by simp) (by omega) (Nat.le_succ _)) ?_
  intro v2 h2' hh
  have hV := hh.1
  have hK := (Keep.new (Nat.le_refl h.next) (.cells [] false)).trans hh.2
  clear hh
  simp at hV
  simp [-W_seq]
  rw [W_seq]
  obtain ⟨X, hX⟩ : ∃ X : Nat, X = (n % 18446744073709551616).toNat := ⟨_, rfl⟩
  have s1 : fwrap .u64 n = (X : Nat) := by
    by_cases hn : 0 ≤ n
    · obtain ⟨N, rfl⟩ := Int.eq_ofNat_of_zero_le hn
      rw [u64w (by omega)]; omega
    · rw [u64neg h1 (by omega)]; omega
  obtain ⟨Y, hY⟩ : ∃ Y : Nat, Y = X * 2 % 18446744073709551616 := ⟨_, rfl⟩
  have s2 : fwrap .u64 ((X : Int) * 2) = (Y : Nat) := by
    have : (X : Int) * 2 = ((X * 2 : Nat) : Int) := by omega
    rw [this, hY]; rfl
  simp [-W_seq, s1, s2]
  refine W_cut (fun s => s.h = h2' ∧ s.t.get 5 = some v2 ∧ s.t.get 6 = some (.int .u64 (zig n : Nat))) ?_ ?_
  · by_cases hn : 0 ≤ n
    · have hz : zig n = Y := by unfold zig; rw [if_pos hn]; omega
      simp [isLe hn, hz]
    · obtain ⟨N, hN⟩ : ∃ N : Nat, N = (-1 - n).toNat := ⟨_, rfl⟩
      obtain ⟨Z, hZ⟩ : ∃ Z : Nat, Z = 2 * N := ⟨_, rfl⟩
      have hz : zig n = 2 * N + 1 := by unfold zig; rw [if_neg hn]; omega
      obtain ⟨T, hT⟩ : ∃ T : Nat, T = 2 * N + 1 := ⟨_, rfl⟩
      rw [hz, ← hT]
      have t1 : fwrap .u64 (-1 - n) = (N : Nat) := by
        have : (-1 - n) = (N : Nat) := by omega
        rw [this, u64w (by omega)]
      have t2 : fwrap .u64 ((N : Int) * 2) = (Z : Nat) := by
        have : (N : Int) * 2 = ((Z : Nat) : Int) := by omega
        rw [this, u64w (by omega)]
      have t3 : fwrap .u64 (((Z % modulus .u64) ||| (1 % modulus .u64) : Nat) : Int) = (T : Nat) := by rw [hZ, or_one2 (by omega), hT]
      simp [isLt (show n < 0 by omega), t1, t2, t3, h1, h2]
  rintro ⟨t, h'⟩ ⟨rfl, q5, q6⟩
  simp only at q5 q6 hV hK
  have hz := zig_lt h1 h2
  have hbig : zig n < 128 ^ (10 + 1) := Nat.lt_of_lt_of_le hz (by decide)
  simp
  refine W_cutLoop 0 (fun st => ∃ u w lc, u < 128 ∧ st.t.get 5 = some w ∧ st.t.get 6 = some (.int .u64 (u : Nat)) ∧ Vec h.next nob 1 lc.length st.h w (lc.map bb) ∧ Keep h.next nob h' st.h ∧ lc ++ [UInt8.ofNat u] = l ++ packN n ∧ lc.length ≤ l.length + 10) ?_ ?_
  · refine W_loop (fun q st => ∃ u w lc, q ≤ 10 ∧ u < 128 ^ (q + 1) ∧ u < 18446744073709551616 ∧ st.t.get 5 = some w ∧ st.t.get 6 = some (.int .u64 (u : Nat)) ∧ Vec h.next nob 1 lc.length st.h w (lc.map bb) ∧ Keep h.next nob h' st.h ∧ lc ++ vint q u = l ++ packN n ∧ lc.length + q ≤ l.length + 10) 10 (by omega)
      ⟨zig n, v2, l, by omega, hbig, hz, q5, q6, hV, Keep.refl _ _ _, rfl, by omega⟩ ?_
    rintro q ⟨t, h3⟩ ⟨u, w, lc, hq, hu, hu64, q5, q6, hV, hK3, hE, hL⟩
    simp only at q5 q6 hV hK3
    by_cases hlt : u < 128
    · have hv : vint q u = [UInt8.ofNat u] := by
        cases q with
        | zero => rfl
        | succ q => simp only [vint]; rw [if_pos hlt]
      rw [hv] at hE
      have hl' := isLt (show (u : Int) < 128 by omega)
      simp [q5, q6, hl']
      exact ⟨u, hlt, rfl, lc, hV, hK3, hE, by omega⟩
    · obtain ⟨q, rfl⟩ : ∃ q', q = q' + 1 := by
        cases q with
        | zero => simp at hu; omega
        | succ q => exact ⟨q, rfl⟩
      have hv : vint (q + 1) u = UInt8.ofNat (u % 128 + 128) :: vint q (u / 128) := by simp only [vint]; rw [if_neg hlt]
      rw [hv] at hE
      have hl' := isLe (show (128 : Int) ≤ (u : Int) by omega)
      obtain ⟨e, he⟩ : ∃ e, e = u % 128 := ⟨_, rfl⟩
      obtain ⟨g, hg⟩ : ∃ g, g = UInt8.ofNat (u % 128 + 128) := ⟨_, rfl⟩
      have hgn : g.toNat = u % 128 + 128 := by rw [hg]; exact ofNat_b (by omega)
      have c0 := and127 hu64
      rw [← he] at c0
      have c1 : fwrap .u8 (e : Int) = (e : Nat) := by rw [fwrap_mod8]; omega
      have c2 : fwrap .u8 (((e % modulus .u8) ||| (128 % modulus .u8) : Nat) : Int) = (g.toNat : Nat) := by rw [or_u8 (by omega), hgn]; omega
      have hu2 : u / 128 < 128 ^ (q + 1) := by
        rw [Nat.pow_succ, Nat.mul_comm] at hu
        exact Nat.div_lt_of_lt_mul hu
      simp [q5, q6, hl', c0, c1, c2, aalloc, afill, AV.row1, AV.row, AV.one]
      refine use (vec_push el22 hV (a := [.int .u8 (g.toNat : Nat)]) (by rfl) (by rfl) (by omega) (Nat.le_trans hK.1 hK3.1)) ?_
      intro w2 h4 hh
      have hV2 := hh.1
      have hK2 := hh.2
      clear hh
      simp [q6]
      refine ⟨q, by omega, by omega, u / 128, hu2, by omega, by omega, lc ++ [g], by rw [List.length_append, List.map_append]; exact hV2, hK3.trans hK2, ?_, by simp; omega⟩
      rw [List.append_assoc, hg]
      exact hE
  rintro ⟨t, h3⟩ ⟨u, w, lc, hu, q5, q6, hV, hK3, hE, hL⟩
  simp only at q5 q6 hV hK3
  have c1 : fwrap .u8 (u : Int) = (u : Nat) := by rw [fwrap_mod8]; omega
  have hb : bb (UInt8.ofNat u) = .int .u8 (u : Nat) := by unfold bb; rw [ofNat_b (by omega)]
  simp [q5, q6, c1, aalloc, afill, AV.row1, AV.row, AV.one]
  refine use (vec_push el22 hV (a := [.int .u8 (u : Nat)]) (by rfl) (by rfl) (by omega) (Nat.le_trans hK.1 hK3.1)) ?_
  intro w2 h4 hh
  have hV2 := hh.1
  have hK2 := hh.2
  clear hh
  rw [← hE]
  simp [hb]
  exact ⟨by simpa using hV2, (hK.trans hK3).trans hK2⟩

/-- A text's bytes. -/
def sb (s : ByteArray) : List UInt8 := s.data.toList
theorem sb_len (s : ByteArray) : (sb s).length = s.size := by unfold sb; rw [Array.length_toList]; rfl
theorem str_cells (h : Heap) (s : ByteArray) : acells h 1 s.size (.str s) = some ((sb s).map bb) := by
  show (if 1 = 1 then some ((s.data.toList.take s.size).map fun b => AV.int .u8 b.toNat) else none) = _
  rw [if_pos rfl]
  have : s.data.toList.take s.size = s.data.toList := List.take_of_length_le (by rw [Array.length_toList]; exact Nat.le_refl _)
  rw [this]
  rfl
def packT (s : ByteArray) : List UInt8 := packN (s.size : Nat) ++ sb s
theorem packText_ok (k : Nat) (hk : 40 < k) (h : Heap) (v : AV) (l : List UInt8) (s : ByteArray) (r : Sl 1 l.length h v (l.map bb)) (hl : l.length < 90000000) (hs : s.size < 9000000) :
    ∃ v' h', acall Try.prog (k + 2) 18 [v, .str s] h = some (v', h') ∧ Vec h.next nob 1 (l ++ packT s).length h' v' ((l ++ packT s).map bb) ∧ Keep h.next nob h h' := by
  rw [acall_text [] Try.func18 (by kernel_rfl)]
  refine afuncT_ex rfl (by simp [Try.f18]) ?_
  obtain ⟨G, hG⟩ : ∃ G, G = 10 + s.size := ⟨_, rfl⟩
  have w1 : fwrap .i64 (10 + (s.size : Int)) = (G : Nat) := by rw [i64w _ (by omega) (by omega)]; omega
  simp [Try.f18, w1]
  refine use (grown_ok k h v l G r (by omega) (by omega)) ?_
  intro v3 h3 hh
  have hV := hh.1
  have hK := hh.2
  clear hh
  simp
  refine use (num_ok k hk h3 v3 l (s.size : Nat) hV hK.1 (by omega) (by omega) (by omega)) ?_
  intro v4 h4 hh
  have hV4 := hh.1
  have hK4 := hh.2
  clear hh
  have hpl := vint_len 10 (zig (s.size : Nat))
  have hln : (l ++ packN (s.size : Nat)).length ≤ l.length + 11 := by rw [List.length_append]; unfold packN; omega
  simp
  refine use (vec_append el22 (xt := 9) (by rw [Try.underlying9]; rfl) hV4 (x := .str s) (k := s.size) rfl (str_cells h4 s) (bb_one _) (by rw [List.length_map, sb_len]; omega) (by omega) (Nat.le_trans hK.1 hK4.1)) ?_
  intro v5 h5 hh
  have hV5 := hh.1
  have hK5 := hh.2
  clear hh
  simp [(hK.trans hK4).trans hK5]
  unfold packT
  rw [← List.map_append, List.append_assoc] at hV5
  have e : (l ++ packN (s.size : Nat)).length + s.size = l.length + (packN (s.size : Nat) ++ sb s).length := by rw [List.length_append, List.length_append, sb_len]; omega
  rw [e] at hV5
  simpa using hV5
theorem refText_ok (k : Nat) (hk : 40 < k) (h : Heap) (v : AV) (l : List UInt8) (s : ByteArray) (r : Sl 1 l.length h v (l.map bb)) (hl : l.length < 90000000) (hs : s.size < 9000000) :
    ∃ v' h', acall Try.prog (k + 2) 24 [v, .str s] h = some (v', h') ∧ Vec h.next nob 1 (l ++ packT s).length h' v' ((l ++ packT s).map bb) ∧ Keep h.next nob h h' := by
  rw [acall_text [] Try.func24 (by kernel_rfl)]
  refine afuncT_ex rfl (by simp [Try.f24]) ?_
  simp [Try.f24]
  refine use (refNum_ok k hk h v l (s.size : Nat) r (by omega) (by omega) (by omega)) ?_
  intro v4 h4 hh
  have hV4 := hh.1
  have hK4 := hh.2
  clear hh
  have hpl := vint_len 10 (zig (s.size : Nat))
  have hln : (l ++ packN (s.size : Nat)).length ≤ l.length + 11 := by rw [List.length_append]; unfold packN; omega
  simp
  refine use (vec_append el22 (xt := 9) (by rw [Try.underlying9]; rfl) hV4 (x := .str s) (k := s.size) rfl (str_cells h4 s) (bb_one _) (by rw [List.length_map, sb_len]; omega) (by omega) hK4.1) ?_
  intro v5 h5 hh
  have hV5 := hh.1
  have hK5 := hh.2
  clear hh
  simp [hK4.trans hK5]
  unfold packT
  rw [← List.map_append, List.append_assoc] at hV5
  have e : (l ++ packN (s.size : Nat)).length + s.size = l.length + (packN (s.size : Nat) ++ sb s).length := by rw [List.length_append, List.length_append, sb_len]; omega
  rw [e] at hV5
  simpa using hV5
end Go.Proofs.Ytnjpfjdnidekgaa
