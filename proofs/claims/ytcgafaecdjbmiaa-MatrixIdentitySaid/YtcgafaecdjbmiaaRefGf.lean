/- Contracts of the document's own field. -/
import Derived.Test.YtcgafaecdjbmiaaGf2
namespace Go.Proofs.Ytcgafaecdjbmiaa
open Go Go.YtcgafaecdjbmiaaAbs
set_option linter.unusedSimpArgs false
set_option linter.unusedVariables false
set_option maxRecDepth 4000

theorem and_one {y : Nat} (h : y < 256) : fwrap .i64 (((y % modulus .i64) &&& (1 % modulus .i64) : Nat) : Int) = ((y % 2 : Nat) : Int) := by
  have e1 : y % modulus .i64 = y := Nat.mod_eq_of_lt (by simp only [modulus]; omega)
  have e2 : 1 % modulus .i64 = 1 := by decide
  rw [e1, e2, Nat.and_one_is_mod, i64w _ (by omega) (by omega)]
theorem xor_i64 {x y : Nat} (hx : x < 256) (hy : y < 256) : fwrap .i64 (((x % modulus .i64) ^^^ (y % modulus .i64) : Nat) : Int) = ((x ^^^ y : Nat) : Int) := by
  have e1 : x % modulus .i64 = x := Nat.mod_eq_of_lt (by simp only [modulus]; omega)
  have e2 : y % modulus .i64 = y := Nat.mod_eq_of_lt (by simp only [modulus]; omega)
  have := xor_lt hx hy
  rw [e1, e2, i64w _ (by omega) (by omega)]
theorem mulN_done {a b : Nat} : ∀ {j n : Nat}, b / 2 ^ j = 0 → j ≤ n → mulN a b n = mulN a b j := by
  intro j n hj hn
  obtain ⟨d, rfl⟩ : ∃ d, n = j + d := ⟨n - j, by omega⟩
  have hlt : b < 2 ^ j := by
    rcases Nat.lt_or_ge b (2 ^ j) with q | q
    · exact q
    · have := Nat.div_pos q (Nat.two_pow_pos j)
      omega
  clear hn
  induction d with
  | zero => rfl
  | succ d ih =>
    show mulN a b (j + d) ^^^ sel (b.testBit (j + d)) (itx (j + d) a) = _
    have : b.testBit (j + d) = false := Nat.testBit_lt_two_pow (Nat.lt_of_lt_of_le hlt (Nat.pow_le_pow_right (by decide) (by omega)))
    rw [ih, this]
    simp [sel]
theorem odd_bit (b j : Nat) : b.testBit j = decide (b / 2 ^ j % 2 = 1) := by
  rw [Nat.testBit_eq_decide_div_mod_eq]

theorem rmul_ok (k : Nat) (hk : 20 < k) (h : Heap) (x y : UInt8) :
    acall Try.prog (k + 1) 33 [.int .u8 (x.toNat : Nat), .int .u8 (y.toNat : Nat)] h = some (.int .u8 ((gm x y).toNat : Nat), h) := by
  rw [acall_text [] Try.func33 (by kernel_rfl)]
  refine afuncT_of rfl (by simp [Try.f33]) ?_
  simp [Try.f33, fwrap_b64]
  have hx := b_lt x
  have hy := b_lt y
  rw [gm_toNat]
  generalize x.toNat = a at *
  generalize y.toNat = b at *
  refine W_loop (fun m st => ∃ j c d o, m = 8 - j ∧ j ≤ 8 ∧ st.h = h ∧ c = itx j a ∧ d = b / 2 ^ j ∧ o = mulN a b j ∧ st.t.get 5 = some (.int .i64 (c : Nat)) ∧ st.t.get 6 = some (.int .i64 (d : Nat)) ∧ st.t.get 7 = some (.int .i64 (o : Nat))) 8 (by omega)
    ⟨0, a, b, 0, by omega, by omega, rfl, rfl, by simp, rfl, by simp⟩ ?_
  rintro m ⟨t, h'⟩ ⟨j, c, d, o, rfl, hj, rfl, hc, hd, ho, q5, q6, q7⟩
  simp only at q5 q6 q7
  have lc : c < 256 := by rw [hc]; exact itx_lt hx j
  have lo : o < 256 := by rw [ho]; exact mulN_lt hx b j
  have ld : d < 256 := by rw [hd]; exact Nat.lt_of_le_of_lt (Nat.div_le_self _ _) hy
  by_cases h0 : d = 0
  · have hm : mul a b = o := by
      rw [ho]
      exact mulN_done (by rw [← hd]; exact h0) hj
    have ho8 : fwrap .u8 (o : Int) = (o : Nat) := fwrap_u8 lo
    simp [q5, q6, q7, h0, ho8, hm]
  · have hj8 : j < 8 := by
      rcases Nat.lt_or_ge j 8 with q | q
      · exact q
      · obtain rfl : j = 8 := by omega
        have : b / 2 ^ 8 = 0 := Nat.div_eq_of_lt (by omega)
        omega
    have dpos := isLt (show (0 : Int) < (d : Int) by omega)
    have hd2 : b / 2 ^ (j + 1) = d / 2 := by rw [hd, Nat.div_div_eq_div_mul, Nat.pow_succ]
    have hd3 : (d : Int) / 2 = (b : Int) / 2 ^ (j + 1) := by
      have := congrArg (fun n : Nat => (n : Int)) hd2
      simp at this
      exact this.symm
    have hbit := odd_bit b j
    rw [← hd] at hbit
    have a1 := and_one ld
    have hxt : xt c = if c < 128 then 2 * c else (2 * c) ^^^ 285 := rfl
    have hc2 : itx (j + 1) a = xt c := by rw [hc]; rfl
    have ho2 : mulN a b (j + 1) = o ^^^ sel (b.testBit j) c := by rw [ho, hc]; rfl
    obtain ⟨e, he⟩ : ∃ e, e = c * 2 := ⟨_, rfl⟩
    have sh : fwrap .i64 ((c : Int) * 2) = (e : Nat) := by rw [i64w _ (by omega) (by omega), he]; omega
    have x1 := xor285 (x := e) (by omega)
    rw [show 2 * c = e by omega] at hxt
    have x2 := xor_i64 lo lc
    obtain ⟨e2, he2⟩ : ∃ e2, e2 = d % 2 := ⟨_, rfl⟩
    rw [← he2] at a1 hbit
    by_cases c1 : e2 = 1
    · have hb1 : b.testBit j = true := by rw [hbit]; exact decide_eq_true c1
      rw [hb1] at ho2
      have ho3 : mulN a b (j + 1) = o ^^^ c := ho2
      have c1' : ((e2 : Nat) : Int) = 1 := by omega
      by_cases c2 : c < 128
      · rw [if_pos c2] at hxt
        have c2' := isLe (show (e : Int) ≤ 255 by omega)
        simp [q5, q6, q7, dpos, h0, a1, c1', x2, sh, c2']
        exact ⟨8 - (j + 1), by omega, j + 1, rfl, by omega, by rw [hc2, hxt], hd3, by rw [ho3]⟩
      · rw [if_neg c2] at hxt
        have c2' := isLt (show (255 : Int) < (e : Int) by omega)
        simp [q5, q6, q7, dpos, h0, a1, c1', x2, sh, c2', x1]
        exact ⟨8 - (j + 1), by omega, j + 1, rfl, by omega, by rw [hc2, hxt], hd3, by rw [ho3]⟩
    · have hb1 : b.testBit j = false := by rw [hbit]; exact decide_eq_false c1
      rw [hb1] at ho2
      have ho3 : mulN a b (j + 1) = o := by rw [ho2]; simp [sel]
      have c1' : ¬ ((e2 : Nat) : Int) = 1 := by omega
      by_cases c2 : c < 128
      · rw [if_pos c2] at hxt
        have c2' := isLe (show (e : Int) ≤ 255 by omega)
        simp [q5, q6, q7, dpos, h0, a1, c1', x2, sh, c2']
        exact ⟨8 - (j + 1), by omega, j + 1, rfl, by omega, by rw [hc2, hxt], hd3, by rw [ho3]⟩
      · rw [if_neg c2] at hxt
        have c2' := isLt (show (255 : Int) < (e : Int) by omega)
        simp [q5, q6, q7, dpos, h0, a1, c1', x2, sh, c2', x1]
        exact ⟨8 - (j + 1), by omega, j + 1, rfl, by omega, by rw [hc2, hxt], hd3, by rw [ho3]⟩

/-- What gives 1 with it is looked for. -/
theorem gi_find {a b : UInt8} (h : gm a b = 1) : b = gi a := gi_unique h
theorem ofInt_b {j : Nat} (h : j < 256) : (UInt8.ofNat j).toNat = j := ofNat_toNat h

theorem rinv_ok (k : Nat) (hk : 300 < k) (h : Heap) (x : UInt8) :
    acall Try.prog (k + 2) 34 [.int .u8 (x.toNat : Nat)] h = some (.int .u8 ((gi x).toNat : Nat), h) := by
  rw [acall_text [] Try.func34 (by kernel_rfl)]
  refine afuncT_of rfl (by simp [Try.f34]) ?_
  simp [Try.f34]
  have hno0 : ∀ i, i < 1 → gm x (UInt8.ofNat i) ≠ 1 := fun i hi => by
    obtain rfl : i = 0 := by omega
    rw [show UInt8.ofNat 0 = 0 from rfl, gm_zero]
    decide
  refine W_loop (fun m st => ∃ j, m = 256 - j ∧ 1 ≤ j ∧ j ≤ 256 ∧ st.h = h ∧ st.t.get 0 = some (.int .u8 (x.toNat : Nat)) ∧ st.t.get 3 = some (.int .i64 (j : Nat)) ∧ ∀ i, i < j → gm x (UInt8.ofNat i) ≠ 1) 255 (by omega)
    ⟨1, by omega, by omega, by omega, rfl, by simp, by simp, hno0⟩ ?_
  rintro m ⟨t, h'⟩ ⟨j, rfl, hj1, hj, rfl, q0, q3, hno⟩
  simp only at q0 q3
  by_cases hlt : j < 256
  · have hl := isLt (show (j : Int) < 256 by omega)
    have w1 : fwrap .u8 (j : Int) = ((UInt8.ofNat j).toNat : Nat) := by rw [ofInt_b hlt]; exact fwrap_u8 hlt
    have e1 := rmul_ok k (by omega) h' x (UInt8.ofNat j)
    obtain ⟨c, hc⟩ : ∃ c, c = UInt8.ofNat j := ⟨_, rfl⟩
    rw [← hc] at w1 e1
    by_cases hg : gm x c = 1
    · have hgt : ((gm x c).toNat : Int) = 1 := by rw [hg]; rfl
      have := gi_unique hg
      simp [q0, q3, hl, w1, e1, hgt, hg, ← this]
    · have hgt : ¬ ((gm x c).toNat : Int) = 1 := fun q => hg (b_ext (by rw [show (1 : UInt8).toNat = 1 from rfl]; omega))
      have hgt' : ¬ (gm x c).toNat = 1 := fun q => hgt (by omega)
      simp [q0, q3, hl, w1, e1, hgt, hgt', i64w ((j : Int) + 1) (by omega) (by omega)]
      refine ⟨256 - (j + 1), by omega, j + 1, rfl, by omega, by omega, by omega, fun i hi => ?_⟩
      rcases Nat.lt_succ_iff_lt_or_eq.1 hi with q | rfl
      · exact hno i q
      · rw [← hc]; exact hg
  · obtain rfl : j = 256 := by omega
    have hx : x = 0 := by
      refine Decidable.byContradiction fun hx => ?_
      refine hno (gi x).toNat (b_lt _) ?_
      rw [UInt8.ofNat_toNat]
      exact gm_gi hx
    subst hx
    simp [q0, q3, gi_zero]
end Go.Proofs.Ytcgafaecdjbmiaa
