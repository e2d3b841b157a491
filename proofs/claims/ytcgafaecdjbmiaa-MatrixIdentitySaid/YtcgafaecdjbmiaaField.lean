/- The field of 256 elements, with no program in sight: products by doubling, powers of two, logarithms. -/
import Init.Data.Nat.Bitwise.Lemmas
import Derived.KernelRfl
namespace Go.Proofs.Ytcgafaecdjbmiaa

/-- Twice. -/
def xt (x : Nat) : Nat := if x < 128 then 2 * x else (2 * x) ^^^ 285
/-- Twice, so often. -/
def itx : Nat → Nat → Nat
  | 0, a => a
  | i + 1, a => xt (itx i a)
def sel (t : Bool) (x : Nat) : Nat := if t then x else 0
def mulN (a b : Nat) : Nat → Nat
  | 0 => 0
  | n + 1 => mulN a b n ^^^ sel (b.testBit n) (itx n a)
/-- The product. -/
def mul (a b : Nat) : Nat := mulN a b 8
/-- Powers of two. -/
def pw (i : Nat) : Nat := itx i 1
def expL : List Nat := [1, 2, 4, 8, 16, 32, 64, 128, 29, 58, 116, 232, 205, 135, 19, 38, 76, 152, 45, 90, 180, 117, 234, 201, 143, 3, 6, 12, 24, 48, 96, 192, 157, 39, 78, 156, 37, 74, 148, 53, 106, 212, 181, 119, 238, 193, 159, 35, 70, 140, 5, 10, 20, 40, 80, 160, 93, 186, 105, 210, 185, 111, 222, 161, 95, 190, 97, 194, 153, 47, 94, 188, 101, 202, 137, 15, 30, 60, 120, 240, 253, 231, 211, 187, 107, 214, 177, 127, 254, 225, 223, 163, 91, 182, 113, 226, 217, 175, 67, 134, 17, 34, 68, 136, 13, 26, 52, 104, 208, 189, 103, 206, 129, 31, 62, 124, 248, 237, 199, 147, 59, 118, 236, 197, 151, 51, 102, 204, 133, 23, 46, 92, 184, 109, 218, 169, 79, 158, 33, 66, 132, 21, 42, 84, 168, 77, 154, 41, 82, 164, 85, 170, 73, 146, 57, 114, 228, 213, 183, 115, 230, 209, 191, 99, 198, 145, 63, 126, 252, 229, 215, 179, 123, 246, 241, 255, 227, 219, 171, 75, 150, 49, 98, 196, 149, 55, 110, 220, 165, 87, 174, 65, 130, 25, 50, 100, 200, 141, 7, 14, 28, 56, 112, 224, 221, 167, 83, 166, 81, 162, 89, 178, 121, 242, 249, 239, 195, 155, 43, 86, 172, 69, 138, 9, 18, 36, 72, 144, 61, 122, 244, 245, 247, 243, 251, 235, 203, 139, 11, 22, 44, 88, 176, 125, 250, 233, 207, 131, 27, 54, 108, 216, 173, 71, 142, 1, 2, 4, 8, 16, 32, 64, 128, 29, 58, 116, 232, 205, 135, 19, 38, 76, 152, 45, 90, 180, 117, 234, 201, 143, 3, 6, 12, 24, 48, 96, 192, 157, 39, 78, 156, 37, 74, 148, 53, 106, 212, 181, 119, 238, 193, 159, 35, 70, 140, 5, 10, 20, 40, 80, 160, 93, 186, 105, 210, 185, 111, 222, 161, 95, 190, 97, 194, 153, 47, 94, 188, 101, 202, 137, 15, 30, 60, 120, 240, 253, 231, 211, 187, 107, 214, 177, 127, 254, 225, 223, 163, 91, 182, 113, 226, 217, 175, 67, 134, 17, 34, 68, 136, 13, 26, 52, 104, 208, 189, 103, 206, 129, 31, 62, 124, 248, 237, 199, 147, 59, 118, 236, 197, 151, 51, 102, 204, 133, 23, 46, 92, 184, 109, 218, 169, 79, 158, 33, 66, 132, 21, 42, 84, 168, 77, 154, 41, 82, 164, 85, 170, 73, 146, 57, 114, 228, 213, 183, 115, 230, 209, 191, 99, 198, 145, 63, 126, 252, 229, 215, 179, 123, 246, 241, 255, 227, 219, 171, 75, 150, 49, 98, 196, 149, 55, 110, 220, 165, 87, 174, 65, 130, 25, 50, 100, 200, 141, 7, 14, 28, 56, 112, 224, 221, 167, 83, 166, 81, 162, 89, 178, 121, 242, 249, 239, 195, 155, 43, 86, 172, 69, 138, 9, 18, 36, 72, 144, 61, 122, 244, 245, 247, 243, 251, 235, 203, 139, 11, 22, 44, 88, 176, 125, 250, 233, 207, 131, 27, 54, 108, 216, 173, 71, 142]
def logL : List Nat := [0, 0, 1, 25, 2, 50, 26, 198, 3, 223, 51, 238, 27, 104, 199, 75, 4, 100, 224, 14, 52, 141, 239, 129, 28, 193, 105, 248, 200, 8, 76, 113, 5, 138, 101, 47, 225, 36, 15, 33, 53, 147, 142, 218, 240, 18, 130, 69, 29, 181, 194, 125, 106, 39, 249, 185, 201, 154, 9, 120, 77, 228, 114, 166, 6, 191, 139, 98, 102, 221, 48, 253, 226, 152, 37, 179, 16, 145, 34, 136, 54, 208, 148, 206, 143, 150, 219, 189, 241, 210, 19, 92, 131, 56, 70, 64, 30, 66, 182, 163, 195, 72, 126, 110, 107, 58, 40, 84, 250, 133, 186, 61, 202, 94, 155, 159, 10, 21, 121, 43, 78, 212, 229, 172, 115, 243, 167, 87, 7, 112, 192, 247, 140, 128, 99, 13, 103, 74, 222, 237, 49, 197, 254, 24, 227, 165, 153, 119, 38, 184, 180, 124, 17, 68, 146, 217, 35, 32, 137, 46, 55, 63, 209, 91, 149, 188, 207, 205, 144, 135, 151, 178, 220, 252, 190, 97, 242, 86, 211, 171, 20, 42, 93, 158, 132, 60, 57, 83, 71, 109, 65, 162, 31, 45, 67, 216, 183, 123, 164, 118, 196, 23, 73, 236, 127, 12, 111, 246, 108, 161, 59, 82, 41, 157, 85, 170, 251, 96, 134, 177, 187, 204, 62, 90, 203, 89, 95, 176, 156, 169, 160, 81, 11, 245, 22, 235, 122, 117, 44, 215, 79, 174, 213, 233, 230, 231, 173, 232, 116, 214, 244, 234, 168, 80, 88, 175]
def lg (a : Nat) : Nat := logL.getD a 0

theorem xor_lt {x y : Nat} (hx : x < 256) (hy : y < 256) : x ^^^ y < 256 := Nat.xor_lt_two_pow (n := 8) hx hy
theorem xt_sel : ∀ x, x < 256 → xt x = (x <<< 1) ^^^ sel (x.testBit 7) 285 := by decide +kernel
theorem xt_lt : ∀ x, x < 256 → xt x < 256 := by decide +kernel
theorem sel_xor (t u : Bool) (x : Nat) : sel (t ^^ u) x = sel t x ^^^ sel u x := by cases t <;> cases u <;> simp [sel]
theorem sel_xor' (t : Bool) (x y : Nat) : sel t (x ^^^ y) = sel t x ^^^ sel t y := by cases t <;> simp [sel]
theorem xor4 (a b c d : Nat) : (a ^^^ b) ^^^ (c ^^^ d) = (a ^^^ c) ^^^ (b ^^^ d) := by
  rw [Nat.xor_assoc, Nat.xor_assoc, ← Nat.xor_assoc b, Nat.xor_comm b c, Nat.xor_assoc c]
theorem xt_xor {x y : Nat} (hx : x < 256) (hy : y < 256) : xt (x ^^^ y) = xt x ^^^ xt y := by
  rw [xt_sel _ (xor_lt hx hy), xt_sel _ hx, xt_sel _ hy, Nat.shiftLeft_xor_distrib, Nat.testBit_xor, sel_xor]
  exact xor4 _ _ _ _
theorem itx_lt {x : Nat} (hx : x < 256) : ∀ i, itx i x < 256
  | 0 => hx
  | i + 1 => xt_lt _ (itx_lt hx i)
theorem itx_xor {x y : Nat} (hx : x < 256) (hy : y < 256) : ∀ i, itx i (x ^^^ y) = itx i x ^^^ itx i y
  | 0 => rfl
  | i + 1 => by
    show xt (itx i (x ^^^ y)) = _
    rw [itx_xor hx hy i, xt_xor (itx_lt hx i) (itx_lt hy i)]
    rfl
theorem itx_add (i j a : Nat) : itx i (itx j a) = itx (i + j) a := by
  induction i with
  | zero => rw [Nat.zero_add]; rfl
  | succ i ih =>
    rw [Nat.add_right_comm]
    show xt (itx i (itx j a)) = xt (itx (i + j) a)
    rw [ih]
theorem sel_lt {t : Bool} {x : Nat} (hx : x < 256) : sel t x < 256 := by cases t <;> simp [sel]; exact hx
theorem mulN_lt {a : Nat} (ha : a < 256) (b : Nat) : ∀ n, mulN a b n < 256
  | 0 => Nat.zero_lt_succ _
  | n + 1 => xor_lt (mulN_lt ha b n) (sel_lt (itx_lt ha n))
theorem mul_lt {a : Nat} (ha : a < 256) (b : Nat) : mul a b < 256 := mulN_lt ha b 8
theorem mulN_xor (a b c : Nat) : ∀ n, mulN a (b ^^^ c) n = mulN a b n ^^^ mulN a c n
  | 0 => by simp [mulN]
  | n + 1 => by
    simp only [mulN]
    rw [mulN_xor a b c n, Nat.testBit_xor, sel_xor]
    exact xor4 _ _ _ _
/-- Products go over sums. -/
theorem mul_xor (a b c : Nat) : mul a (b ^^^ c) = mul a b ^^^ mul a c := mulN_xor a b c 8
theorem mulN_zero (b : Nat) : ∀ n, mulN 0 b n = 0
  | 0 => rfl
  | n + 1 => by
    simp only [mulN]
    rw [mulN_zero b n]
    have : itx n 0 = 0 := by
      induction n with
      | zero => rfl
      | succ n ih => show xt (itx n 0) = 0; rw [ih]; rfl
    rw [this]
    cases b.testBit n <;> rfl
theorem zero_mul (b : Nat) : mul 0 b = 0 := mulN_zero b 8
theorem mul_zero (a : Nat) : mul a 0 = 0 := by simp [mul, mulN, sel]
theorem mul_one (a : Nat) : mul a 1 = a := by
  have h0 : Nat.testBit 1 0 = true := by decide
  have h1 : Nat.testBit 1 1 = false := by decide
  have h2 : Nat.testBit 1 2 = false := by decide
  have h3 : Nat.testBit 1 3 = false := by decide
  have h4 : Nat.testBit 1 4 = false := by decide
  have h5 : Nat.testBit 1 5 = false := by decide
  have h6 : Nat.testBit 1 6 = false := by decide
  have h7 : Nat.testBit 1 7 = false := by decide
  simp only [mul, mulN, h0, h1, h2, h3, h4, h5, h6, h7, sel, itx]
  simp

/-- What goes over sums is known by what it does to single bits. -/
theorem ext_bits {f g : Nat → Nat} (hf : ∀ x y, x < 256 → y < 256 → f (x ^^^ y) = f x ^^^ f y) (hg : ∀ x y, x < 256 → y < 256 → g (x ^^^ y) = g x ^^^ g y) (h : ∀ i, i < 8 → f (2 ^ i) = g (2 ^ i)) : ∀ b, b < 256 → f b = g b := by
  have h0 : f 0 = g 0 := by
    have a := hf 0 0 (by decide) (by decide)
    have b := hg 0 0 (by decide) (by decide)
    rw [Nat.xor_self, Nat.xor_self] at a b
    rw [a, b]
  have key : ∀ n, n ≤ 8 → ∀ b, b < 2 ^ n → f b = g b := by
    intro n
    induction n with
    | zero =>
      intro _ b hb
      have : b = 0 := by simpa using hb
      subst this
      exact h0
    | succ n ih =>
      intro hn b hb
      have hp : 2 ^ n ≤ 128 := by
        have := Nat.pow_le_pow_right (n := 2) (by decide) (show n ≤ 7 by omega)
        simpa using this
      rcases Nat.lt_or_ge b (2 ^ n) with q | q
      · exact ih (by omega) b q
      · have hb' : b - 2 ^ n < 2 ^ n := by rw [Nat.pow_succ] at hb; omega
        have e : b = (b - 2 ^ n) ^^^ 2 ^ n := by
          apply Nat.eq_of_testBit_eq
          intro i
          have eb : b = 2 ^ n + (b - 2 ^ n) := by omega
          rw [Nat.testBit_xor, Nat.testBit_two_pow]
          conv => lhs; rw [eb]
          rcases Nat.lt_trichotomy i n with c | c | c
          · rw [Nat.testBit_two_pow_add_gt c]
            simp [show ¬ n = i by omega]
          · subst c
            rw [Nat.testBit_two_pow_add_eq]
            simp
          · have l1 : (2 ^ n + (b - 2 ^ n)).testBit i = false := Nat.testBit_lt_two_pow (by
              have := Nat.pow_le_pow_right (n := 2) (by decide) (show n + 1 ≤ i by omega)
              omega)
            have l2 : (b - 2 ^ n).testBit i = false := Nat.testBit_lt_two_pow (by
              have := Nat.pow_le_pow_right (n := 2) (by decide) (show n ≤ i by omega)
              omega)
            rw [l1, l2]
            simp [show ¬ n = i by omega]
        rw [e, hf _ _ (by omega) (by omega), hg _ _ (by omega) (by omega), ih (by omega) _ hb', h n (by omega)]
  exact key 8 (Nat.le_refl _)

theorem mul_xt_bits : ∀ a, a < 256 → ∀ i, i < 8 → mul a (xt (2 ^ i)) = xt (mul a (2 ^ i)) := by decide +kernel
theorem mul_xt {a b : Nat} (ha : a < 256) (hb : b < 256) : mul a (xt b) = xt (mul a b) := by
  refine ext_bits (f := fun b => mul a (xt b)) (g := fun b => xt (mul a b)) (fun x y hx hy => ?_) (fun x y hx hy => ?_) (mul_xt_bits a ha) b hb
  · show mul a (xt (x ^^^ y)) = _
    rw [xt_xor hx hy, mul_xor]
  · show xt (mul a (x ^^^ y)) = _
    rw [mul_xor, xt_xor (mul_lt ha _) (mul_lt ha _)]
theorem pw_lt (i : Nat) : pw i < 256 := itx_lt (by decide) i
theorem mul_pw {a : Nat} (ha : a < 256) : ∀ j, mul a (pw j) = itx j a
  | 0 => mul_one a
  | j + 1 => by
    show mul a (xt (pw j)) = xt (itx j a)
    rw [mul_xt ha (pw_lt j), mul_pw ha j]
theorem pw_mul (i j : Nat) : mul (pw i) (pw j) = pw (i + j) := by
  rw [mul_pw (pw_lt i)]
  unfold pw
  rw [itx_add, Nat.add_comm]
theorem pw_lg : ∀ a, a < 256 → a ≠ 0 → pw (lg a) = a := by decide +kernel
theorem lg_lt : ∀ a, a < 256 → lg a < 255 := by decide +kernel
theorem lg_pw : ∀ i, i < 255 → lg (pw i) = i := by decide +kernel
theorem expL_get : ∀ i, i < 510 → expL[i]? = some (pw i) := by decide +kernel
theorem logL_get : ∀ i, i < 256 → logL[i]? = some (lg i) := by decide +kernel
theorem pw_255 : pw 255 = 1 := by decide +kernel
theorem pw_round (i : Nat) : pw (i + 255) = pw i := by
  have := itx_add i 255 1
  unfold pw
  rw [← this]
  show itx i (pw 255) = _
  rw [pw_255]
theorem pw_mod (i : Nat) : pw (i % 255) = pw i := by
  have : ∀ q r, pw (r + 255 * q) = pw r := by
    intro q
    induction q with
    | zero => intro r; rfl
    | succ q ih => intro r; rw [Nat.mul_succ, ← Nat.add_assoc, pw_round, ih]
  conv => rhs; rw [← Nat.mod_add_div i 255]
  rw [this]
theorem pw_ne_small : ∀ i, i < 255 → pw i ≠ 0 := by decide +kernel
theorem pw_ne (i : Nat) : pw i ≠ 0 := by
  rw [← pw_mod]
  exact pw_ne_small _ (Nat.mod_lt _ (by decide))
theorem pw_inj {i j : Nat} (h : pw i = pw j) : i % 255 = j % 255 := by
  rw [← pw_mod i, ← pw_mod j] at h
  have := congrArg lg h
  rw [lg_pw _ (Nat.mod_lt _ (by decide)), lg_pw _ (Nat.mod_lt _ (by decide))] at this
  exact this
/-- An element is nought or a power of two. -/
theorem as_pw {a : Nat} (ha : a < 256) : a = 0 ∨ ∃ i, i < 255 ∧ a = pw i := by
  by_cases h : a = 0
  · exact .inl h
  · exact .inr ⟨lg a, lg_lt a ha, (pw_lg a ha h).symm⟩
theorem mul_comm {a b : Nat} (ha : a < 256) (hb : b < 256) : mul a b = mul b a := by
  rcases as_pw ha with rfl | ⟨i, _, rfl⟩
  · rw [zero_mul, mul_zero]
  · rcases as_pw hb with rfl | ⟨j, _, rfl⟩
    · rw [zero_mul, mul_zero]
    · rw [pw_mul, pw_mul, Nat.add_comm]
theorem mul_assoc {a b c : Nat} (ha : a < 256) (hb : b < 256) (hc : c < 256) : mul (mul a b) c = mul a (mul b c) := by
  rcases as_pw ha with rfl | ⟨i, _, rfl⟩
  · rw [zero_mul, zero_mul, zero_mul]
  · rcases as_pw hb with rfl | ⟨j, _, rfl⟩
    · rw [zero_mul, mul_zero, zero_mul]
    · rcases as_pw hc with rfl | ⟨l, _, rfl⟩
      · rw [mul_zero, mul_zero, mul_zero]
      · rw [pw_mul, pw_mul, pw_mul, pw_mul, Nat.add_assoc]
theorem xor_mul {a b c : Nat} (ha : a < 256) (hb : b < 256) (hc : c < 256) : mul (a ^^^ b) c = mul a c ^^^ mul b c := by
  rw [mul_comm (xor_lt ha hb) hc, mul_xor, mul_comm hc ha, mul_comm hc hb]
theorem mul_eq_zero {a b : Nat} (ha : a < 256) (hb : b < 256) : mul a b = 0 ↔ a = 0 ∨ b = 0 := by
  rcases as_pw ha with rfl | ⟨i, _, rfl⟩
  · simp [zero_mul]
  · rcases as_pw hb with rfl | ⟨j, _, rfl⟩
    · simp [mul_zero]
    · simp [pw_mul, pw_ne]
/-- The inverse; 0 of 0. -/
def inv (a : Nat) : Nat := if a = 0 then 0 else pw (255 - lg a)
theorem inv_lt (a : Nat) : inv a < 256 := by
  unfold inv
  split
  · decide
  · exact pw_lt _
theorem inv_ne {a : Nat} (h : a ≠ 0) : inv a ≠ 0 := by
  unfold inv
  rw [if_neg h]
  exact pw_ne _
theorem mul_inv {a : Nat} (ha : a < 256) (h : a ≠ 0) : mul a (inv a) = 1 := by
  unfold inv
  rw [if_neg h]
  conv => lhs; arg 1; rw [← pw_lg a ha h]
  rw [pw_mul, show lg a + (255 - lg a) = 255 by have := lg_lt a ha; omega, pw_255]
/-- Reckoned by logarithms. -/
theorem mul_log {a b : Nat} (ha : a < 256) (hb : b < 256) (h : a ≠ 0) (h' : b ≠ 0) : mul a b = pw (lg a + lg b) := by
  conv => lhs; rw [← pw_lg a ha h, ← pw_lg b hb h']
  rw [pw_mul]
/-- Powers. -/
def powN (a : Nat) : Nat → Nat
  | 0 => 1
  | n + 1 => mul (powN a n) a
theorem powN_pw (i : Nat) : ∀ n, powN (pw i) n = pw (i * n)
  | 0 => rfl
  | n + 1 => by
    show mul (powN (pw i) n) (pw i) = _
    rw [powN_pw i n, pw_mul, Nat.mul_succ]
theorem powN_lt {a : Nat} (ha : a < 256) : ∀ n, powN a n < 256
  | 0 => (by decide : 1 < 256)
  | n + 1 => by
    show mul (powN a n) a < 256
    exact mul_lt (powN_lt ha n) a
/-- Powers, as the code reckons them. -/
def powG (a : Nat) (n : Int) : Nat := if n < 0 then 0 else if n = 0 then 1 else if a = 0 then 0 else pw (lg a * (n.toNat % 255) % 255)
end Go.Proofs.Ytcgafaecdjbmiaa
