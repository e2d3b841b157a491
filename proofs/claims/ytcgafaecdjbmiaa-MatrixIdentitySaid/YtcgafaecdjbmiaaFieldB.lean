/- The field's laws over bytes. -/
import Derived.Test.YtcgafaecdjbmiaaField
namespace Go.Proofs.Ytcgafaecdjbmiaa

def gm (a b : UInt8) : UInt8 := UInt8.ofNat (mul a.toNat b.toNat)
def gi (a : UInt8) : UInt8 := UInt8.ofNat (inv a.toNat)
theorem ofNat_toNat {n : Nat} (h : n < 256) : (UInt8.ofNat n).toNat = n := by
  rw [UInt8.toNat_ofNat']
  omega
theorem b_lt (a : UInt8) : a.toNat < 256 := by have := a.toNat_lt; omega
theorem gm_toNat (a b : UInt8) : (gm a b).toNat = mul a.toNat b.toNat := ofNat_toNat (mul_lt (b_lt a) _)
theorem gi_toNat (a : UInt8) : (gi a).toNat = inv a.toNat := ofNat_toNat (inv_lt _)
theorem b_ext {a b : UInt8} (h : a.toNat = b.toNat) : a = b := UInt8.toNat_inj.1 h
theorem b_zero {a : UInt8} : a = 0 ↔ a.toNat = 0 := ⟨fun h => by rw [h]; rfl, fun h => b_ext (by rw [h]; rfl)⟩
theorem gm_comm (a b : UInt8) : gm a b = gm b a := b_ext (by rw [gm_toNat, gm_toNat, mul_comm (b_lt a) (b_lt b)])
theorem gm_assoc (a b c : UInt8) : gm (gm a b) c = gm a (gm b c) := b_ext (by rw [gm_toNat, gm_toNat, gm_toNat, gm_toNat, mul_assoc (b_lt a) (b_lt b) (b_lt c)])
theorem gm_xor (a b c : UInt8) : gm a (b ^^^ c) = gm a b ^^^ gm a c := b_ext (by rw [gm_toNat, UInt8.toNat_xor, UInt8.toNat_xor, gm_toNat, gm_toNat, mul_xor])
theorem xor_gm (a b c : UInt8) : gm (a ^^^ b) c = gm a c ^^^ gm b c := by rw [gm_comm, gm_xor, gm_comm c a, gm_comm c b]
theorem gm_one (a : UInt8) : gm a 1 = a := b_ext (by rw [gm_toNat]; exact mul_one _)
theorem one_gm (a : UInt8) : gm 1 a = a := by rw [gm_comm, gm_one]
theorem gm_zero (a : UInt8) : gm a 0 = 0 := b_ext (by rw [gm_toNat]; exact mul_zero _)
theorem zero_gm (a : UInt8) : gm 0 a = 0 := by rw [gm_comm, gm_zero]
theorem gm_eq_zero (a b : UInt8) : gm a b = 0 ↔ a = 0 ∨ b = 0 := by rw [b_zero, gm_toNat, mul_eq_zero (b_lt a) (b_lt b), ← b_zero, ← b_zero]
theorem gm_gi {a : UInt8} (h : a ≠ 0) : gm a (gi a) = 1 := b_ext (by rw [gm_toNat, gi_toNat, mul_inv (b_lt a) (fun q => h (b_zero.2 q))]; rfl)
theorem gi_zero : gi 0 = 0 := by decide +kernel
theorem gi_ne {a : UInt8} (h : a ≠ 0) : gi a ≠ 0 := fun q => inv_ne (fun z => h (b_zero.2 z)) (by rw [← gi_toNat]; exact b_zero.1 q)
theorem gi_unique {a b : UInt8} (h : gm a b = 1) : b = gi a := by
  have ha : a ≠ 0 := fun q => by rw [q, zero_gm] at h; exact absurd h (by decide)
  have := congrArg (gm (gi a)) h
  rw [← gm_assoc, gm_comm (gi a) a, gm_gi ha, one_gm, gm_one] at this
  exact this

/-- A row's dot with another one. -/
def dot (a b : List UInt8) : UInt8 := (List.zipWith gm a b).foldl (· ^^^ ·) 0
theorem foldl_xor (l : List UInt8) (z : UInt8) : l.foldl (· ^^^ ·) z = z ^^^ l.foldl (· ^^^ ·) 0 := by
  induction l generalizing z with
  | nil => simp
  | cons x l ih =>
    rw [List.foldl_cons, List.foldl_cons, ih, ih (0 ^^^ x), UInt8.zero_xor, UInt8.xor_assoc]
theorem dot_nil (b : List UInt8) : dot [] b = 0 := rfl
theorem dot_nil' (a : List UInt8) : dot a [] = 0 := by unfold dot; rw [List.zipWith_nil_right]; rfl
theorem dot_cons (x y : UInt8) (a b : List UInt8) : dot (x :: a) (y :: b) = gm x y ^^^ dot a b := by
  unfold dot
  rw [List.zipWith_cons_cons, List.foldl_cons, foldl_xor, UInt8.zero_xor]
theorem dot_comm : ∀ a b : List UInt8, dot a b = dot b a
  | [], b => by rw [dot_nil, dot_nil']
  | x :: a, [] => by rw [dot_nil, dot_nil']
  | x :: a, y :: b => by rw [dot_cons, dot_cons, gm_comm, dot_comm a b]
theorem dot_append : ∀ (a b c d : List UInt8), a.length = b.length → dot (a ++ c) (b ++ d) = dot a b ^^^ dot c d
  | [], [], c, d, _ => by rw [List.nil_append, List.nil_append, dot_nil, UInt8.zero_xor]
  | x :: a, y :: b, c, d, h => by
    rw [List.cons_append, List.cons_append, dot_cons, dot_cons, dot_append a b c d (by simpa using h), UInt8.xor_assoc]
/-- Sums, place by place. -/
def addL (a b : List UInt8) : List UInt8 := List.zipWith (· ^^^ ·) a b
theorem xor4b (a b c d : UInt8) : (a ^^^ b) ^^^ (c ^^^ d) = (a ^^^ c) ^^^ (b ^^^ d) := by
  rw [UInt8.xor_assoc, UInt8.xor_assoc, ← UInt8.xor_assoc b, UInt8.xor_comm b c, UInt8.xor_assoc c]
theorem dot_add : ∀ (a b c : List UInt8), b.length = c.length → dot a (addL b c) = dot a b ^^^ dot a c
  | [], b, c, _ => by rw [dot_nil, dot_nil, dot_nil]; rfl
  | x :: a, [], [], _ => by rw [dot_nil', show addL ([] : List UInt8) [] = [] from rfl, dot_nil']; rfl
  | x :: a, y :: b, z :: c, h => by
    show dot (x :: a) ((y ^^^ z) :: addL b c) = _
    rw [dot_cons, dot_cons, dot_cons, gm_xor, dot_add a b c (by simpa using h), xor4b]
/-- Powers. -/
def gpow (a : UInt8) (n : Nat) : UInt8 := UInt8.ofNat (powN a.toNat n)
theorem gpow_toNat (a : UInt8) (n : Nat) : (gpow a n).toNat = powN a.toNat n := ofNat_toNat (powN_lt (b_lt a) n)
end Go.Proofs.Ytcgafaecdjbmiaa
