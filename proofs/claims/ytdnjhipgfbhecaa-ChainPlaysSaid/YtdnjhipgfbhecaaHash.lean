/- chain.Hash and depotref5.Hash. -/
import Derived.Test.YtdnjhipgfbhecaaFacts
namespace Go.Proofs.Ytdnjhipgfbhecaa
open Go Go.YtdnjhipgfbhecaaAbs
set_option linter.unusedSimpArgs false
set_option linter.unusedVariables false

theorem i64s {n : Int} (h : -9223372036854775808 ≤ n) (h' : n ≤ 9223372036854775807) : fwrap .i64 n = n := i64w n h h'
def hstep (h : Nat) (b : UInt8) : Nat := ((h ^^^ b.toNat) * 16777619) % 4294967296
def hash (l : List UInt8) : Nat := l.foldl hstep 2166136261
theorem hash_eq (l : List UInt8) : hash l = l.foldl hstep 2166136261 := rfl
theorem hstep_lt (h : Nat) (b : UInt8) : hstep h b < 4294967296 := Nat.mod_lt _ (by decide)
theorem fold_lt (l : List UInt8) (h : Nat) (hh : h < 4294967296) : l.foldl hstep h < 4294967296 := by
  induction l generalizing h with
  | nil => exact hh
  | cons b l ih => exact ih _ (hstep_lt h b)
theorem hash_lt (l : List UInt8) : hash l < 4294967296 := fold_lt l _ (by decide)
theorem fwrap_u32 (n : Nat) : fwrap .u32 (n : Int) = ((n % 4294967296 : Nat) : Int) := rfl
theorem xor_u32 (v b : Nat) (f1 : v < 4294967296) (f2 : b < 4294967296) : v % modulus .u32 ^^^ b % modulus .u32 = v ^^^ b := by
  simp only [modulus]
  rw [Nat.mod_eq_of_lt f1, Nat.mod_eq_of_lt f2]
theorem xor_lt32 (v b : Nat) (f1 : v < 4294967296) (f2 : b < 4294967296) : v ^^^ b < 4294967296 := Nat.xor_lt_two_pow (n := 32) f1 f2
theorem mul_cast (n : Nat) : (n : Int) * 16777619 = ((n * 16777619 : Nat) : Int) := by omega
theorem step_eq (v b : Nat) (f1 : v < 4294967296) (f2 : b < 4294967296) :
    fwrap .u32 (fwrap .u32 ((v % modulus .u32 ^^^ b % modulus .u32 : Nat) : Int) * 16777619) = (((v ^^^ b) * 16777619 % 4294967296 : Nat) : Int) := by
  rw [xor_u32 v b f1 f2, fwrap_u32, Nat.mod_eq_of_lt (xor_lt32 v b f1 f2), mul_cast, fwrap_u32]
theorem hstep_eq (v : Nat) (b : UInt8) (f1 : v < 4294967296) : fwrap .u32 (fwrap .u32 ((v % modulus .u32 ^^^ b.toNat % modulus .u32 : Nat) : Int) * 16777619) = ((hstep v b : Nat) : Int) :=
  step_eq v b.toNat f1 (by have := b.toNat_lt; omega)
theorem fold_take {α β : Type} (f : β → α → β) (l : List α) (z : β) (i : Nat) (b : α) (h : l[i]? = some b) : (l.take (i + 1)).foldl f z = f ((l.take i).foldl f z) b := by
  rw [List.take_add_one, h, List.foldl_append]
  rfl
theorem fwrap_byte (b : UInt8) : fwrap .u32 (b.toNat : Nat) = (b.toNat : Nat) := by
  have := b.toNat_lt
  simp [fwrap] <;> omega

theorem hash_ok (k : Nat) (s : ByteArray) (hs : s.size < k) (hm : s.size < 2 ^ 62) (h : Heap) : acall Try.prog (k + 1) 12 [.str s] h = some (.int .u32 (hash s.data.toList : Nat), h) := by
  rw [acall_text [] Try.func12 (by kernel_rfl)]
  refine afuncT_of rfl (by simp [Try.f12]) ?_
  simp [Try.f12]
  refine W_loop (fun j st => ∃ i, j = s.size - i ∧ i ≤ s.size ∧ st.h = h ∧ st.t.get 0 = some (.str s) ∧ st.t.get 6 = some (.int .i64 (s.size : Nat)) ∧ st.t.get 7 = some (.int .i64 (i : Nat)) ∧
    st.t.get 3 = some (.int .u32 ((s.data.toList.take i).foldl hstep 2166136261 : Nat))) s.size (by omega) ⟨0, by simp⟩ ?_
  rintro j ⟨t, h'⟩ ⟨i, rfl, hi, rfl, h0, h6, h7, h3⟩
  simp only at h0 h6 h7 h3
  by_cases hlt : i < s.size
  · have hb : s.data[i]? = some s.data[i] := by simp
    have hl : s.data.toList[i]? = some s.data[i] := by simp
    simp (disch := omega) [h0, h6, h7, h3, hlt, hb, fwrap_byte, i64s, Nat.not_le.2 hlt]
    refine ⟨s.size - (i + 1), by omega, i + 1, rfl, by omega, by simp, ?_⟩
    rw [fold_take _ _ _ _ _ hl]
    exact hstep_eq _ _ (fold_lt _ _ (by decide))
  · have : i = s.size := by omega
    subst this
    have : s.data.toList.take s.size = s.data.toList := List.take_of_length_le (by rw [Array.length_toList]; exact Nat.le_refl _)
    rw [this, ← hash_eq] at h3
    simp [h0, h6, h7, h3]

theorem rhash_ok (k : Nat) (s : ByteArray) (hs : s.size < k) (hm : s.size < 2 ^ 62) (h : Heap) : acall Try.prog (k + 1) 18 [.str s] h = some (.int .u32 (hash s.data.toList : Nat), h) := by
  rw [acall_text [] Try.func18 (by kernel_rfl)]
  refine afuncT_of rfl (by simp [Try.f18]) ?_
  simp [Try.f18]
  refine W_loop (fun j st => ∃ i, j = s.size - i ∧ i ≤ s.size ∧ st.h = h ∧ st.t.get 0 = some (.str s) ∧ st.t.get 4 = some (.int .i64 (i : Nat)) ∧
    st.t.get 3 = some (.int .u32 ((s.data.toList.take i).foldl hstep 2166136261 : Nat))) s.size (by omega) ⟨0, by simp⟩ ?_
  rintro j ⟨t, h'⟩ ⟨i, rfl, hi, rfl, h0, h4, h3⟩
  simp only at h0 h4 h3
  by_cases hlt : i < s.size
  · have hb : s.data[i]? = some s.data[i] := by simp
    have hl : s.data.toList[i]? = some s.data[i] := by simp
    simp (disch := omega) [h0, h4, h3, hlt, hb, fwrap_byte, i64s, Nat.not_le.2 hlt]
    refine ⟨s.size - (i + 1), by omega, i + 1, rfl, by omega, by simp, ?_⟩
    rw [fold_take _ _ _ _ _ hl]
    exact hstep_eq _ _ (fold_lt _ _ (by decide))
  · have : i = s.size := by omega
    subst this
    have : s.data.toList.take s.size = s.data.toList := List.take_of_length_le (by rw [Array.length_toList]; exact Nat.le_refl _)
    rw [this, ← hash_eq] at h3
    simp [h0, h4, h3]
end Go.Proofs.Ytdnjhipgfbhecaa
