/- Contracts of the field's other functions, and of the document's own. -/
import Derived.Test.YtcgafaecdjbmiaaGf
import Derived.Test.YtcgafaecdjbmiaaFieldB
import Derived.Test.YtcgafaecdjbmiaaBytes
namespace Go.Proofs.Ytcgafaecdjbmiaa
open Go Go.YtcgafaecdjbmiaaAbs
set_option linter.unusedSimpArgs false
set_option linter.unusedVariables false
set_option maxRecDepth 4000

theorem xor_u8 (a b : UInt8) : fwrap .u8 (((a.toNat % modulus .u8) ^^^ (b.toNat % modulus .u8) : Nat) : Int) = (((a ^^^ b).toNat : Nat) : Int) := by
  have e1 : a.toNat % modulus .u8 = a.toNat := Nat.mod_eq_of_lt (b_lt a)
  have e2 : b.toNat % modulus .u8 = b.toNat := Nat.mod_eq_of_lt (b_lt b)
  rw [e1, e2, ← UInt8.toNat_xor, fwrap_u8 (b_lt _)]
theorem fwrap_b (a : UInt8) : fwrap .u8 (a.toNat : Int) = (a.toNat : Nat) := fwrap_u8 (b_lt a)
theorem fwrap_b64 (a : UInt8) : fwrap .i64 (a.toNat : Int) = (a.toNat : Nat) := i64w _ (by omega) (by have := b_lt a; omega)
theorem mulB_ok (k : Nat) (h : Heap) (v : AV) (f : Fld h v) (x y : UInt8) :
    acall Try.prog (k + 1) 35 [v, .int .u8 (x.toNat : Nat), .int .u8 (y.toNat : Nat)] h = some (.int .u8 ((gm x y).toNat : Nat), h) := by
  rw [mul_ok k h v f _ _ (b_lt x) (b_lt y), gm_toNat]
theorem invB_ok (k : Nat) (h : Heap) (v : AV) (f : Fld h v) (x : UInt8) :
    acall Try.prog (k + 1) 31 [v, .int .u8 (x.toNat : Nat)] h = some (.int .u8 ((gi x).toNat : Nat), h) := by
  rw [inv_ok k h v f _ (b_lt x), gi_toNat]
def dotN (a b : List UInt8) (j : Nat) : UInt8 := ((List.zipWith gm a b).take j).foldl (· ^^^ ·) 0
theorem dotN_succ {a b : List UInt8} {j : Nat} {x y : UInt8} (hx : a[j]? = some x) (hy : b[j]? = some y) : dotN a b (j + 1) = dotN a b j ^^^ gm x y := by
  unfold dotN
  rw [List.take_add_one, List.getElem?_zipWith, hx, hy, List.foldl_append]
  rfl
theorem dotN_all {a b : List UInt8} {j : Nat} (h : j = min a.length b.length) : dotN a b j = dot a b := by
  unfold dotN dot
  rw [List.take_of_length_le (by rw [List.length_zipWith]; omega)]

theorem dot_ok (k : Nat) (h : Heap) (v v1 v2 : AV) (f : Fld h v) (a b : List UInt8) (r1 : Sl 1 a.length h v1 (a.map bb)) (r2 : Sl 1 b.length h v2 (b.map bb)) (hk : min a.length b.length + 2 < k) (hm : a.length < 2 ^ 62) :
    acall Try.prog (k + 1) 32 [v, v1, v2] h = some (.int .u8 ((dot a b).toNat : Nat), h) := by
  rw [acall_text [] Try.func32 (by kernel_rfl)]
  refine afuncT_of rfl (by simp [Try.f32]) ?_
  simp [Try.f32, r1.len', r2.len', aop_min2 (m := a.length) (n := b.length)]
  refine W_loop (fun m st => ∃ j, m = min a.length b.length - j ∧ j ≤ min a.length b.length ∧ st.h = h ∧ st.t.get 0 = some v ∧ st.t.get 1 = some v1 ∧ st.t.get 2 = some v2 ∧ st.t.get 7 = some (.int .u8 ((dotN a b j).toNat : Nat)) ∧
    st.t.get 13 = some (.int .i64 ((min a.length b.length : Nat) : Int)) ∧ st.t.get 14 = some (.int .i64 (j : Nat))) (min a.length b.length) (by omega) ⟨0, by simp [dotN]⟩ ?_
  rintro m ⟨t, h'⟩ ⟨j, rfl, hj, rfl, q0, q1, q2, q7, q13, q14⟩
  simp only at q0 q1 q2 q7 q13 q14 r1 r2 f
  by_cases hlt : j < min a.length b.length
  · obtain ⟨x, hx⟩ := getb (l := a) (j := j) (by omega)
    obtain ⟨y, hy⟩ := getb (l := b) (j := j) (by omega)
    obtain ⟨b1, i1, c1, o1, a1, a2, a3⟩ := r1.at1 (P := Try.prog) (ty := 31) (e := 5) (k := .i64) Try.underlying31 ts5 (bb_get hx)
    obtain ⟨b2, i2, c2, o2, p1, p2, p3⟩ := r2.at1 (P := Try.prog) (ty := 31) (e := 5) (k := .i64) Try.underlying31 ts5 (bb_get hy)
    have hs := dotN_succ hx hy
    generalize hM : min a.length b.length = M at *
    have hl := isLt (show (j : Int) < (M : Int) by omega)
    obtain ⟨k, rfl⟩ : ∃ k', k = k' + 1 := ⟨k - 1, by omega⟩
    simp [q0, q1, q2, q7, q13, q14, hl, a1, aload, Heap.row, a2, a3, p1, p2, p3, bb, mulB_ok k h' v f x y, i64w ((j : Int) + 1) (by omega) (by omega), xor_u8, ← hs]
    exact ⟨M - (j + 1), by omega, j + 1, by omega, by omega, by simp⟩
  · have : j = min a.length b.length := by omega
    subst this
    rw [dotN_all rfl] at q7
    simp [q0, q1, q2, q7, q13, q14]

/-! Comparisons of bytes, as facts. -/
theorem b_same {x y : UInt8} (h : x = y) : (((x.toNat : Nat) : Int) = ((y.toNat : Nat) : Int)) = True ∧ (x.toNat = y.toNat) = True ∧ (x = y) = True := ⟨eq_true (by rw [h]), eq_true (by rw [h]), eq_true h⟩
theorem b_is0 {x : UInt8} (h : x = 0) : (((x.toNat : Nat) : Int) = 0) = True ∧ (x.toNat = 0) = True ∧ (x = 0) = True := ⟨eq_true (by rw [h]; rfl), eq_true (by rw [h]; rfl), eq_true h⟩
theorem b_is1 {x : UInt8} (h : x = 1) : (((x.toNat : Nat) : Int) = 1) = True ∧ (x.toNat = 1) = True ∧ (x = 1) = True := ⟨eq_true (by rw [h]; rfl), eq_true (by rw [h]; rfl), eq_true h⟩
theorem b_not0 {x : UInt8} (h : x ≠ 0) : (((x.toNat : Nat) : Int) = 0) = False ∧ (x.toNat = 0) = False ∧ (x = 0) = False := ⟨eq_false (fun q => h (b_zero.2 (by omega))), eq_false (fun q => h (b_zero.2 q)), eq_false h⟩
end Go.Proofs.Ytcgafaecdjbmiaa
