/- What is read of what was written, whole and cut off. -/
import Derived.Test.YtnjpfjdnidekgaaReads
import Derived.Test.YtnjpfjdnidekgaaArgs
namespace Go.Proofs.Ytnjpfjdnidekgaa
open Go Go.YtnjpfjdnidekgaaAbs
set_option linter.unusedSimpArgs false
set_option linter.unusedVariables false
set_option maxRecDepth 4000

theorem pow9 {i : Nat} {m : Nat} (h : m * 128 ^ i < 18446744073709551616) : (i = 9 → m < 2) ∧ (10 ≤ i → m = 0) := by
  constructor
  · rintro rfl
    have : m * 9223372036854775808 < 18446744073709551616 := h
    omega
  · intro hi
    have : 128 ^ 10 ≤ 128 ^ i := Nat.pow_le_pow_right (by omega) hi
    have := Nat.mul_le_mul_left m this
    have e : (128 : Nat) ^ 10 = 1180591620717411303424 := by decide
    omega
theorem rdN_app : ∀ (f i u m : Nat) (rest : List UInt8), f + i = 10 → (0 < i → 0 < m) → m * 128 ^ i < 18446744073709551616 → rdN i u (vint f m ++ rest) = .inr (u + m * 128 ^ i, i + (vint f m).length)
  | 0, i, u, m, rest, hf, h0, hm => by
    have := (pow9 hm).2 (by omega)
    have := h0 (by omega)
    omega
  | f + 1, i, u, m, rest, hf, h0, hm => by
    have h9 := (pow9 hm).1
    simp only [vint]
    by_cases hlt : m < 128
    · rw [if_pos hlt]
      have hb : (UInt8.ofNat m).toNat = m := ofNat_b (by omega)
      simp only [List.singleton_append, rdN, hb]
      rw [if_neg (by omega), if_pos hlt]
      rfl
    · rw [if_neg hlt]
      have hb : (UInt8.ofNat (m % 128 + 128)).toNat = m % 128 + 128 := ofNat_b (by omega)
      simp only [List.cons_append, rdN, hb]
      rw [if_neg (by omega), if_neg (by omega)]
      have e1 : (m % 128 + 128) % 128 = m % 128 := by omega
      rw [e1]
      have e2 : m / 128 * 128 ^ (i + 1) + m % 128 * 128 ^ i = m * 128 ^ i := by
        rw [Nat.pow_succ, Nat.mul_comm (128 ^ i), ← Nat.mul_assoc, ← Nat.add_mul, Nat.mul_comm (m / 128), Nat.div_add_mod]
      have ih := rdN_app f (i + 1) (u + m % 128 * 128 ^ i) (m / 128) rest (by omega) (fun _ => by omega) (by omega)
      rw [ih]
      congr 2
      · omega
      · simp; omega
theorem rdN_cut : ∀ (f i u m : Nat) (L t : List UInt8), vint f m = L ++ t → t ≠ [] → f + i = 10 → (0 < i → 0 < m) → m * 128 ^ i < 18446744073709551616 → rdN i u L = .inl 3
  | _, i, u, m, [], t, hv, ht, hf, h0, hm => rfl
  | 0, i, u, m, x :: L, t, hv, ht, hf, h0, hm => by
    have := (pow9 hm).2 (by omega)
    have := h0 (by omega)
    omega
  | f + 1, i, u, m, x :: L, t, hv, ht, hf, h0, hm => by
    have h9 := (pow9 hm).1
    simp only [vint] at hv
    by_cases hlt : m < 128
    · rw [if_pos hlt] at hv
      simp at hv
      exact absurd hv.2.2 ht
    · rw [if_neg hlt] at hv
      simp only [List.cons_append, List.cons.injEq] at hv
      obtain ⟨rfl, hv⟩ := hv
      have hb : (UInt8.ofNat (m % 128 + 128)).toNat = m % 128 + 128 := ofNat_b (by omega)
      simp only [rdN, hb]
      rw [if_neg (by omega), if_neg (by omega)]
      have e2 : m / 128 * 128 ^ (i + 1) + m % 128 * 128 ^ i = m * 128 ^ i := by
        rw [Nat.pow_succ, Nat.mul_comm (128 ^ i), ← Nat.mul_assoc, ← Nat.add_mul, Nat.mul_comm (m / 128), Nat.div_add_mod]
      exact rdN_cut f (i + 1) _ (m / 128) L t hv ht (by omega) (fun _ => by omega) (by omega)
theorem unzig_zig {n : Int} : unzig (zig n) = n := by
  unfold unzig zig
  split <;> split <;> omega
theorem packN_len (n : Int) : 1 ≤ (packN n).length ∧ (packN n).length ≤ 11 := ⟨vint_pos _ _, vint_len _ _⟩
/-- A number is read. -/
theorem rdNum_app {l : List UInt8} {p : Nat} {n : Int} {rest : List UInt8} (h1 : -9223372036854775808 ≤ n) (h2 : n ≤ 9223372036854775807) (h : l.drop p = packN n ++ rest) : rdNum l p 0 = (n, p + (packN n).length, 0) := by
  unfold rdNum
  rw [if_pos rfl, h]
  have := rdN_app 10 0 0 (zig n) rest rfl (fun q => absurd q (Nat.lt_irrefl _)) (by have := zig_lt h1 h2; rw [Nat.pow_zero]; omega)
  unfold packN
  rw [this]
  simp [unzig_zig]
/-- .. cut off, it isn't. -/
theorem rdNum_cut {l : List UInt8} {p : Nat} {n : Int} {t : List UInt8} (h1 : -9223372036854775808 ≤ n) (h2 : n ≤ 9223372036854775807) (h : packN n = l.drop p ++ t) (ht : t ≠ []) : (rdNum l p 0).2.2 = 3 := by
  unfold rdNum
  rw [if_pos rfl, rdN_cut 10 0 0 (zig n) _ t h ht rfl (fun q => absurd q (Nat.lt_irrefl _)) (by have := zig_lt h1 h2; rw [Nat.pow_zero]; omega)]
theorem drop_drop' {l : List UInt8} {p : Nat} {a b : List UInt8} (h : l.drop p = a ++ b) : l.drop (p + a.length) = b := by
  rw [← List.drop_drop, h, List.drop_left]
/-- A text is read. -/
theorem rdText_app {l : List UInt8} {p : Nat} {s rest : List UInt8} {most : Int} (hs : (s.length : Int) ≤ most) (hm : s.length < 1000000000) (h : l.drop p = (packN (s.length : Nat) ++ s) ++ rest) : rdText l most p 0 = (s, p + (packN (s.length : Nat) ++ s).length, 0) := by
  rw [List.append_assoc] at h
  have e := rdNum_app (n := (s.length : Nat)) (by omega) (by omega) h
  have d := drop_drop' h
  have hl : (l.drop (p + (packN (s.length : Nat)).length)).length = s.length + rest.length := by rw [d, List.length_append]
  rw [List.length_drop] at hl
  have hlp := (packN_len (s.length : Nat)).1
  have hl2 : (l.drop p).length = (packN (s.length : Nat)).length + (s.length + rest.length) := by rw [h, List.length_append, List.length_append]
  rw [List.length_drop] at hl2
  unfold rdText
  rw [e]
  simp only
  rw [if_neg (by simp), if_neg (by omega), if_neg (by omega), d, Int.toNat_natCast, List.take_left, List.length_append, Nat.add_assoc]
theorem rdText_cut {l : List UInt8} {p : Nat} {s t : List UInt8} {most : Int} (hs : (s.length : Int) ≤ most) (hm : s.length < 1000000000) (h : packN (s.length : Nat) ++ s = l.drop p ++ t) (ht : t ≠ []) : (rdText l most p 0).2.2 ≠ 0 := by
  unfold rdText
  rcases List.append_eq_append_iff.1 h with ⟨a, h1, h2⟩ | ⟨c, h1, h2⟩
  · -- the number is whole
    have e := rdNum_app (n := (s.length : Nat)) (by omega) (by omega) h1
    have d := drop_drop' h1
    have hl : (l.drop (p + (packN (s.length : Nat)).length)).length = a.length := by rw [d]
    rw [List.length_drop] at hl
    have hl2 : (l.drop p).length = (packN (s.length : Nat)).length + a.length := by rw [h1, List.length_append]
    rw [List.length_drop] at hl2
    have hlp := (packN_len (s.length : Nat)).1
    have hst : s.length = a.length + t.length := by rw [h2, List.length_append]
    have htl : 0 < t.length := List.length_pos_iff.2 ht
    rw [e]
    simp only
    rw [if_neg (by simp), if_neg (by omega), if_pos (by omega)]
    simp
  · by_cases hc : c = []
    · subst hc
      rw [List.append_nil] at h1
      simp at h2
      have e := rdNum_app (l := l) (p := p) (n := (s.length : Nat)) (rest := []) (by omega) (by omega) (by rw [List.append_nil]; exact h1.symm)
      have hl2 : (l.drop p).length = (packN (s.length : Nat)).length := by rw [h1]
      rw [List.length_drop] at hl2
      have hlp := (packN_len (s.length : Nat)).1
      have htl : 0 < s.length := List.length_pos_iff.2 (h2 ▸ ht)
      rw [e]
      simp only
      rw [if_neg (by simp), if_neg (by omega), if_pos (by omega)]
      simp
    · have e := rdNum_cut (n := (s.length : Nat)) (by omega) (by omega) h1 hc
      rw [if_pos (by rw [e]; decide)]
      simp only
      rw [e]
      decide
theorem rdText_err {l : List UInt8} {most : Int} {p : Nat} {e : Int} (h : e ≠ 0) : (rdText l most p e).2.2 = e ∧ (rdNum l p e).2.2 = e := by
  have : rdNum l p e = (0, p, e) := by unfold rdNum; rw [if_neg h]
  unfold rdText
  rw [this]
  simp only
  rw [if_pos h]
  exact ⟨rfl, trivial⟩

/-- Numbers and texts, one pair behind the other. -/
def encP (x : Int × List UInt8) : List UInt8 := packN x.1 ++ (packN (x.2.length : Nat) ++ x.2)
def encL (l : List (Int × List UInt8)) : List UInt8 := (l.map encP).flatten
/-- They are read. -/
def readP (L : List UInt8) (x : Int × List UInt8) (s : Bool × Nat × Int) : Bool × Nat × Int :=
  if (rdNum L s.2.1 s.2.2).1 = x.1 then
    (decide ((rdText L 100 (rdNum L s.2.1 s.2.2).2.1 (rdNum L s.2.1 s.2.2).2.2).1 = x.2), (rdText L 100 (rdNum L s.2.1 s.2.2).2.1 (rdNum L s.2.1 s.2.2).2.2).2)
  else (false, (rdNum L s.2.1 s.2.2).2)
def readA (L : List UInt8) : List (Int × List UInt8) → Bool × Nat × Int → Bool × Nat × Int
  | [], s => s
  | x :: r, s => if s.1 then readA L r (readP L x s) else s
def PairOk (x : Int × List UInt8) : Prop := -9223372036854775808 ≤ x.1 ∧ x.1 ≤ 9223372036854775807 ∧ x.2.length ≤ 100
theorem readA_all : ∀ (l : List (Int × List UInt8)) (L : List UInt8) (p : Nat) (rest : List UInt8), (∀ x ∈ l, PairOk x) → L.drop p = encL l ++ rest → readA L l (true, p, 0) = (true, p + (encL l).length, 0)
  | [], L, p, rest, hl, h => by simp [readA, encL]
  | x :: l, L, p, rest, hl, h => by
    obtain ⟨x1, x2, x3⟩ := hl x (by simp)
    have h' : L.drop p = packN x.1 ++ ((packN (x.2.length : Nat) ++ x.2) ++ (encL l ++ rest)) := by rw [h]; simp [encL, encP]
    have e1 := rdNum_app x1 x2 h'
    have d1 := drop_drop' h'
    have e2 := rdText_app (most := 100) (by omega) (by omega) d1
    have d2 := drop_drop' d1
    have ih := readA_all l L _ rest (fun y hy => hl y (by simp [hy])) d2
    have hp : readP L x (true, p, 0) = (true, p + (packN x.1).length + (packN (x.2.length : Nat) ++ x.2).length, 0) := by
      unfold readP
      simp only [e1, e2]
      simp
    simp only [readA, if_true, hp, ih]
    congr 2
    simp [encL, encP]
    omega
theorem readA_err : ∀ (l : List (Int × List UInt8)) (L : List UInt8) (s : Bool × Nat × Int), s.2.2 ≠ 0 → (readA L l s).2.2 ≠ 0
  | [], L, s, h => h
  | x :: l, L, s, h => by
    simp only [readA]
    split
    · refine readA_err l L _ ?_
      have e1 := (rdText_err (l := L) (most := 100) (p := s.2.1) h).2
      unfold readP
      split
      · simp only
        rw [e1]
        rw [(rdText_err h).1]
        exact h
      · simp only
        rw [e1]
        exact h
    · exact h
theorem readA_cut : ∀ (l : List (Int × List UInt8)) (L : List UInt8) (p : Nat) (t : List UInt8), (∀ x ∈ l, PairOk x) → encL l = L.drop p ++ t → t ≠ [] → (readA L l (true, p, 0)).2.2 ≠ 0
  | [], L, p, t, hl, h, ht => by
    simp [encL] at h
    exact absurd h.2 ht
  | x :: l, L, p, t, hl, h, ht => by
    obtain ⟨x1, x2, x3⟩ := hl x (by simp)
    have h' : packN x.1 ++ ((packN (x.2.length : Nat) ++ x.2) ++ encL l) = L.drop p ++ t := by rw [← h]; simp [encL, encP]
    simp only [readA, if_true]
    rcases List.append_eq_append_iff.1 h' with ⟨a, h1, h2⟩ | ⟨c, h1, h2⟩
    · have e1 := rdNum_app x1 x2 h1
      have d1 := drop_drop' h1
      rcases List.append_eq_append_iff.1 h2 with ⟨a', g1, g2⟩ | ⟨c', g1, g2⟩
      · have e2 := rdText_app (s := x.2) (most := 100) (l := L) (rest := a') (by omega) (by omega) (by rw [d1]; exact g1)
        have d2 := drop_drop' (d1.trans g1)
        have hp : readP L x (true, p, 0) = (true, p + (packN x.1).length + (packN (x.2.length : Nat) ++ x.2).length, 0) := by
          unfold readP
          simp only [e1, e2]
          simp
        rw [hp]
        exact readA_cut l L _ t (fun y hy => hl y (by simp [hy])) (by rw [d2]; exact g2) ht
      · by_cases hc : c' = []
        · subst hc
          rw [List.append_nil] at g1
          have e2 := rdText_app (s := x.2) (most := 100) (l := L) (rest := []) (by omega) (by omega) (by rw [d1, List.append_nil]; exact g1.symm)
          have d2 := drop_drop' (l := L) (a := packN (x.2.length : Nat) ++ x.2) (b := []) (by rw [d1, List.append_nil]; exact g1.symm)
          have hp : readP L x (true, p, 0) = (true, p + (packN x.1).length + (packN (x.2.length : Nat) ++ x.2).length, 0) := by
            unfold readP
            simp only [e1, e2]
            simp
          rw [hp]
          exact readA_cut l L _ t (fun y hy => hl y (by simp [hy])) (by rw [d2]; simpa using g2.symm) ht
        · refine readA_err _ _ _ ?_
          have e2 := rdText_cut (s := x.2) (most := 100) (l := L) (p := p + (packN x.1).length) (by omega) (by omega) (by rw [d1]; exact g1) hc
          unfold readP
          simp only [e1]
          rw [if_pos trivial]
          exact e2
    · refine readA_err _ _ _ ?_
      by_cases hc : c = []
      · subst hc
        rw [List.append_nil] at h1
        have e1 := rdNum_app (l := L) (p := p) (rest := []) x1 x2 (by rw [List.append_nil]; exact h1.symm)
        have d1 := drop_drop' (l := L) (p := p) (a := packN x.1) (b := []) (by rw [List.append_nil]; exact h1.symm)
        have e2 := rdText_cut (most := 100) (l := L) (p := p + (packN x.1).length) (s := x.2) (t := packN (x.2.length : Nat) ++ x.2) (by omega) (by omega) (by rw [d1]; rfl) (by
          intro q
          have := (packN_len (x.2.length : Nat)).1
          have q2 := congrArg List.length q
          simp at q2
          rw [q2.1] at this
          simp at this)
        unfold readP
        simp only [e1]
        rw [if_pos trivial]
        exact e2
      · have e1 := rdNum_cut x1 x2 h1 hc
        unfold readP
        split
        · simp only
          rw [e1, (rdText_err (by decide)).1]
          decide
        · simp only
          rw [e1]
          decide
/-- No more than 100 bytes. -/
def cut100 (s : ByteArray) : ByteArray := if s.size ≤ 100 then s else s.extract 0 100
theorem cut100_le (s : ByteArray) : (cut100 s).size ≤ 100 := by
  unfold cut100
  split
  · assumption
  · simp
    omega
/-- The pairs that are written. -/
def pairs (a0 : List Int) (a1 : List ByteArray) (n : Nat) : List (Int × List UInt8) := (List.zipWith (fun x s => (x, sb (cut100 s))) a0 a1).take n
theorem pairs_get {a0 : List Int} {a1 : List ByteArray} {n j : Nat} {x : Int} {s : ByteArray} (h : j < n) (hx : a0[j]? = some x) (hs : a1[j]? = some s) : (pairs a0 a1 n)[j]? = some (x, sb (cut100 s)) := by
  unfold pairs
  rw [List.getElem?_take, if_pos h, List.getElem?_zipWith, hx, hs]
theorem txt_eq (l : List UInt8) (s : ByteArray) : (txt l = s) ↔ (l = sb s) := by
  unfold txt sb
  obtain ⟨⟨s⟩⟩ := s
  simp

end Go.Proofs.Ytnjpfjdnidekgaa
