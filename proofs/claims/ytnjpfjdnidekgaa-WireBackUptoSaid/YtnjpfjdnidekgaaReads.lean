/- Contracts of chapter 4's reader, and of the document's own: Num, Text, End. -/
import Derived.Test.YtnjpfjdnidekgaaRead
import Derived.Test.YtnjpfjdnidekgaaAbsU
namespace Go.Proofs.Ytnjpfjdnidekgaa
open Go Go.YtnjpfjdnidekgaaAbs
set_option linter.unusedSimpArgs false
set_option linter.unusedVariables false
set_option maxRecDepth 4000

theorem rdN_err : ∀ (r : List UInt8) (i u : Nat) (e : Int), rdN i u r = .inl e → e = 3 ∨ e = 4
  | [], i, u, e, h => by simp only [rdN] at h; cases h; exact .inl rfl
  | x :: r, i, u, e, h => by
    simp only [rdN] at h
    split at h
    · cases h; exact .inr rfl
    · split at h
      · cases h
      · exact rdN_err r _ _ e h
/-- What a reader tells as a number, where it then stands, what is wrong. -/
def rdNum (l : List UInt8) (p : Nat) (e : Int) : Int × Nat × Int :=
  if e = 0 then (match rdN 0 0 (l.drop p) with
    | .inl e' => (0, p, e')
    | .inr (u, c) => (unzig u, p + c, 0)) else (0, p, e)
theorem rdNum_le {l : List UInt8} {p : Nat} (e : Int) (hp : p ≤ l.length) : (rdNum l p e).2.1 ≤ l.length := by
  unfold rdNum
  split
  · split
    · exact hp
    · rename_i u c h
      have := (rdN_pack h).2.1
      rw [List.length_drop] at this
      simp only
      omega
  · exact hp
theorem rdNum_rng (l : List UInt8) (p : Nat) (e : Int) : -9223372036854775808 ≤ (rdNum l p e).1 ∧ (rdNum l p e).1 ≤ 9223372036854775807 := by
  unfold rdNum
  split
  · split
    · exact ⟨by simp only; omega, by simp only; omega⟩
    · rename_i u c h
      exact (rdN_pack h).2.2
  · exact ⟨by simp only; omega, by simp only; omega⟩
theorem rdNum_stay {l : List UInt8} {p : Nat} {e : Int} (h : (rdNum l p e).2.2 ≠ 0) : (rdNum l p e).2.1 = p ∧ (rdNum l p e).1 = 0 := by
  unfold rdNum at h ⊢
  split
  · rename_i he
    rw [if_pos he] at h
    split
    · exact ⟨rfl, rfl⟩
    · rename_i u c hr
      rw [hr] at h
      exact absurd rfl h
  · exact ⟨rfl, rfl⟩
theorem rdNum_was {l : List UInt8} {p : Nat} {e : Int} (h : (rdNum l p e).2.2 = 0) : e = 0 := by
  unfold rdNum at h
  split at h
  · assumption
  · exact h
/-- .. as a text of at most so many bytes. -/
def rdText (l : List UInt8) (most : Int) (p : Nat) (e : Int) : List UInt8 × Nat × Int :=
  if (rdNum l p e).2.2 ≠ 0 then ([], p, (rdNum l p e).2.2)
  else if (rdNum l p e).1 < 0 ∨ most < (rdNum l p e).1 then ([], p, 2)
  else if (l.length : Int) - (rdNum l p e).2.1 < (rdNum l p e).1 then ([], p, 3)
  else ((l.drop (rdNum l p e).2.1).take (rdNum l p e).1.toNat, (rdNum l p e).2.1 + (rdNum l p e).1.toNat, 0)
theorem rdText_le {l : List UInt8} {p : Nat} (most e : Int) (hp : p ≤ l.length) : (rdText l most p e).2.1 ≤ l.length := by
  have := rdNum_le e hp
  unfold rdText
  split
  · exact hp
  · split
    · exact hp
    · split
      · exact hp
      · simp only
        omega
/-- .. is nothing left over? -/
def rdEnd (l : List UInt8) (p : Nat) (e : Int) : Int := if e = 0 ∧ p < l.length then 5 else e
/-- Bytes as a text. -/
def txt (l : List UInt8) : ByteArray := ⟨⟨l⟩⟩

theorem Rdr.ld0 {h : Heap} {b p : Nat} {w : AV} {l : List UInt8} {e : Int} (r : Rdr h b w l p e) {ty : TypeId} (ht : tagg Try.prog ty = some false) : aload Try.prog h ty b 0 = some w := by simp [aload, Heap.row, r.1, ht]
theorem Rdr.ld1 {h : Heap} {b p : Nat} {w : AV} {l : List UInt8} {e : Int} (r : Rdr h b w l p e) {ty : TypeId} (ht : tagg Try.prog ty = some false) : aload Try.prog h ty b 1 = some (.int .i64 (p : Nat)) := by simp [aload, Heap.row, r.1, ht]
theorem Rdr.ld2 {h : Heap} {b p : Nat} {w : AV} {l : List UInt8} {e : Int} (r : Rdr h b w l p e) {ty : TypeId} (ht : tagg Try.prog ty = some false) : aload Try.prog h ty b 2 = some (.int .i64 e) := by simp [aload, Heap.row, r.1, ht]
theorem Rdr.lay1 {h : Heap} {b p : Nat} {w : AV} {l : List UInt8} {e : Int} (r : Rdr h b w l p e) (p' : Nat) : ∃ h', alay h b 1 [.int .i64 (p' : Nat)] = some h' ∧ Rdr h' b w l p' e ∧ Keep h.next (fun c => c = b) h h' :=
  ⟨_, by unfold alay; rw [r.1]; rfl, r.set p' e, Keep.set (F := fun c => c = b) (.inl rfl) _⟩
theorem Rdr.lay2 {h : Heap} {b p : Nat} {w : AV} {l : List UInt8} {e : Int} (r : Rdr h b w l p e) (e' : Int) : ∃ h', alay h b 2 [.int .i64 e'] = some h' ∧ Rdr h' b w l p e' ∧ Keep h.next (fun c => c = b) h h' :=
  ⟨_, by unfold alay; rw [r.1]; rfl, r.set p e', Keep.set (F := fun c => c = b) (.inl rfl) _⟩
theorem kb {h h' h'' : Heap} {b : Nat} (k1 : Keep h.next (fun c => c = b) h h') (k2 : Keep h'.next (fun c => c = b) h' h'') : Keep h.next (fun c => c = b) h h'' := k1.trans (k2.weak k1.1 fun _ _ q => q)

section
variable (k : Nat) (hk : 40 < k) (h : Heap) (b p : Nat) (w : AV) (l : List UInt8) (e : Int)
theorem num_all (hk : 40 < k) (r : Rdr h b w l p e) (hp : p ≤ l.length) (hl : l.length < 100000000) :
    ∃ v' h', acall Try.prog (k + 2) 20 [.ptr b 0] h = some (v', h') ∧ v' = .int .i64 (rdNum l p e).1 ∧ Rdr h' b w l (rdNum l p e).2.1 (rdNum l p e).2.2 ∧ Keep h.next (fun c => c = b) h h' := by
  unfold rdNum
  by_cases he : e = 0
  · subst he
    obtain ⟨v', h', a1, a2, a3⟩ := rdNum_ok k hk h b p w l r hp hl
    refine ⟨v', h', a1, ?_⟩
    rw [if_pos rfl]
    cases hr : rdN 0 0 (l.drop p) with
    | inl e' => rw [hr] at a2; exact ⟨a2.1, a2.2, a3⟩
    | inr uc => rw [hr] at a2; exact ⟨a2.1, a2.2, a3⟩
  · rw [if_neg he]
    rw [acall_text [] Try.func20 (by kernel_rfl)]
    refine afuncT_ex rfl (by simp [Try.f20]) ?_
    simp [Try.f20, r.ld2, he]
    exact ⟨r, Keep.refl _ _ _⟩

theorem count_ok (hk : 40 < k) (most : Int) (r : Rdr h b w l p e) (hp : p ≤ l.length) (hl : l.length < 100000000) :
    ∃ v' h', acall Try.prog (k + 3) 33 [.ptr b 0, .int .i64 most] h = some (v', h') ∧ Keep h.next (fun c => c = b) h h' ∧
      (((rdNum l p e).2.2 = 0 ∧ ¬ ((rdNum l p e).1 < 0 ∨ most < (rdNum l p e).1) ∧ v' = .int .i64 (rdNum l p e).1 ∧ Rdr h' b w l (rdNum l p e).2.1 0) ∨
       ((rdNum l p e).2.2 = 0 ∧ ((rdNum l p e).1 < 0 ∨ most < (rdNum l p e).1) ∧ Rdr h' b w l p 2) ∨ ((rdNum l p e).2.2 ≠ 0 ∧ Rdr h' b w l p (rdNum l p e).2.2)) := by
  rw [acall_text [] Try.func33 (by kernel_rfl)]
  refine afuncT_ex rfl (by simp [Try.f33]) ?_
  simp [Try.f33, r.ld1]
  refine use (num_all k h b p w l e hk r hp hl) ?_
  intro v h1 hq
  have e1 := hq.1
  have R := hq.2.1
  have k1 := hq.2.2
  clear hq
  subst e1
  have st := rdNum_stay (l := l) (p := p) (e := e)
  generalize rdNum l p e = q at *
  obtain ⟨n, p', e'⟩ := q
  simp only at R st ⊢
  by_cases he : e' = 0
  · subst he
    by_cases h1 : n < 0
    · simp [R.ld2, h1, isLt h1]
      refine use (fail_ok (k + 1) _ b p' w l 0 R p 2) ?_
      intro z h6 hq
      have R6 := hq.1
      have k6 := hq.2
      clear hq
      simp
      exact ⟨kb k1 k6, .inr ⟨.inl h1, R6⟩⟩
    · by_cases h2 : most < n
      · simp [R.ld2, h1, h2, isLt h2, isLe (show 0 ≤ n by omega)]
        refine use (fail_ok (k + 1) _ b p' w l 0 R p 2) ?_
        intro z h6 hq
        have R6 := hq.1
        have k6 := hq.2
        clear hq
        simp
        exact ⟨kb k1 k6, .inr ⟨.inr h2, R6⟩⟩
      · simp [R.ld2, h1, h2, isLe (show n ≤ most by omega), isLe (show 0 ≤ n by omega)]
        exact ⟨k1, R⟩
  · simp [R.ld2, he]
    rw [(st he).1] at R
    exact ⟨k1, R⟩
theorem text_ok (hk : 40 < k) (most : Int) (r : Rdr h b w l p e) (hp : p ≤ l.length) (hl : l.length < 100000000) :
    ∃ v' h', acall Try.prog (k + 4) 21 [.ptr b 0, .int .i64 most] h = some (v', h') ∧ v' = .str (txt (rdText l most p e).1) ∧ Rdr h' b w l (rdText l most p e).2.1 (rdText l most p e).2.2 ∧ Keep h.next (fun c => c = b) h h' := by
  rw [acall_text [] Try.func21 (by kernel_rfl)]
  refine afuncT_ex rfl (by simp [Try.f21]) ?_
  simp [Try.f21, r.ld1]
  refine use (count_ok k h b p w l e hk most r hp hl) ?_
  intro v h1 hq
  have k1 := hq.1
  have hh := hq.2
  clear hq
  have rle := rdNum_le e hp
  unfold rdText
  have hrng := rdNum_rng l p e
  generalize rdNum l p e = q at *
  obtain ⟨n, p', e'⟩ := q
  simp only at hh rle hrng ⊢
  rcases hh with ⟨rfl, h2, rfl, R⟩ | ⟨rfl, h2, R⟩ | ⟨h1, R⟩
  · have S := R.2.2.1
    rw [if_neg (by simp), if_neg h2]
    have wd := i64w ((l.length : Int) - (p' : Int)) (by omega) (by omega)
    by_cases h3 : (l.length : Int) - (p' : Int) < n
    · rw [if_pos h3]
      simp [R.ld2, R.ld1, R.ld0, S.len', wd, isLt h3]
      refine use (fail_ok (k + 2) _ b p' w l 0 R p 3) ?_
      intro z h6 hq
      have R6 := hq.1
      have k6 := hq.2
      clear hq
      simp
      exact ⟨rfl, R6, kb k1 k6⟩
    · rw [if_neg h3]
      obtain ⟨N, rfl⟩ := Int.eq_ofNat_of_zero_le (show 0 ≤ n by omega)
      obtain ⟨M, hM⟩ : ∃ M, M = p' + N := ⟨_, rfl⟩
      have w2 : fwrap .i64 ((p' : Int) + (N : Int)) = (M : Nat) := by rw [i64w _ (by omega) (by omega)]; omega
      obtain ⟨x, x1, X⟩ := S.sub (P := Try.prog) (ty := 22) Try.underlying22 ts5 (k := .i64) (k' := .i64) (i := p') (j := M) (by omega) (by omega)
      have hx : ((l.map bb).drop (p' * 1)).take ((M - p') * 1) = (((l.drop p').take N)).map bb := by
        rw [Nat.mul_one, Nat.mul_one, hM, Nat.add_sub_cancel_left, List.map_take, List.map_drop]
      rw [hx] at X
      have cv := aconv_bs (P := Try.prog) (src := 22) (dst := 9) (e := 5) X Try.underlying22 Try.underlying9 Try.underlying5
      obtain ⟨h7, y1, R7, k7⟩ := R.lay1 M
      simp [R.ld2, R.ld1, R.ld0, S.len', wd, isLe (show (N : Int) ≤ (l.length : Int) - (p' : Int) by omega), w2, x1, cv, y1]
      exact ⟨rfl, hM ▸ R7, kb k1 k7⟩
  · rw [if_neg (by simp), if_pos h2]
    simp [R.ld2]
    exact ⟨rfl, R, k1⟩
  · rw [if_pos h1]
    simp [R.ld2, h1]
    exact ⟨rfl, R, k1⟩
theorem end_ok (r : Rdr h b w l p e) (hp : p ≤ l.length) (hl : l.length < 100000000) :
    ∃ v' h', acall Try.prog (k + 1) 22 [.ptr b 0] h = some (v', h') ∧ v' = .int .i64 (rdEnd l p e) ∧ Rdr h' b w l p (rdEnd l p e) ∧ Keep h.next (fun c => c = b) h h' := by
  rw [acall_text [] Try.func22 (by kernel_rfl)]
  refine afuncT_ex rfl (by simp [Try.f22]) ?_
  unfold rdEnd
  have S := r.2.2.1
  by_cases he : e = 0
  · subst he
    by_cases h1 : p < l.length
    · obtain ⟨h7, y1, R7, k7⟩ := r.lay2 5
      simp [Try.f22, r.ld2, r.ld1, r.ld0, S.len', isLt (show (p : Int) < (l.length : Int) by omega), h1, y1, R7.ld2]
      exact ⟨R7, k7⟩
    · simp [Try.f22, r.ld2, r.ld1, r.ld0, S.len', isLe (show (l.length : Int) ≤ (p : Int) by omega), h1]
      exact ⟨r, Keep.refl _ _ _⟩
  · simp [Try.f22, r.ld2, r.ld1, r.ld0, he]
    exact ⟨r, Keep.refl _ _ _⟩
end
theorem rd_fit {i u y z s : Nat} (hu : u < 128 ^ i) (hyl : y < 256) (hz : z = y % 128) (hs : s = 7 * i) (hf : i ≤ 8 ∨ i = 9 ∧ z ≤ 1) :
    ∃ A U : Nat, A = z * 128 ^ i ∧ U = u + A ∧ U < 18446744073709551616 ∧ fwrap .u64 ((z : Int) * 2 ^ min s 64) = (A : Nat) ∧ fwrap .u64 (((u % modulus .u64) ||| (A % modulus .u64) : Nat) : Int) = (U : Nat) ∧ (i ≤ 8 → U < 128 ^ (i + 1)) := by
  have hp2 : (2 : Nat) ^ s = 128 ^ i := by rw [hs, Nat.pow_mul]
  have hmin : min s 64 = s := by omega
  obtain ⟨M, hM⟩ : ∃ M, M = 128 ^ i := ⟨_, rfl⟩
  obtain ⟨A, hA⟩ : ∃ A, A = z * M := ⟨_, rfl⟩
  rw [← hM] at hu
  have hzl : z < 128 := by omega
  have hA1 : A ≤ 127 * M := by rw [hA]; exact Nat.mul_le_mul_right _ (by omega)
  have hA2 : i = 9 → A ≤ M := fun q => by
    rw [hA]
    have : z * M ≤ 1 * M := Nat.mul_le_mul_right _ (by omega)
    omega
  have hM9 : i ≤ 8 → M * 128 ≤ 9223372036854775808 := fun q => by
    have := Nat.pow_le_pow_right (n := 128) (by omega) (show i + 1 ≤ 9 by omega)
    rw [Nat.pow_succ, ← hM] at this
    exact this
  have hM9' : i = 9 → M = 9223372036854775808 := fun q => by rw [hM, q]
  have hU : u + A < 18446744073709551616 := by
    rcases hf with q | ⟨q, _⟩
    · have := hM9 q; omega
    · have := hM9' q; have := hA2 q; omega
  refine ⟨A, u + A, by rw [hA, hM], rfl, hU, ?_, ?_, fun q => by rw [Nat.pow_succ, ← hM]; omega⟩
  · rw [hmin]
    have e : (z : Int) * 2 ^ s = ((z * 2 ^ s : Nat) : Int) := by simp
    rw [e, hp2, ← hM, ← hA, u64w (by omega)]
  · rw [u64m (by omega), u64m (by omega)]
    have e := Nat.two_pow_add_eq_or_of_lt (i := s) (b := u) (by rw [hp2, ← hM]; exact hu) z
    rw [hp2, ← hM, Nat.mul_comm, ← hA] at e
    rw [Nat.or_comm, ← e, Nat.add_comm, u64w (by omega)]
theorem rd_and127 {y : Nat} (h : y < 256) : fwrap .u8 (((y % modulus .u8) &&& (127 % modulus .u8) : Nat) : Int) = ((y % 128 : Nat) : Int) := by
  have e1 : y % modulus .u8 = y := Nat.mod_eq_of_lt h
  have e2 : 127 % modulus .u8 = 127 := by decide
  have e3 : y &&& 127 = y % 128 := Nat.and_two_pow_sub_one_eq_mod y 7
  rw [e1, e2, e3, fwrap_mod8, Nat.mod_eq_of_lt (by omega)]
theorem rd_and1 {u : Nat} (h : u < 18446744073709551616) : fwrap .u64 (((u % modulus .u64) &&& (1 % modulus .u64) : Nat) : Int) = ((u % 2 : Nat) : Int) := by
  rw [u64m h, u64m (by omega), Nat.and_one_is_mod, u64w (by omega)]

section
variable (k : Nat) (h : Heap) (b p : Nat) (w : AV) (l : List UInt8) (e : Int)
theorem rfail_ok (e' : Int) (r : Rdr h b w l p 0) :
    ∃ v' h', acall Try.prog (k + 1) 34 [.ptr b 0, .int .i64 e'] h = some (v', h') ∧ Rdr h' b w l p e' ∧ Keep h.next (fun c => c = b) h h' := by
  rw [acall_text [] Try.func34 (by kernel_rfl)]
  refine afuncT_ex rfl (by simp [Try.f34]) ?_
  obtain ⟨h7, y1, R7, k7⟩ := r.lay2 e'
  simp [Try.f34, r.ld2, y1]
  exact ⟨R7, k7⟩
set_option maxHeartbeats 1000000 in
theorem rnum_all (hk : 40 < k) (r : Rdr h b w l p e) (hp : p ≤ l.length) (hl : l.length < 100000000) :
    ∃ v' h', acall Try.prog (k + 2) 25 [.ptr b 0] h = some (v', h') ∧ v' = .int .i64 (rdNum l p e).1 ∧ Rdr h' b w l (rdNum l p e).2.1 (rdNum l p e).2.2 ∧ Keep h.next (fun c => c = b) h h' := by
  rw [acall_text [] Try.func25 (by kernel_rfl)]
  refine afuncT_ex rfl (by simp [Try.f25]) ?_
  unfold rdNum
  by_cases he : e = 0
  · subst he
    rw [if_pos rfl]
    obtain ⟨W0, hW⟩ : ∃ W0, W0 = rdN 0 0 (l.drop p) := ⟨_, rfl⟩
    rw [← hW]
    have S := r.2.2.1
    simp [Try.f25, r.ld2]
    refine W_loop (fun m st => ∃ (i u : Nat), m = 10 - i ∧ i ≤ 9 ∧ u < 128 ^ i ∧ p + i ≤ l.length ∧ st.t.get 0 = some (.ptr b 0) ∧ st.t.get 3 = some (.int .u64 (u : Nat)) ∧ st.t.get 4 = some (.int .i64 (i : Nat)) ∧ st.h = h ∧ W0 = rdN i u (l.drop (p + i))) 10 (by omega)
      ⟨0, 0, by simp [hp, hW]⟩ ?_
    rintro m ⟨t, h5⟩ ⟨i, u, rfl, hi, hu, hpi, q0, q3, q4, rfl, hE⟩
    simp only at q0 q3 q4 r S
    obtain ⟨q, hq⟩ : ∃ q, q = p + i := ⟨_, rfl⟩
    rw [← hq] at hpi hE
    have w1 : fwrap .i64 ((p : Int) + (i : Int)) = (q : Nat) := by rw [i64w _ (by omega) (by omega)]; omega
    by_cases hend : q = l.length
    · subst hend
      simp [rdN] at hE
      subst hE
      simp [q0, q3, q4, r.ld1, r.ld0, S.len', w1]
      refine use (rfail_ok k h5 b p w l 3 r) ?_
      intro z h6 hq
      have R6 := hq.1
      have k6 := hq.2
      clear hq
      simp
      exact ⟨R6, k6⟩
    · obtain ⟨x, hx⟩ := getb (l := l) (j := q) (by omega)
      obtain ⟨y, hy⟩ : ∃ y, y = x.toNat := ⟨_, rfl⟩
      have hyl : y < 256 := by rw [hy]; exact x.toNat_lt
      have hdr : l.drop q = x :: l.drop (q + 1) := by
        obtain ⟨a1, a2⟩ := List.getElem?_eq_some_iff.1 hx
        rw [List.drop_eq_getElem_cons a1, a2]
      rw [hdr] at hE
      simp only [rdN, ← hy] at hE
      have ix := S.idx1 (P := Try.prog) Try.underlying22 ts5 (j := q) (by omega) .i64
      have ld := S.ld (P := Try.prog) ta5 (bb_get hx)
      have hbx : bb x = .int .u8 (y : Nat) := by rw [hy]; rfl
      rw [hbx] at ld
      obtain ⟨bad, hbad⟩ : ∃ bad : Bool, bad = decide ((0 < i ∧ y = 0) ∨ (i = 9 ∧ 1 < y)) := ⟨_, rfl⟩
      simp [q0, q3, q4, r.ld1, r.ld0, S.len', w1, isLt (show (q : Int) < (l.length : Int) by omega), ix, ld, -W_regionR0, W_stop 10]
      refine W_cutR rfl (fun s => s.h = h5 ∧ s.t.get 0 = some (.ptr b 0) ∧ s.t.get 3 = some (.int .u64 (u : Nat)) ∧ s.t.get 4 = some (.int .i64 (i : Nat)) ∧ s.t.get 5 = some (.int .u8 (y : Nat)) ∧ s.t.get 52 = some (.bool bad)) ?_ ?_
      · simp [q0, q3, q4]
        refine wantT (fun c1 => ?_) (fun c1 => ?_)
        · simp [q0, q3, q4, c1]
          refine wantNF (fun c2 => ?_) (fun c2 => ?_)
          · simp [q0, q3, q4, c1, c2, hbad]
            simp [show 0 < i by omega, show i = 9 by omega, show ¬ 1 < y by omega]
          · simp [q0, q3, q4, c1, c2, hbad]
            omega
        · simp [q0, q3, q4, c1]
          refine wantNT (fun c2 => ?_) (fun c2 => ?_)
          · simp [q0, q3, q4, c1, c2, hbad]
            simp [show 0 < i by omega, show ¬ i = 9 by omega]
          · simp [q0, q3, q4, c1, c2, hbad]
      · rintro ⟨t2, h6⟩ ⟨rfl, q0, q3, q4, q5, q52⟩
        simp only at q0 q3 q4 q5 q52
        cases bad with
        | true =>
          have hb := of_decide_eq_true hbad.symm
          rw [if_pos hb] at hE
          subst hE
          simp [q0, q3, q4, q5, q52]
          refine use (rfail_ok k h6 b p w l 4 r) ?_
          intro z h7 hq
          have R6 := hq.1
          have k6 := hq.2
          clear hq
          simp
          exact ⟨R6, k6⟩
        | false =>
          have hb := of_decide_eq_false hbad.symm
          rw [if_neg hb] at hE
          obtain ⟨z, hz⟩ : ∃ z, z = y % 128 := ⟨_, rfl⟩
          obtain ⟨s, hs⟩ : ∃ s, s = 7 * i := ⟨_, rfl⟩
          obtain ⟨A, U, hA, hU, hUl, w6, w7, hU8⟩ := rd_fit hu hyl hz hs (by omega)
          have w2 : fwrap .i64 (7 * (i : Int)) = (s : Nat) := by rw [i64w _ (by omega) (by omega)]; omega
          have w4 := rd_and127 hyl
          rw [← hz] at w4
          have w5 : fwrap .u64 (z : Int) = (z : Nat) := u64w (by omega)
          have w8 := i64w ((i : Int) + 1) (by omega) (by omega)
          have w9 := i64w ((q : Int) + 1) (by omega) (by omega)
          obtain ⟨h8, y1, R7, k7⟩ := r.lay1 (q + 1)
          rw [show ((q + 1 : Nat) : Int) = (q : Int) + 1 by omega] at y1
          by_cases hy128 : y < 128
          · rw [if_pos hy128] at hE
            have hzy : z = y := by omega
            rw [← hzy, ← hA, ← hU] at hE
            have v2 := rd_and1 hUl
            obtain ⟨V, hV⟩ : ∃ V, V = U / 2 := ⟨_, rfl⟩
            have v1 : fwrap .i64 ((U : Int) / 2) = (V : Nat) := by rw [i64w _ (by omega) (by omega)]; omega
            subst hE
            have R8 : Rdr h8 b w l (p + (i + 1)) 0 := by rw [show p + (i + 1) = q + 1 by omega]; exact R7
            by_cases hev : U % 2 = 0
            · rw [hev] at v2
              have hun : unzig U = (V : Nat) := by unfold unzig; rw [if_pos hev, hV]
              simp [q0, q3, q4, q5, q52, w2, w4, w5, w6, w7, isLt (show (y : Int) < 128 by omega), r.ld1, w1, w9, y1, v1, v2]
              exact ⟨hun.symm, R8, k7⟩
            · rw [show U % 2 = 1 by omega] at v2
              have hun : unzig U = -1 - (V : Nat) := by unfold unzig; rw [if_neg hev, hV]
              have hb1 : -9223372036854775808 ≤ (V : Int) ∧ (V : Int) ≤ 9223372036854775807 := by omega
              simp [q0, q3, q4, q5, q52, w2, w4, w5, w6, w7, isLt (show (y : Int) < 128 by omega), r.ld1, w1, w9, y1, v1, v2, hb1.1, hb1.2]
              exact ⟨hun.symm, R8, k7⟩
          · rw [if_neg hy128, ← hz, ← hA, ← hU] at hE
            simp [q0, q3, q4, q5, q52, w2, w4, w5, w6, w7, isLe (show (128 : Int) ≤ (y : Int) by omega), w8]
            rw [show q + 1 = p + (i + 1) by omega] at hE
            exact ⟨10 - (i + 1), by omega, i + 1, rfl, by omega, U, hU8 (by omega), by omega, rfl, by simp, hE⟩
  · rw [if_neg he]
    simp [Try.f25, r.ld2, he]
    exact ⟨r, Keep.refl _ _ _⟩
theorem rtext_ok (hk : 40 < k) (most : Int) (r : Rdr h b w l p e) (hp : p ≤ l.length) (hl : l.length < 100000000) :
    ∃ v' h', acall Try.prog (k + 4) 26 [.ptr b 0, .int .i64 most] h = some (v', h') ∧ v' = .str (txt (rdText l most p e).1) ∧ Rdr h' b w l (rdText l most p e).2.1 (rdText l most p e).2.2 ∧ Keep h.next (fun c => c = b) h h' := by
  rw [acall_text [] Try.func26 (by kernel_rfl)]
  refine afuncT_ex rfl (by simp [Try.f26]) ?_
  simp [Try.f26, r.ld1]
  refine use (rnum_all (k + 1) h b p w l e (by omega) r hp hl) ?_
  intro v h1 hq
  have e1 := hq.1
  have R := hq.2.1
  have k1 := hq.2.2
  clear hq
  subst e1
  have rle := rdNum_le e hp
  unfold rdText
  have hrng := rdNum_rng l p e
  have st := rdNum_stay (l := l) (p := p) (e := e)
  generalize rdNum l p e = q at *
  obtain ⟨n, p', e'⟩ := q
  simp only at R rle hrng st ⊢
  by_cases he : e' = 0
  · subst he
    rw [if_neg (by simp)]
    have S := R.2.2.1
    have wd := i64w ((l.length : Int) - (p' : Int)) (by omega) (by omega)
    have fin : ∀ (h6 : Heap) (e6 : Int), Rdr h6 b w l p' e6 → Keep h1.next (fun c => c = b) h1 h6 → ∃ h7, alay h6 b 1 [.int .i64 (p : Nat)] = some h7 ∧ Rdr h7 b w l p e6 ∧ Keep h.next (fun c => c = b) h h7 := fun h6 e6 R6 k6 => by
      obtain ⟨h7, y1, R7, k7⟩ := R6.lay1 p
      exact ⟨h7, y1, R7, kb k1 (kb k6 k7)⟩
    by_cases h2 : n < 0 ∨ most < n
    · rw [if_pos h2]
      by_cases h3 : n < 0
      · simp [R.ld2, isLt h3]
        refine use (rfail_ok (k + 2) _ b p' w l 2 R) ?_
        intro z h6 hq
        have R6 := hq.1
        have k6 := hq.2
        clear hq
        obtain ⟨h7, y1, R7, k7⟩ := fin h6 2 R6 k6
        simp [R6.ld2, y1]
        exact ⟨rfl, R7, k7⟩
      · have h4 : most < n := by omega
        simp [R.ld2, isLe (show 0 ≤ n by omega), isLt h4]
        refine use (rfail_ok (k + 2) _ b p' w l 2 R) ?_
        intro z h6 hq
        have R6 := hq.1
        have k6 := hq.2
        clear hq
        obtain ⟨h7, y1, R7, k7⟩ := fin h6 2 R6 k6
        simp [R6.ld2, y1]
        exact ⟨rfl, R7, k7⟩
    · rw [if_neg h2]
      have l1 := isLe (show 0 ≤ n by omega)
      have l2 := isLe (show n ≤ most by omega)
      by_cases h3 : (l.length : Int) - (p' : Int) < n
      · rw [if_pos h3]
        simp [R.ld2, R.ld1, R.ld0, S.len', wd, l1, l2, isLt h3]
        refine use (rfail_ok (k + 2) _ b p' w l 3 R) ?_
        intro z h6 hq
        have R6 := hq.1
        have k6 := hq.2
        clear hq
        obtain ⟨h7, y1, R7, k7⟩ := fin h6 3 R6 k6
        simp [R6.ld2, y1]
        exact ⟨rfl, R7, k7⟩
      · rw [if_neg h3]
        obtain ⟨N, rfl⟩ := Int.eq_ofNat_of_zero_le (show 0 ≤ n by omega)
        obtain ⟨M, hM⟩ : ∃ M, M = p' + N := ⟨_, rfl⟩
        have w2 : fwrap .i64 ((p' : Int) + (N : Int)) = (M : Nat) := by rw [i64w _ (by omega) (by omega)]; omega
        obtain ⟨x, x1, X⟩ := S.sub (P := Try.prog) (ty := 22) Try.underlying22 ts5 (k := .i64) (k' := .i64) (i := p') (j := M) (by omega) (by omega)
        have hx : ((l.map bb).drop (p' * 1)).take ((M - p') * 1) = (((l.drop p').take N)).map bb := by
          rw [Nat.mul_one, Nat.mul_one, hM, Nat.add_sub_cancel_left, List.map_take, List.map_drop]
        rw [hx] at X
        have cv := aconv_bs (P := Try.prog) (src := 22) (dst := 9) (e := 5) X Try.underlying22 Try.underlying9 Try.underlying5
        obtain ⟨h7, y1, R7, k7⟩ := R.lay1 M
        simp [R.ld2, R.ld1, R.ld0, S.len', wd, l1, l2, isLe (show (N : Int) ≤ (l.length : Int) - (p' : Int) by omega), w2, x1, cv, y1]
        exact ⟨rfl, hM ▸ R7, kb k1 k7⟩
  · rw [if_pos he]
    simp [R.ld2, he]
    rw [(st he).1] at R
    exact ⟨rfl, R, k1⟩
theorem rend_ok (r : Rdr h b w l p e) (hp : p ≤ l.length) (hl : l.length < 100000000) :
    ∃ v' h', acall Try.prog (k + 2) 27 [.ptr b 0] h = some (v', h') ∧ v' = .int .i64 (rdEnd l p e) ∧ Rdr h' b w l p (rdEnd l p e) ∧ Keep h.next (fun c => c = b) h h' := by
  rw [acall_text [] Try.func27 (by kernel_rfl)]
  refine afuncT_ex rfl (by simp [Try.f27]) ?_
  unfold rdEnd
  have S := r.2.2.1
  by_cases he : e = 0
  · subst he
    by_cases h1 : p < l.length
    · rw [if_pos ⟨rfl, h1⟩]
      simp [Try.f27, r.ld2, r.ld1, r.ld0, S.len', isLt (show (p : Int) < (l.length : Int) by omega)]
      refine use (rfail_ok k h b p w l 5 r) ?_
      intro z h7 hq
      have R7 := hq.1
      have k7 := hq.2
      clear hq
      simp [R7.ld2]
      exact ⟨R7, k7⟩
    · simp [Try.f27, r.ld2, r.ld1, r.ld0, S.len', isLe (show (l.length : Int) ≤ (p : Int) by omega), h1]
      exact ⟨r, Keep.refl _ _ _⟩
  · simp [Try.f27, r.ld2, r.ld1, r.ld0, he]
    exact ⟨r, Keep.refl _ _ _⟩
end
theorem Rdr.keep {h h' : Heap} {b p : Nat} {w : AV} {l : List UInt8} {e : Int} {F : Nat → Prop} (r : Rdr h b w l p e) (K : Keep h.next F h h') (hb : ¬ F b) (hw : ∀ c i n k s x, w = .sl c i n k s x → ¬ F c) : Rdr h' b w l p e := by
  obtain ⟨r1, r2, r3, r4⟩ := r
  refine ⟨by rw [K.2 b r2 hb]; exact r1, Nat.lt_of_lt_of_le r2 K.1, r3.keep K fun c i n k s x q => ⟨?_, hw c i n k s x q⟩, r4⟩
  subst q
  have := (show Sl 1 l.length h (.sl c i n k s x) (l.map bb) from r3)
  rcases this with ⟨q, _⟩ | ⟨q, _⟩ | ⟨c', i', cap, ex, cc, ro, q, q2, _⟩
  · cases q
  · cases q
  · cases q; exact q2
theorem sl_lt {sz n : Nat} {h : Heap} {v : AV} {l : List AV} (r : Sl sz n h v l) : ∀ c i n k s x, v = .sl c i n k s x → c < h.next := by
  rintro c i n k s x rfl
  rcases r with ⟨q, _⟩ | ⟨q, _⟩ | ⟨c', i', cap, ex, cc, ro, q, q2, _⟩
  · cases q
  · cases q
  · cases q; exact q2

end Go.Proofs.Ytnjpfjdnidekgaa
