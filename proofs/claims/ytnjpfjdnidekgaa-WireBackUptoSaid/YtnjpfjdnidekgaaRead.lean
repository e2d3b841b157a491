/- Contracts of chapter 4's reader. -/
import Derived.Test.YtnjpfjdnidekgaaPack
import Derived.Test.YtnjpfjdnidekgaaAbsT
namespace Go.Proofs.Ytnjpfjdnidekgaa
open Go Go.YtnjpfjdnidekgaaAbs
set_option linter.unusedSimpArgs false
set_option linter.unusedVariables false
set_option maxRecDepth 4000

/-- A reader in block b: its bytes, its place, what is wrong. -/
def Rdr (h : Heap) (b : Nat) (w : AV) (l : List UInt8) (p : Nat) (e : Int) : Prop :=
  h.get b = some (.cells [w, .int .i64 (p : Nat), .int .i64 e] false) ∧ b < h.next ∧ Sl 1 l.length h w (l.map bb) ∧ ∀ c i n k s x, w = .sl c i n k s x → c ≠ b
theorem Rdr.set {h : Heap} {b : Nat} {w : AV} {l : List UInt8} {p : Nat} {e : Int} (r : Rdr h b w l p e) (p' : Nat) (e' : Int) : Rdr (h.set b (.cells [w, .int .i64 (p' : Nat), .int .i64 e'] false)) b w l p' e' := by
  obtain ⟨_, r2, r3, r4⟩ := r
  refine ⟨get_set_self _ _ _, r2, r3.keep (m := h.next) (F := fun c => c = b) (Keep.set (F := fun c => c = b) (.inl rfl) _) fun c i n k s x hw => ⟨?_, r4 c i n k s x hw⟩, r4⟩
  rcases r3 with ⟨q, _⟩ | ⟨q, _⟩ | ⟨c', i', cap, ex, cc, ro, q, q2, _⟩
  · rw [q] at hw; cases hw
  · rw [q] at hw; cases hw
  · rw [q] at hw; cases hw; exact q2

theorem read_ok (k : Nat) (h : Heap) (v : AV) (l : List UInt8) (r : Sl 1 l.length h v (l.map bb)) (hl : l.length < 100000000) :
    ∃ v' h', acall Try.prog (k + 2) 19 [v] h = some (v', h') ∧ ∃ (b : Nat) (w : AV), v' = .ptr b 0 ∧ h.next ≤ b ∧ b < h'.next ∧ Rdr h' b w l 0 0 ∧ Keep h.next nob h h' := by
  rw [acall_text [] Try.func19 (by kernel_rfl)]
  refine afuncT_ex rfl (by simp [Try.f19]) ?_
  simp [Try.f19]
  refine use (grown_ok k h v l 0 r hl (by omega)) ?_
  intro w h2 hh
  have hV := hh.1.sl
  have hK := hh.2
  clear hh
  have fin : ∀ h3, h3 = h2.new (.cells [w, .int .i64 0, .int .i64 0] false) → ∃ (b : Nat) (w' : AV), AV.ptr h2.next 0 = .ptr b 0 ∧ h.next ≤ b ∧ b < h3.next ∧ Rdr h3 b w' l 0 0 ∧ Keep h.next nob h h3 := fun h3 e => by
    subst e
    exact ⟨h2.next, w, rfl, hK.1, Nat.lt_succ_self _, ⟨get_new_self _ _, Nat.lt_succ_self _, hV.new _, by
      intro c i n k s x hw
      rcases hV with ⟨q, _⟩ | ⟨q, _⟩ | ⟨c', i', cap, ex, cc, ro, q, q2, _⟩
      · rw [q] at hw; cases hw
      · rw [q] at hw; cases hw
      · rw [q] at hw; cases hw; exact Nat.ne_of_lt q2⟩, hK.trans (Keep.new hK.1 _)⟩
  have f := fin _ rfl
  rcases hV with ⟨rfl, _⟩ | ⟨rfl, _⟩ | ⟨b, i, cap, ex, c, ro, rfl, _⟩ <;> simp [afill, aalloc, AV.row1, AV.row, AV.one] <;> simpa using f
theorem fail_ok (k : Nat) (h : Heap) (b p : Nat) (w : AV) (l : List UInt8) (e : Int) (r : Rdr h b w l p e) (p' : Nat) (e' : Int) :
    ∃ v' h', acall Try.prog (k + 1) 32 [.ptr b 0, .int .i64 (p' : Nat), .int .i64 e'] h = some (v', h') ∧ Rdr h' b w l p' e' ∧ Keep h.next (fun c => c = b) h h' := by
  rw [acall_text [] Try.func32 (by kernel_rfl)]
  refine afuncT_ex rfl (by simp [Try.f32]) ?_
  have g := r.1
  have s1 : alay h b 1 [.int .i64 (p' : Nat)] = some (h.set b (.cells [w, .int .i64 (p' : Nat), .int .i64 e] false)) := by
    unfold alay; rw [g]; rfl
  have r1 := r.set p' e
  generalize hh1 : h.set b (.cells [w, .int .i64 (p' : Nat), .int .i64 e] false) = h1 at s1 r1
  have s2 : alay h1 b 2 [.int .i64 e'] = some (h1.set b (.cells [w, .int .i64 (p' : Nat), .int .i64 e'] false)) := by
    unfold alay; rw [r1.1]; rfl
  have r2 := r1.set p' e'
  have kk : Keep h.next (fun c => c = b) h h1 := by rw [← hh1]; exact Keep.set (F := fun c => c = b) (.inl rfl) _
  have k2 := kk.trans (Keep.set (n := h.next) (F := fun c => c = b) (.inl rfl) (.cells [w, .int .i64 (p' : Nat), .int .i64 e'] false))
  simp [Try.f32, AV.row1, AV.row, AV.one, s1, s2]
  exact ⟨r2, k2⟩
/-- What a number's bytes say: what is wrong, or the number and how many bytes it took. -/
def rdN (i u : Nat) : List UInt8 → Sum Int (Nat × Nat)
  | [] => .inl 3
  | x :: r => if (0 < i ∧ x.toNat = 0) ∨ (i = 9 ∧ 1 < x.toNat) then .inl 4 else
    if x.toNat < 128 then .inr (u + x.toNat * 128 ^ i, i + 1) else rdN (i + 1) (u + (x.toNat % 128) * 128 ^ i) r
def unzig (u : Nat) : Int := if u % 2 = 0 then (u / 2 : Nat) else -1 - (u / 2 : Nat)
def numSaid (h : Heap) (b : Nat) (w : AV) (l : List UInt8) (p : Nat) (v : AV) (h' : Heap) : Sum Int (Nat × Nat) → Prop
  | .inl e => v = .int .i64 0 ∧ Rdr h' b w l p e
  | .inr (u, c) => v = .int .i64 (unzig u) ∧ Rdr h' b w l (p + c) 0

set_option maxHeartbeats 1000000 in
theorem rdNum_ok (k : Nat) (hk : 40 < k) (h : Heap) (b p : Nat) (w : AV) (l : List UInt8) (r : Rdr h b w l p 0) (hp : p ≤ l.length) (hl : l.length < 100000000) :
    ∃ v' h', acall Try.prog (k + 2) 20 [.ptr b 0] h = some (v', h') ∧ numSaid h b w l p v' h' (rdN 0 0 (l.drop p)) ∧ Keep h.next (fun c => c = b) h h' := by
  rw [acall_text [] Try.func20 (by kernel_rfl)]
  refine afuncT_ex rfl (by simp [Try.f20]) ?_
  have g := r.1
  simp [Try.f20, aload, Heap.row, g]
  obtain ⟨W0, hW⟩ : ∃ W0, W0 = rdN 0 0 (l.drop p) := ⟨_, rfl⟩
  rw [← hW]
  refine W_loop (fun m st => ∃ (i u : Nat), m = 10 - i ∧ i ≤ 9 ∧ u < 128 ^ i ∧ p + i ≤ l.length ∧ st.t.get 0 = some (.ptr b 0) ∧ st.t.get 3 = some (.int .i64 (p : Nat)) ∧ st.t.get 4 = some (.int .u64 (u : Nat)) ∧ st.t.get 5 = some (.int .i64 (i : Nat)) ∧ Rdr st.h b w l (p + i) 0 ∧ Keep h.next (fun c => c = b) h st.h ∧ W0 = rdN i u (l.drop (p + i))) 10 (by omega)
    ⟨0, 0, by simp [r, hp, Keep.refl, hW]⟩ ?_
  rintro m ⟨t, h5⟩ ⟨i, u, rfl, hi, hu, hpi, q0, q3, q4, q5, R, hK, hE⟩
  simp only at q0 q3 q4 q5 R hK
  obtain ⟨q, hq⟩ : ∃ q, q = p + i := ⟨_, rfl⟩
  rw [← hq] at R hpi hE
  have g5 := R.1
  have S5 := R.2.2.1
  by_cases hend : q = l.length
  · subst hend
    have hE2 : rdN i u (l.drop l.length) = .inl 3 := by simp [rdN]
    have iv : ieq (l.length : Int) (l.length : Int) = true := by simp
    rw [hE2] at hE
    subst hE
    simp [q0, q3, q4, q5, aload, Heap.row, g5, S5.len']
    refine use (fail_ok k h5 b l.length w l 0 R p 3) ?_
    intro z h6 hh
    have R6 := hh.1
    have k6 := hh.2
    clear hh
    simp
    exact ⟨⟨rfl, R6⟩, hK.trans (k6.weak hK.1 fun _ _ q => q)⟩
  · obtain ⟨x, hx⟩ : ∃ x, l[q]? = some x := ⟨_, List.getElem?_eq_getElem (by omega)⟩
    obtain ⟨b', o', c2', ro', p1', p2', p3'⟩ := S5.at1 (P := Try.prog) (ty := 22) (e := 5) (k := .i64) Try.underlying22 ts5 (j := q) (x := bb x) (by simp [hx])
    have hne : ¬ ((q : Int) = (l.length : Int)) := by omega
    obtain ⟨y, hy⟩ : ∃ y, y = x.toNat := ⟨_, rfl⟩
    have hyl : y < 256 := by rw [hy]; exact x.toNat_lt
    have hbx : bb x = .int .u8 (y : Nat) := by rw [hy]; rfl
    rw [hbx] at p3'
    have hdr : l.drop q = x :: l.drop (q + 1) := by
      obtain ⟨a1, a2⟩ := List.getElem?_eq_some_iff.1 hx
      rw [List.drop_eq_getElem_cons a1, a2]
    rw [hdr] at hE
    simp only [rdN, ← hy] at hE
    have bad : (0 < i ∧ y = 0) ∨ (i = 9 ∧ 1 < y) → W0 = .inl 4 := fun q => by rw [hE, if_pos q]
    have good : ¬ ((0 < i ∧ y = 0) ∨ (i = 9 ∧ 1 < y)) → W0 = if y < 128 then .inr (u + y * 128 ^ i, i + 1) else rdN (i + 1) (u + (y % 128) * 128 ^ i) (l.drop (q + 1)) := fun q => by rw [hE, if_neg q]
    have fails : W0 = .inl 4 → ∀ (t : Tr AV) (h6 : Heap), Rdr h6 b w l p 4 ∧ Keep h5.next (fun c => c = b) h5 h6 → numSaid h b w l p (.int .i64 0) h6 W0 ∧ Keep h.next (fun c => c = b) h h6 := fun e _ h6 hh => by
      rw [e]
      exact ⟨⟨rfl, hh.1⟩, hK.trans (hh.2.weak hK.1 fun _ _ q => q)⟩
    obtain ⟨z, hz⟩ : ∃ z, z = y % 128 := ⟨_, rfl⟩
    obtain ⟨s, hs⟩ : ∃ s, s = 7 * i := ⟨_, rfl⟩
    have s1 : alay h5 b 1 [.int .i64 ((q : Int) + 1)] = some (h5.set b (.cells [w, .int .i64 ((q + 1 : Nat) : Int), .int .i64 0] false)) := by
      unfold alay; rw [g5]; rfl
    have R5 := R.set (q + 1) 0
    have k5 : Keep h5.next (fun c => c = b) h5 (h5.set b (.cells [w, .int .i64 ((q + 1 : Nat) : Int), .int .i64 0] false)) := Keep.set (F := fun c => c = b) (.inl rfl) _
    have w1 := i64w ((q : Int) + 1) (by omega) (by omega)
    have w2 : fwrap .i64 (7 * (i : Int)) = (s : Nat) := by rw [i64w _ (by omega) (by omega)]; omega
    have w3 : fwrap .u64 (s : Int) = (s : Nat) := u64w (by omega)
    have w4 : fwrap .u8 (((y % modulus .u8) &&& (127 % modulus .u8) : Nat) : Int) = (z : Nat) := by
      have e1 : y % modulus .u8 = y := Nat.mod_eq_of_lt hyl
      have e2 : 127 % modulus .u8 = 127 := by decide
      have e3 : y &&& 127 = y % 128 := Nat.and_two_pow_sub_one_eq_mod y 7
      rw [e1, e2, e3, ← hz, fwrap_mod8, Nat.mod_eq_of_lt (by omega)]
    have w5 : fwrap .u64 (z : Int) = (z : Nat) := u64w (by omega)
    generalize hh7 : h5.set b (.cells [w, .int .i64 ((q + 1 : Nat) : Int), .int .i64 0] false) = h7 at s1 R5 k5
    have fit : (i ≤ 8 ∨ i = 9 ∧ z ≤ 1) → ∃ A U : Nat, A = z * 128 ^ i ∧ U = u + A ∧ U < 18446744073709551616 ∧ fwrap .u64 ((z : Int) * 2 ^ min s 64) = (A : Nat) ∧ fwrap .u64 (((u % modulus .u64) ||| (A % modulus .u64) : Nat) : Int) = (U : Nat) ∧ (i ≤ 8 → U < 128 ^ (i + 1)) := fun hf => by
      have hp2 : (2 : Nat) ^ s = 128 ^ i := by rw [hs, Nat.pow_mul]
      have hmin : min s 64 = s := by omega
      obtain ⟨M, hM⟩ : ∃ M, M = 128 ^ i := ⟨_, rfl⟩
      obtain ⟨A, hA⟩ : ∃ A, A = z * M := ⟨_, rfl⟩
      have hM2 : M * 128 ≤ 9223372036854775808 ∨ M = 9223372036854775808 := by
        rcases hf with q | ⟨q, _⟩
        · left
          have := Nat.pow_le_pow_right (n := 128) (by omega) (show i + 1 ≤ 9 by omega)
          rw [Nat.pow_succ, ← hM] at this
          exact this
        · right; rw [hM, q]
      rw [← hM] at hu
      have hzl : z < 128 := by omega
      have hA1 : A ≤ 127 * M := by rw [hA]; exact Nat.mul_le_mul_right _ (by omega)
      have hA2 : i = 9 → A ≤ M := fun q => by
        rw [hA]
        have : z * M ≤ 1 * M := Nat.mul_le_mul_right _ (by omega)
        omega
      have hM9 : i ≤ 8 → M * 128 ≤ 9223372036854775808 := fun q => by
        have := Nat.pow_le_pow_right (n := 128) (by omega) (show i + 1 ≤ 9 by omega)
        rw [Nat.pow_succ, ← hM] at this
        exact this
      have hM9' : i = 9 → M = 9223372036854775808 := fun q => by rw [hM, q]
      have hU : u + A < 18446744073709551616 := by
        rcases hf with q | ⟨q, _⟩
        · have := hM9 q; omega
        · have := hM9' q; have := hA2 q; omega
      refine ⟨A, u + A, by rw [hA, hM], rfl, hU, ?_, ?_, fun q => by rw [Nat.pow_succ, ← hM]; omega⟩
      · rw [hmin]
        have e : (z : Int) * 2 ^ s = ((z * 2 ^ s : Nat) : Int) := by simp
        rw [e, hp2, ← hM, ← hA, u64w (by omega)]
      · rw [u64m (by omega), u64m (by omega)]
        have e := Nat.two_pow_add_eq_or_of_lt (i := s) (b := u) (by rw [hp2, ← hM]; exact hu) z
        rw [hp2, ← hM, Nat.mul_comm, ← hA] at e
        rw [Nat.or_comm, ← e, Nat.add_comm, u64w (by omega)]
    by_cases hi0 : i = 0
    · have hi9 : ¬ (i = 9) := by omega
      have hi9' : ¬ ((i : Int) = 9) := by omega
      have hi0e : (i = 0) = True := eq_true hi0
      obtain ⟨A, U, hA, hU, hUl, w6, w7, hU8⟩ := fit (.inl (by omega))
      have w8 := i64w ((i : Int) + 1) (by omega) (by omega)
      by_cases hy128 : y < 128
      · have hyL := isLt (show (y : Int) < 128 by omega)
        have g0 := good (by omega)
        rw [if_pos hy128] at g0
        have hzy : z = y := by omega
        rw [← hzy, ← hA, ← hU] at g0
        have v1 : fwrap .i64 ((U : Int) / 2) = ((U / 2 : Nat) : Int) := by rw [i64w _ (by omega) (by omega)]; omega
        obtain ⟨V, hV⟩ : ∃ V, V = U / 2 := ⟨_, rfl⟩
        rw [← hV] at v1
        have v2 : fwrap .u64 (((U % modulus .u64) &&& (1 % modulus .u64) : Nat) : Int) = ((U % 2 : Nat) : Int) := by
          rw [u64m (by omega), u64m (by omega), Nat.and_one_is_mod, u64w (by omega)]
        have f0 : fwrap .i64 0 = 0 := rfl
        have f1 : fwrap .i64 1 = 1 := rfl
        have f2 : fwrap .i64 (-1) = -1 := i64w _ (by omega) (by omega)
        have kE := hK.trans (k5.weak hK.1 fun _ _ q => q)
        have R6 : Rdr h7 b w l (p + (i + 1)) 0 := by rw [show p + (i + 1) = q + 1 by omega]; exact R5
        by_cases hev : U % 2 = 0
        · rw [hev] at v2
          have v3 : fwrap .i64 ((V : Int) % ((modulus .i64 : Nat) : Int)) = (V : Nat) := by
            have e1 : V % modulus .i64 = V := Nat.mod_eq_of_lt (show V < 18446744073709551616 by omega)
            rw [← Int.natCast_emod, e1, i64w _ (by omega) (by omega)]
          have hun : unzig U = (V : Nat) := by unfold unzig; rw [if_pos hev, hV]
          simp [q0, q3, q4, q5, aload, Heap.row, g5, S5.len', hne, p1', p2', p3', hi0e, hi9', AV.row1, AV.row, AV.one, w1, s1, w2, w3, w4, w5, w6, w7, hyL, v1, v2, v3, f0, f1, f2]
          rw [g0]
          exact ⟨⟨by rw [hun], R6⟩, kE⟩
        · rw [show U % 2 = 1 by omega] at v2
          have hb1 : -9223372036854775808 ≤ (V : Int) ∧ (V : Int) ≤ 9223372036854775807 := by omega
          have hun : unzig U = -1 - (V : Nat) := by unfold unzig; rw [if_neg hev, hV]
          simp [q0, q3, q4, q5, aload, Heap.row, g5, S5.len', hne, p1', p2', p3', hi0e, hi9', AV.row1, AV.row, AV.one, w1, s1, w2, w3, w4, w5, w6, w7, hyL, v1, v2, f0, f1, f2, hb1.1, hb1.2]
          rw [g0]
          exact ⟨⟨by rw [hun], R6⟩, kE⟩
      · have hyL := isLe (show (128 : Int) ≤ (y : Int) by omega)
        simp [q0, q3, q4, q5, aload, Heap.row, g5, S5.len', hne, p1', p2', p3', hi0e, hi9', AV.row1, AV.row, AV.one, w1, s1, w2, w3, w4, w5, w6, w7, hyL, w8]
        have g0 := good (by omega)
        rw [if_neg hy128, ← hz, ← hA, ← hU] at g0
        have R6 : Rdr h7 b w l (p + (i + 1)) 0 := by rw [show p + (i + 1) = q + 1 by omega]; exact R5
        rw [show q + 1 = p + (i + 1) by omega] at g0
        exact ⟨10 - (i + 1), by omega, i + 1, rfl, by omega, U, hU8 (by omega), by omega, rfl, by simp, R6, hK.trans (k5.weak hK.1 fun _ _ q => q), g0⟩
    · by_cases hy0 : y = 0
      · simp [q0, q3, q4, q5, aload, Heap.row, g5, S5.len', hne, p1', p2', p3', hi0, hy0]
        refine use (fail_ok k h5 b q w l 0 R p 4) ?_
        intro z h6 hh
        have f := fails (bad (.inl ⟨by omega, hy0⟩)) t h6 hh
        simp
        exact f
      · by_cases hi9 : i = 9
        · by_cases hy1 : 1 < y
          · have hy1' := isLt (show (1 : Int) < (y : Int) by omega)
            simp [q0, q3, q4, q5, aload, Heap.row, g5, S5.len', hne, p1', p2', p3', hi0, hy0, hi9, hy1, hy1']
            refine use (fail_ok k h5 b q w l 0 R p 4) ?_
            intro z h6 hh
            have f := fails (bad (.inr ⟨hi9, hy1⟩)) t h6 hh
            simp
            exact f
          · have hy1' := isLe (show (y : Int) ≤ 1 by omega)
            have hi9e : ((i : Int) = 9) = True := eq_true (by omega)
            obtain ⟨A, U, hA, hU, hUl, w6, w7, hU8⟩ := fit (.inr ⟨hi9, by omega⟩)
            have w8 := i64w ((i : Int) + 1) (by omega) (by omega)
            by_cases hy128 : y < 128
            · have hyL := isLt (show (y : Int) < 128 by omega)
              have g0 := good (by omega)
              rw [if_pos hy128] at g0
              have hzy : z = y := by omega
              rw [← hzy, ← hA, ← hU] at g0
              have v1 : fwrap .i64 ((U : Int) / 2) = ((U / 2 : Nat) : Int) := by rw [i64w _ (by omega) (by omega)]; omega
              obtain ⟨V, hV⟩ : ∃ V, V = U / 2 := ⟨_, rfl⟩
              rw [← hV] at v1
              have v2 : fwrap .u64 (((U % modulus .u64) &&& (1 % modulus .u64) : Nat) : Int) = ((U % 2 : Nat) : Int) := by
                rw [u64m (by omega), u64m (by omega), Nat.and_one_is_mod, u64w (by omega)]
              have f0 : fwrap .i64 0 = 0 := rfl
              have f1 : fwrap .i64 1 = 1 := rfl
              have f2 : fwrap .i64 (-1) = -1 := i64w _ (by omega) (by omega)
              have kE := hK.trans (k5.weak hK.1 fun _ _ q => q)
              have R6 : Rdr h7 b w l (p + (i + 1)) 0 := by rw [show p + (i + 1) = q + 1 by omega]; exact R5
              by_cases hev : U % 2 = 0
              · rw [hev] at v2
                have v3 : fwrap .i64 ((V : Int) % ((modulus .i64 : Nat) : Int)) = (V : Nat) := by
                  have e1 : V % modulus .i64 = V := Nat.mod_eq_of_lt (show V < 18446744073709551616 by omega)
                  rw [← Int.natCast_emod, e1, i64w _ (by omega) (by omega)]
                have hun : unzig U = (V : Nat) := by unfold unzig; rw [if_pos hev, hV]
                simp [q0, q3, q4, q5, aload, Heap.row, g5, S5.len', hne, p1', p2', p3', hi0, hy0, hi9e, hy1, hy1', AV.row1, AV.row, AV.one, w1, s1, w2, w3, w4, w5, w6, w7, hyL, v1, v2, v3, f0, f1, f2]
                rw [g0]
                exact ⟨⟨by rw [hun], R6⟩, kE⟩
              · rw [show U % 2 = 1 by omega] at v2
                have hb1 : -9223372036854775808 ≤ (V : Int) ∧ (V : Int) ≤ 9223372036854775807 := by omega
                have hun : unzig U = -1 - (V : Nat) := by unfold unzig; rw [if_neg hev, hV]
                simp [q0, q3, q4, q5, aload, Heap.row, g5, S5.len', hne, p1', p2', p3', hi0, hy0, hi9e, hy1, hy1', AV.row1, AV.row, AV.one, w1, s1, w2, w3, w4, w5, w6, w7, hyL, v1, v2, f0, f1, f2, hb1.1, hb1.2]
                rw [g0]
                exact ⟨⟨by rw [hun], R6⟩, kE⟩
            · omega
        · have hi9' : ¬ ((i : Int) = 9) := by omega
          obtain ⟨A, U, hA, hU, hUl, w6, w7, hU8⟩ := fit (.inl (by omega))
          have w8 := i64w ((i : Int) + 1) (by omega) (by omega)
          by_cases hy128 : y < 128
          · have hyL := isLt (show (y : Int) < 128 by omega)
            have g0 := good (by omega)
            rw [if_pos hy128] at g0
            have hzy : z = y := by omega
            rw [← hzy, ← hA, ← hU] at g0
            have v1 : fwrap .i64 ((U : Int) / 2) = ((U / 2 : Nat) : Int) := by rw [i64w _ (by omega) (by omega)]; omega
            obtain ⟨V, hV⟩ : ∃ V, V = U / 2 := ⟨_, rfl⟩
            rw [← hV] at v1
            have v2 : fwrap .u64 (((U % modulus .u64) &&& (1 % modulus .u64) : Nat) : Int) = ((U % 2 : Nat) : Int) := by
              rw [u64m (by omega), u64m (by omega), Nat.and_one_is_mod, u64w (by omega)]
            have f0 : fwrap .i64 0 = 0 := rfl
            have f1 : fwrap .i64 1 = 1 := rfl
            have f2 : fwrap .i64 (-1) = -1 := i64w _ (by omega) (by omega)
            have kE := hK.trans (k5.weak hK.1 fun _ _ q => q)
            have R6 : Rdr h7 b w l (p + (i + 1)) 0 := by rw [show p + (i + 1) = q + 1 by omega]; exact R5
            by_cases hev : U % 2 = 0
            · rw [hev] at v2
              have v3 : fwrap .i64 ((V : Int) % ((modulus .i64 : Nat) : Int)) = (V : Nat) := by
                have e1 : V % modulus .i64 = V := Nat.mod_eq_of_lt (show V < 18446744073709551616 by omega)
                rw [← Int.natCast_emod, e1, i64w _ (by omega) (by omega)]
              have hun : unzig U = (V : Nat) := by unfold unzig; rw [if_pos hev, hV]
              simp [q0, q3, q4, q5, aload, Heap.row, g5, S5.len', hne, p1', p2', p3', hi0, hy0, hi9, hi9', AV.row1, AV.row, AV.one, w1, s1, w2, w3, w4, w5, w6, w7, hyL, v1, v2, v3, f0, f1, f2]
              rw [g0]
              exact ⟨⟨by rw [hun], R6⟩, kE⟩
            · rw [show U % 2 = 1 by omega] at v2
              have hb1 : -9223372036854775808 ≤ (V : Int) ∧ (V : Int) ≤ 9223372036854775807 := by omega
              have hun : unzig U = -1 - (V : Nat) := by unfold unzig; rw [if_neg hev, hV]
              simp [q0, q3, q4, q5, aload, Heap.row, g5, S5.len', hne, p1', p2', p3', hi0, hy0, hi9, hi9', AV.row1, AV.row, AV.one, w1, s1, w2, w3, w4, w5, w6, w7, hyL, v1, v2, f0, f1, f2, hb1.1, hb1.2]
              rw [g0]
              exact ⟨⟨by rw [hun], R6⟩, kE⟩
          · have hyL := isLe (show (128 : Int) ≤ (y : Int) by omega)
            simp [q0, q3, q4, q5, aload, Heap.row, g5, S5.len', hne, p1', p2', p3', hi0, hy0, hi9, hi9', AV.row1, AV.row, AV.one, w1, s1, w2, w3, w4, w5, w6, w7, hyL, w8]
            have g0 := good (by omega)
            rw [if_neg hy128, ← hz, ← hA, ← hU] at g0
            have R6 : Rdr h7 b w l (p + (i + 1)) 0 := by rw [show p + (i + 1) = q + 1 by omega]; exact R5
            rw [show q + 1 = p + (i + 1) by omega] at g0
            exact ⟨10 - (i + 1), by omega, i + 1, rfl, by omega, U, hU8 (by omega), by omega, rfl, by simp, R6, hK.trans (k5.weak hK.1 fun _ _ q => q), g0⟩
theorem rdN_spec : ∀ (r : List UInt8) (i u U c : Nat), i ≤ 9 → rdN i u r = .inr (U, c) →
    ∃ m : Nat, U = u + m * 128 ^ i ∧ i < c ∧ c - i ≤ r.length ∧ vint (10 - i) m = r.take (c - i) ∧ (0 < i → 0 < m) ∧ (m + 1) * 128 ^ i ≤ 18446744073709551616
  | [], i, u, U, c, hi, h => by simp [rdN] at h
  | x :: r, i, u, U, c, hi, h => by
    have hxl := x.toNat_lt
    obtain ⟨f, hf⟩ : ∃ f, 10 - i = f + 1 := ⟨9 - i, by omega⟩
    have hM : (i ≤ 8 → 128 ^ i * 128 ≤ 9223372036854775808) ∧ (i = 9 → 128 ^ i = 9223372036854775808) :=
      ⟨fun q => by
        have := Nat.pow_le_pow_right (n := 128) (by omega) (show i + 1 ≤ 9 by omega)
        rw [Nat.pow_succ] at this
        exact this, fun q => by rw [q]⟩
    simp only [rdN] at h
    split at h
    · cases h
    · rename_i hg
      split at h
      · rename_i hy
        cases h
        refine ⟨x.toNat, rfl, by omega, by simp, ?_, fun q => by omega, ?_⟩
        · rw [hf]
          simp [vint, hy]
        · generalize 128 ^ i = M at hM
          by_cases h9 : i = 9
          · have h1 : x.toNat + 1 ≤ 2 := by omega
            have := Nat.mul_le_mul_right M h1
            have := hM.2 h9
            omega
          · have h1 : x.toNat + 1 ≤ 128 := by omega
            have := Nat.mul_le_mul_right M h1
            have := hM.1 (by omega)
            omega
      · rename_i hy
        have h9 : i ≤ 8 := by omega
        obtain ⟨m, h1, h2, h3, h4, h5, h6⟩ := rdN_spec r (i + 1) _ U c (by omega) h
        have hm := h5 (by omega)
        refine ⟨x.toNat % 128 + 128 * m, ?_, by omega, by simp; omega, ?_, fun _ => by omega, ?_⟩
        · rw [h1, Nat.pow_succ, Nat.add_mul, Nat.add_assoc]
          congr 2
          rw [Nat.mul_comm (128 ^ i), ← Nat.mul_assoc, Nat.mul_comm m]
        · rw [hf, show c - i = (c - (i + 1)) + 1 by omega, List.take_succ_cons, ← h4, show 10 - (i + 1) = f by omega]
          have e1 : ¬ (x.toNat % 128 + 128 * m < 128) := by omega
          have e2 : (x.toNat % 128 + 128 * m) / 128 = m := by omega
          have e3 : UInt8.ofNat ((x.toNat % 128 + 128 * m) % 128 + 128) = x := by
            rw [show (x.toNat % 128 + 128 * m) % 128 + 128 = x.toNat by omega, UInt8.ofNat_toNat]
          simp only [vint, if_neg e1, e2, e3]
        · rw [Nat.pow_succ] at h6
          have : (x.toNat % 128 + 128 * m + 1) * 128 ^ i ≤ ((m + 1) * 128) * 128 ^ i := Nat.mul_le_mul_right _ (by omega)
          rw [Nat.mul_assoc (m + 1), Nat.mul_comm 128 (128 ^ i)] at this
          exact Nat.le_trans this h6
theorem zig_unzig (u : Nat) : zig (unzig u) = u := by
  unfold zig unzig
  by_cases h : u % 2 = 0
  · rw [if_pos h, if_pos (by omega)]; omega
  · rw [if_neg h, if_neg (by omega)]; omega
/-- What is read is what is written of it. -/
theorem rdN_pack {l : List UInt8} {U c : Nat} (h : rdN 0 0 l = .inr (U, c)) : packN (unzig U) = l.take c ∧ c ≤ l.length ∧ -9223372036854775808 ≤ unzig U ∧ unzig U ≤ 9223372036854775807 := by
  obtain ⟨m, h1, h2, h3, h4, h5, h6⟩ := rdN_spec l 0 0 U c (by omega) h
  have hU : U = m := by omega
  subst hU
  refine ⟨?_, by omega, ?_, ?_⟩
  · unfold packN
    rw [zig_unzig]
    simpa using h4
  · unfold unzig; split <;> omega
  · unfold unzig; split <;> omega
end Go.Proofs.Ytnjpfjdnidekgaa
