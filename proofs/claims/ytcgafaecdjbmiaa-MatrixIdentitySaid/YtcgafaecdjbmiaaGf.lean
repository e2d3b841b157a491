/- Contracts of the field's functions. -/
import Derived.Test.YtcgafaecdjbmiaaFacts
import Derived.Test.YtcgafaecdjbmiaaField
import Derived.Test.YtcgafaecdjbmiaaAbsY
namespace Go.Proofs.Ytcgafaecdjbmiaa
open Go Go.YtcgafaecdjbmiaaAbs
set_option linter.unusedSimpArgs false
set_option linter.unusedVariables false
set_option maxRecDepth 4000

theorem i64s {n : Int} (h : -9223372036854775808 ≤ n) (h' : n ≤ 9223372036854775807) : fwrap .i64 n = n := i64w n h h'
/-- A byte. -/
def bv (n : Nat) : AV := .int .u8 (n : Nat)
@[simp] theorem bv_one (n : Nat) : (bv n).one = true := rfl
theorem fwrap_u8 {n : Nat} (h : n < 256) : fwrap .u8 (n : Int) = (n : Int) := by
  simp [fwrap] <;> omega
/-- The cells of the field's tables. -/
def fieldC : List AV := (expL ++ logL).map bv
theorem expL_len : expL.length = 510 := by decide +kernel
theorem logL_len : logL.length = 256 := by decide +kernel
theorem fieldC_len : fieldC.length = 766 := by simp [fieldC, expL_len, logL_len]
theorem fieldC_exp {i : Nat} (h : i < 510) : fieldC[i]? = some (bv (pw i)) := by
  unfold fieldC
  rw [List.getElem?_map, List.getElem?_append_left (by rw [expL_len]; exact h), expL_get i h]
  rfl
theorem fieldC_log {a : Nat} (h : a < 256) : fieldC[510 + a]? = some (bv (lg a)) := by
  unfold fieldC
  rw [List.getElem?_map, List.getElem?_append_right (by rw [expL_len]; omega), expL_len, show 510 + a - 510 = a by omega, logL_get a h]
  rfl
theorem fieldC_one : fieldC.all AV.one = true := by
  unfold fieldC
  rw [List.all_map, List.all_eq_true]
  intro x _
  rfl

/-- A pointer to the tables. -/
def Fld (h : Heap) (v : AV) : Prop := ∃ b o c ro, v = .ptr b o ∧ b < h.next ∧ h.get b = some (.cells c ro) ∧ ∀ j, j < 766 → c[o + j]? = fieldC[j]?
theorem Fld.exp {h : Heap} {b o : Nat} {c : List AV} (hc : ∀ j, j < 766 → c[o + j]? = fieldC[j]?) {i : Nat} (hi : i < 510) : c[o + i]? = some (bv (pw i)) := by rw [hc i (by omega), fieldC_exp hi]
theorem Fld.log {h : Heap} {b o : Nat} {c : List AV} (hc : ∀ j, j < 766 → c[o + j]? = fieldC[j]?) {a : Nat} (ha : a < 256) : c[o + (510 + a)]? = some (bv (lg a)) := by rw [hc _ (by omega), fieldC_log ha]
theorem Fld.keep {h h' : Heap} {v : AV} {m : Nat} {F : Nat → Prop} (f : Fld h v) (K : Keep m F h h') (hv : ∀ b o, v = .ptr b o → b < m ∧ ¬ F b) : Fld h' v := by
  obtain ⟨b, o, c, ro, rfl, h0, h1, h2⟩ := f
  obtain ⟨k1, k2⟩ := hv b o rfl
  exact ⟨b, o, c, ro, rfl, Nat.lt_of_lt_of_le h0 K.1, by rw [K.2 b k1 k2]; exact h1, h2⟩
theorem Fld.ext {h h' : Heap} {v : AV} (f : Fld h v) (K : Keep h.next nob h h') : Fld h' v := by
  refine f.keep K ?_
  obtain ⟨b, o, c, ro, rfl, h0, _⟩ := f
  intro _ _ q
  cases q
  exact ⟨h0, id⟩

theorem mul_ok (k : Nat) (h : Heap) (v : AV) (f : Fld h v) (x y : Nat) (hx : x < 256) (hy : y < 256) :
    acall Try.prog (k + 1) 35 [v, .int .u8 (x : Nat), .int .u8 (y : Nat)] h = some (.int .u8 (mul x y : Nat), h) := by
  rw [acall_text [] Try.func35 (by kernel_rfl)]
  refine afuncT_of rfl (by simp [Try.f35]) ?_
  obtain ⟨b, o, c, ro, rfl, _, hb, hc⟩ := f
  by_cases h1 : x = 0
  · simp [Try.f35, h1, zero_mul]
  · by_cases h2 : y = 0
    · simp [Try.f35, h1, h2, mul_zero]
    · have l1 := lg_lt x hx
      have l2 := lg_lt y hy
      have e1 := Fld.log (h := h) (b := b) hc hx
      have e2 := Fld.log (h := h) (b := b) hc hy
      have e3 := Fld.exp (h := h) (b := b) hc (i := lg x + lg y) (by omega)
      rw [← Nat.add_assoc] at e1 e2
      have hx' : (x : Int) < 256 := by omega
      have hy' : (y : Int) < 256 := by omega
      have hz' : ((lg x : Int) + (lg y : Int)) < 510 := by omega
      have hz0 : 0 ≤ ((lg x : Int) + (lg y : Int)) := by omega
      have hz2 : ((lg x : Int) + (lg y : Int)).toNat = lg x + lg y := by omega
      simp [Try.f35, h1, h2, aindex, aload, Heap.row, hb, hx', hy', hz', hz0, hz2, e1, e2, e3, bv, i64w _ (show -9223372036854775808 ≤ (lg x : Int) by omega) (by omega), i64w _ (show -9223372036854775808 ≤ (lg y : Int) by omega) (by omega), i64w ((lg x : Int) + (lg y : Int)) (by omega) (by omega)]
      rw [mul_log hx hy h1 h2]

theorem inv_ok (k : Nat) (h : Heap) (v : AV) (f : Fld h v) (x : Nat) (hx : x < 256) :
    acall Try.prog (k + 1) 31 [v, .int .u8 (x : Nat)] h = some (.int .u8 (inv x : Nat), h) := by
  rw [acall_text [] Try.func31 (by kernel_rfl)]
  refine afuncT_of rfl (by simp [Try.f31]) ?_
  obtain ⟨b, o, c, ro, rfl, _, hb, hc⟩ := f
  by_cases h1 : x = 0
  · simp [Try.f31, h1, inv]
  · have l1 := lg_lt x hx
    have e1 := Fld.log (h := h) (b := b) hc hx
    have e3 := Fld.exp (h := h) (b := b) hc (i := 255 - lg x) (by omega)
    rw [← Nat.add_assoc] at e1
    have hx' : (x : Int) < 256 := by omega
    have hz' : (255 : Int) - (lg x : Int) < 510 := by omega
    have hz0 : 0 ≤ (255 : Int) - (lg x : Int) := by omega
    have hz1 : (lg x : Int) ≤ 255 := by omega
    have hz2 : ((255 : Int) - (lg x : Int)).toNat = 255 - lg x := by omega
    simp [Try.f31, h1, aindex, aload, Heap.row, hb, hx', hz', hz0, hz1, hz2, e1, e3, bv, i64w _ (show -9223372036854775808 ≤ (lg x : Int) by omega) (by omega), i64w ((255 : Int) - (lg x : Int)) (by omega) (by omega), inv]

/-! The tables are made. -/
def logs : Nat → List Nat
  | 0 => List.replicate 256 0
  | i + 1 => if i < 255 then (logs i).set (pw i) i else logs i
theorem logs_len : ∀ i, (logs i).length = 256
  | 0 => by simp [logs]
  | i + 1 => by
    simp only [logs]
    split
    · rw [List.length_set, logs_len i]
    · exact logs_len i
theorem logs_all : logs 510 = logL := by decide +kernel
def made (i : Nat) : List Nat := (expL.take i ++ List.replicate (510 - i) 0) ++ logs i
theorem made_len {i : Nat} (h : i ≤ 510) : (made i).length = 766 := by
  unfold made
  rw [List.length_append, List.length_append, List.length_take, List.length_replicate, logs_len, expL_len]
  omega
theorem made_exp {i : Nat} (h : i < 510) : (made i).set i (pw i) = (expL.take (i + 1) ++ List.replicate (510 - (i + 1)) 0) ++ logs i := by
  unfold made
  have l1 : (expL.take i).length = i := by rw [List.length_take, expL_len]; omega
  rw [List.set_append_left _ _ (by rw [List.length_append, List.length_replicate, l1]; omega), List.set_append_right _ _ (by rw [l1]; exact Nat.le_refl _), l1, Nat.sub_self, List.take_add_one, expL_get i h]
  congr 1
  rw [show 510 - i = (510 - (i + 1)) + 1 by omega, List.replicate_succ]
  simp
theorem made_succ {i : Nat} (h : i < 510) : made (i + 1) = if i < 255 then ((made i).set i (pw i)).set (510 + pw i) i else (made i).set i (pw i) := by
  rw [made_exp h]
  have l1 : (expL.take (i + 1) ++ List.replicate (510 - (i + 1)) 0).length = 510 := by rw [List.length_append, List.length_take, List.length_replicate, expL_len]; omega
  unfold made
  rw [logs]
  split
  · rw [List.set_append_right _ _ (by omega), l1, show 510 + pw i - 510 = pw i by omega]
  · rfl
theorem made_all : (made 510).map bv = fieldC := by
  unfold made fieldC
  rw [logs_all, show expL.take 510 = expL from List.take_of_length_le (by rw [expL_len]; exact Nat.le_refl _)]
  simp
theorem made_one (i : Nat) : ((made i).map bv).all AV.one = true := by
  rw [List.all_map, List.all_eq_true]
  intro x _
  rfl
theorem xor285 {x : Nat} (h : x < 512) : fwrap .i64 (((x % modulus .i64) ^^^ (285 % modulus .i64) : Nat) : Int) = ((x ^^^ 285 : Nat) : Int) := by
  have : x ^^^ 285 < 512 := Nat.xor_lt_two_pow (n := 9) h (by decide)
  have e1 : x % modulus .i64 = x := Nat.mod_eq_of_lt (by simp only [modulus]; omega)
  have e2 : 285 % modulus .i64 = 285 := by decide
  rw [e1, e2, i64w _ (by omega) (by omega)]

set_option maxHeartbeats 1000000 in
theorem make_ok (k : Nat) (hk : 600 < k) (h : Heap) : ∃ v h', acall Try.prog (k + 1) 9 [] h = some (v, h') ∧ v = .agg fieldC ∧ Keep h.next nob h h' := by
  rw [acall_text [] Try.func9 (by kernel_rfl)]
  refine afuncT_ex rfl (by simp [Try.f9]) ?_
  have hz : zz25 = (made 0).map bv := by
    unfold made zz25
    rw [logs, List.take_zero, List.nil_append, List.replicate_append_replicate, List.map_replicate]
    rfl
  simp [Try.f9, hz]
  refine W_cutLoop 0 (fun st => st.t.get 0 = some (.ptr h.next 0) ∧ st.t.get 1 = some (.ptr (h.next + 1) 0) ∧ st.h.get h.next = some (.cells ((made 0).map bv) false) ∧ st.h.get (h.next + 1) = some (.cells fieldC false) ∧ h.next + 1 < st.h.next ∧ Keep h.next nob h st.h) ?_ ?_
  · refine W_loop (fun m st => ∃ i, m = 510 - i ∧ i ≤ 510 ∧ st.t.get 0 = some (.ptr h.next 0) ∧ st.t.get 1 = some (.ptr (h.next + 1) 0) ∧ st.t.get 2 = some (.int .i64 (pw i : Nat)) ∧ st.t.get 4 = some (.int .i64 (i : Nat)) ∧
      st.h.get h.next = some (.cells ((made 0).map bv) false) ∧ st.h.get (h.next + 1) = some (.cells ((made i).map bv) false) ∧ h.next + 1 < st.h.next ∧ Keep h.next nob h st.h) 510 (by omega) ⟨0, by simp [pw, itx, Keep.trans (Keep.new (Nat.le_refl _) _) (Keep.new (Nat.le_succ _) _), Heap.get_new]⟩ ?_
    rintro m ⟨t, h1⟩ ⟨i, rfl, hi, q0, q1, q2, q4, b1, b2, hn, hk1⟩
    simp only at q0 q1 q2 q4 b1 b2 hn hk1
    by_cases hlt : i < 510
    · have hp := pw_lt i
      have hlen := made_len (i := i) (by omega)
      have w1 := fwrap_u8 hp
      have a1 := isLt (show (i : Int) < 510 by omega)
      have a2 : ((pw i : Nat) : Int) < 256 := by omega
      have g1 : ∀ u, layAt ((made i).map bv) i [.int .u8 (u : Nat)] = some (((made i).set i u).map bv) := fun u => by
        rw [layAt_set (by rw [List.length_map, hlen]; omega), List.map_set]; rfl
      have l1 : alay h1 (h.next + 1) i [.int .u8 (pw i : Nat)] = some (h1.set (h.next + 1) (.cells (((made i).set i (pw i)).map bv) false)) := by
        unfold alay
        rw [b2]
        simp only
        rw [g1]
      have g2 : (h1.set (h.next + 1) (.cells (((made i).set i (pw i)).map bv) false)).get (h.next + 1) = some (.cells (((made i).set i (pw i)).map bv) false) := get_set_self _ _ _
      have k2 : Keep h.next nob h (h1.set (h.next + 1) (.cells (((made i).set i (pw i)).map bv) false)) := hk1.trans (Keep.set (.inr (Nat.le_succ _)) _)
      have b3 : (h1.set (h.next + 1) (.cells (((made i).set i (pw i)).map bv) false)).get h.next = some (.cells ((made 0).map bv) false) := by rw [get_set_ne (by omega)]; exact b1
      have ms := made_succ hlt
      have hx2 : pw (i + 1) = xt (pw i) := rfl
      have hlen2 : ((made i).set i (pw i)).length = 766 := by rw [List.length_set]; exact hlen
      obtain ⟨d, hd⟩ : ∃ d, d = pw i * 2 := ⟨_, rfl⟩
      have sh : fwrap .i64 (((pw i : Nat) : Int) * 2) = (d : Nat) := by rw [i64w _ (by omega) (by omega), hd]; omega
      have w3 := i64w ((i : Int) + 1) (by omega) (by omega)
      have hxt : xt (pw i) = if pw i < 128 then d else d ^^^ 285 := by rw [hd, Nat.mul_comm]; rfl
      have hxd := xor285 (x := d) (by omega)
      generalize (made i).set i (pw i) = M at *
      generalize hM : h1.set (h.next + 1) (.cells (M.map bv) false) = h2 at *
      have hn2 : h.next + 1 < h2.next := by rw [← hM]; exact hn
      by_cases c1 : i < 255
      · rw [if_pos c1] at ms
        have l2 : alay h2 (h.next + 1) (510 + pw i) [.int .u8 (i : Nat)] = some (h2.set (h.next + 1) (.cells ((M.set (510 + pw i) i).map bv) false)) := by
          unfold alay
          rw [g2]
          simp only
          rw [layAt_set (by rw [List.length_map, hlen2]; omega), List.map_set]
          rfl
        have c1' := isLt (show (i : Int) < 255 by omega)
        have w2 := fwrap_u8 (n := i) (by omega)
        have l3 : (h2.set (h.next + 1) (.cells ((M.set (510 + pw i) i).map bv) false)).get (h.next + 1) = some (.cells ((M.set (510 + pw i) i).map bv) false) := get_set_self _ _ _
        have l4 : (h2.set (h.next + 1) (.cells ((M.set (510 + pw i) i).map bv) false)).get h.next = some (.cells ((made 0).map bv) false) := by rw [get_set_ne (by omega)]; exact b3
        have l5 : Keep h.next nob h (h2.set (h.next + 1) (.cells ((M.set (510 + pw i) i).map bv) false)) := k2.trans (Keep.set (.inr (Nat.le_succ _)) _)
        have l6 : h.next + 1 < (h2.set (h.next + 1) (.cells ((M.set (510 + pw i) i).map bv) false)).next := hn2
        rw [← ms] at l2 l3 l4 l5 l6
        generalize h2.set (h.next + 1) (.cells ((made (i + 1)).map bv) false) = h3 at *
        by_cases c2 : pw i < 128
        · rw [if_pos c2] at hxt
          have c2' : ¬ (255 : Int) < (d : Int) := by omega
          have c3' : (d : Int) ≤ 255 := by omega
          simp [q0, q1, q2, q4, a1, w1, aindex, AV.row1, AV.row, AV.one, l1, c1', a2, w2, l2, sh, c2', c3', w3]
          exact ⟨510 - (i + 1), by omega, i + 1, rfl, by omega, by rw [hx2, hxt], by omega, l4, l3, l6, l5⟩
        · rw [if_neg c2] at hxt
          have c2' : (255 : Int) < (d : Int) := by omega
          have c3' : ¬ (d : Int) ≤ 255 := by omega
          simp [q0, q1, q2, q4, a1, w1, aindex, AV.row1, AV.row, AV.one, l1, c1', a2, w2, l2, sh, c2', c3', w3, hxd]
          exact ⟨510 - (i + 1), by omega, i + 1, rfl, by omega, by rw [hx2, hxt], by omega, l4, l3, l6, l5⟩
      · rw [if_neg c1] at ms
        have c1' := isLe (show (255 : Int) ≤ (i : Int) by omega)
        rw [← ms] at g2
        by_cases c2 : pw i < 128
        · rw [if_pos c2] at hxt
          have c2' : ¬ (255 : Int) < (d : Int) := by omega
          have c3' : (d : Int) ≤ 255 := by omega
          simp [q0, q1, q2, q4, a1, w1, aindex, AV.row1, AV.row, AV.one, l1, c1', sh, c2', c3', w3]
          exact ⟨510 - (i + 1), by omega, i + 1, rfl, by omega, by rw [hx2, hxt], by omega, b3, g2, hn2, k2⟩
        · rw [if_neg c2] at hxt
          have c2' : (255 : Int) < (d : Int) := by omega
          have c3' : ¬ (d : Int) ≤ 255 := by omega
          simp [q0, q1, q2, q4, a1, w1, aindex, AV.row1, AV.row, AV.one, l1, c1', sh, c2', c3', w3, hxd]
          exact ⟨510 - (i + 1), by omega, i + 1, rfl, by omega, by rw [hx2, hxt], by omega, b3, g2, hn2, k2⟩
    · have : i = 510 := by omega
      subst this
      rw [made_all] at b2
      simp [q4, q0, q1, b1, b2, hn, hk1]
  rintro ⟨t, h1⟩ ⟨q0, q1, b1, b2, hn, hk1⟩
  simp only at q0 q1 b1 b2 hn hk1
  have hl : fieldC.length ≤ 766 := by rw [fieldC_len]; exact Nat.le_refl _
  have ht : fieldC.take 766 = fieldC := List.take_of_length_le hl
  have ho : fieldC.all AV.one = true := fieldC_one
  have lay : alay h1 h.next 0 fieldC = some (h1.set h.next (.cells fieldC false)) := by
    unfold alay
    rw [b1]
    simp only
    rw [layAt_all _ _ _ (by rw [List.length_map, made_len (by omega), fieldC_len]; omega)]
    have : ((made 0).map bv).drop (0 + fieldC.length) = [] := List.drop_of_length_le (by rw [List.length_map, made_len (by omega), fieldC_len]; omega)
    rw [this]
    simp
  have row : (AV.agg fieldC).row1 = some fieldC := by simp [AV.row1, AV.row, fieldC_one]
  simp [q0, q1, aload, Heap.row, b2, fieldC_len, ht, row, lay]
  exact hk1.trans (Keep.set (.inr (Nat.le_refl _)) _)
end Go.Proofs.Ytcgafaecdjbmiaa
