/- Contracts of the book of memory, for bytes: Same, Roomy, Intact. -/
import Derived.Test.YtcgafaecdjbmiaaBytes
namespace Go.Proofs.Ytcgafaecdjbmiaa
open Go Go.YtcgafaecdjbmiaaAbs
set_option linter.unusedSimpArgs false
set_option linter.unusedVariables false
set_option maxRecDepth 4000

theorem u8_same (x : UInt8) : (((x.toNat : Nat) : Int) = ((x.toNat : Nat) : Int)) = True := eq_true rfl
theorem u8_diff {x y : UInt8} (h : x ≠ y) : (((x.toNat : Nat) : Int) = ((y.toNat : Nat) : Int)) = False ∧ (x.toNat = y.toNat) = False ∧ (x = y) = False :=
  ⟨eq_false (fun q => h (UInt8.toNat_inj.1 (by omega))), eq_false (fun q => h (UInt8.toNat_inj.1 q)), eq_false h⟩

theorem sameB_ok (k : Nat) (a b : List UInt8) (v1 v2 : AV) (h : Heap) (r1 : Sl 1 a.length h v1 (a.map bb)) (r2 : Sl 1 b.length h v2 (b.map bb)) (hk : a.length + 2 < k) (hm : a.length < 1000000000000) :
    acall Try.prog (k + 1) 30 [v1, v2] h = some (.bool (decide (a = b)), h) := by
  rw [acall_text [] Try.func30 (by kernel_rfl)]
  refine afuncT_of rfl (by simp [Try.f30]) ?_
  by_cases hl : a.length = b.length
  · simp [Try.f30, r1.len', r2.len', hl]
    refine W_loop (fun m st => ∃ j, m = a.length - j ∧ j ≤ a.length ∧ st.h = h ∧ st.t.get 0 = some v1 ∧ st.t.get 1 = some v2 ∧ st.t.get 5 = some (.int .i64 (j : Nat)) ∧
      a.take j = b.take j) a.length (by omega) ⟨0, by simp⟩ ?_
    rintro m ⟨t, h'⟩ ⟨j, rfl, hj, rfl, h0, h1, h5, hab⟩
    simp only at h0 h1 h5 r1 r2
    by_cases hlt : j < a.length
    · obtain ⟨x, hx⟩ := getb hlt
      obtain ⟨y, hy⟩ := getb (l := b) (j := j) (by omega)
      obtain ⟨b1, i1, c1, o1, q1, q2, q3⟩ := r1.at1 (P := Try.prog) (ty := 31) (e := 5) (k := .i64) Try.underlying31 ts5 (bb_get hx)
      obtain ⟨b2, i2, c2, o2, p1, p2, p3⟩ := r2.at1 (P := Try.prog) (ty := 31) (e := 5) (k := .i64) Try.underlying31 ts5 (bb_get hy)
      have t1 : a.take (j + 1) = a.take j ++ [x] := by rw [List.take_add_one, hx]; rfl
      have t2 : b.take (j + 1) = b.take j ++ [y] := by rw [List.take_add_one, hy]; rfl
      have hli := isLt (show (j : Int) < (b.length : Int) by omega)
      have w2 := i64w ((j : Int) + 1) (by omega) (by omega)
      by_cases hxy : x = y
      · simp [h0, h1, h5, r1.len', r2.len', hl, hli, aload, Heap.row, q1, q2, q3, p1, p2, p3, bb, w2, hxy]
        exact ⟨a.length - (j + 1), by omega, j + 1, by omega, by omega, by simp, by rw [t1, t2, hab, hxy]⟩
      · simp [h0, h1, h5, r1.len', r2.len', hl, hli, aload, Heap.row, q1, q2, q3, p1, p2, p3, bb, w2, u8_diff hxy]
        intro hab'
        subst hab'
        rw [hx] at hy
        exact hxy (Option.some.inj hy)
    · have : j = a.length := by omega
      subst this
      have hab' : a = b := by
        have := hab
        rw [List.take_of_length_le (Nat.le_refl _), hl, List.take_of_length_le (Nat.le_refl _)] at this
        exact this
      subst hab'
      simp [h0, h1, h5, r1.len']
  · have hne : ¬ a = b := fun q => hl (q ▸ rfl)
    have hli : ¬ ((a.length : Int) = (b.length : Int)) := by omega
    simp [Try.f30, r1.len', r2.len', hl, hne, hli]

theorem acopy_sl {P : Program} {dt e : TypeId} (hu : P.underlying dt = some (.slice e)) (hs : tsize P e = some 1) {h h' : Heap} {x : AV} {l : List AV} {n : Nat} (hx : Sl 1 n h x l) (hl : l.all AV.one = true) {b i m cap : Nat} {ex : Bool} (hnm : n ≤ m) (hlay : alay h b i l = some h') :
    acopy P h dt (.sl b i m cap 1 ex) x = some (.int .i64 (n : Nat), h') := by
  have hlen := hx.length
  unfold acopy
  simp only [hu, hs]
  rw [show alen (.sl b i m cap 1 ex) = some m from rfl, hx.alen]
  simp only
  rw [show Nat.min n m = n from Nat.min_eq_left hnm, hx.acells]
  simp only
  rw [if_neg (by simp [hl, hlen])]
  simp only [hlay]
  simp

/-- A row, and 80 marks behind it. -/
def roomy (a : List UInt8) (m : UInt8) : List AV := a.map bb ++ List.replicate 80 (bb m)
theorem roomy_one (a : List UInt8) (m : UInt8) : (roomy a m).all AV.one = true := by
  unfold roomy
  rw [List.all_append, bb_one, List.all_replicate]
  rfl
def mid (a : List UInt8) (m : UInt8) (j : Nat) : List AV := a.map bb ++ List.replicate j (bb m) ++ List.replicate (80 - j) (.int .u8 0)
theorem mid_len (a : List UInt8) (m : UInt8) {j : Nat} (h : j ≤ 80) : (mid a m j).length = a.length + 80 := by
  unfold mid
  simp
  omega
theorem mid_set (a : List UInt8) (m : UInt8) {j : Nat} (h : j < 80) : (mid a m j).set (a.length + j) (bb m) = mid a m (j + 1) := by
  unfold mid
  have l1 : (a.map bb ++ List.replicate j (bb m)).length = a.length + j := by simp
  rw [List.set_append_right _ _ (by rw [l1]; exact Nat.le_refl _), l1, Nat.sub_self, show 80 - j = (80 - (j + 1)) + 1 by omega, List.replicate_succ, List.replicate_succ']
  simp
theorem mid_all (a : List UInt8) (m : UInt8) : mid a m 80 = roomy a m := by
  unfold mid roomy
  rw [Nat.sub_self, List.replicate_zero, List.append_nil]
set_option maxHeartbeats 1000000 in
theorem roomy_ok (k : Nat) (a : List UInt8) (v : AV) (m : UInt8) (h : Heap) (r : Sl 1 a.length h v (a.map bb)) (hk : 200 < k) (hm : a.length < 100000000) :
    ∃ v' h', acall Try.prog (k + 1) 17 [v, .int .u8 (m.toNat : Nat)] h = some (v', h') ∧ v' = .sl h.next 0 (a.length + 80) (a.length + 80) 1 true ∧ h'.get h.next = some (.cells (roomy a m) false) ∧ h.next < h'.next ∧ Keep h.next nob h h' := by
  rw [acall_text [] Try.func17 (by kernel_rfl)]
  refine afuncT_ex rfl (by simp [Try.f17]) ?_
  obtain ⟨M, hM⟩ : ∃ M, M = a.length + 80 := ⟨_, rfl⟩
  rw [← hM]
  have w1 : fwrap .i64 ((a.length : Int) + 80) = (M : Nat) := by rw [i64w _ (by omega) (by omega)]; omega
  have hr := r.new (.cells (List.replicate M (.int .u8 0)) false)
  have hlay : alay (h.new (.cells (List.replicate M (.int .u8 0)) false)) h.next 0 (a.map bb) = some (h.new (.cells (mid a m 0) false)) := by
    unfold alay
    rw [get_new_self]
    simp only
    rw [layAt_all _ _ _ (by rw [List.length_map, List.length_replicate]; omega)]
    unfold mid
    simp [hM]
  have cp := acopy_sl (P := Try.prog) (dt := 31) Try.underlying31 ts5 hr (bb_one a) (m := M) (cap := M) (ex := true) (by omega) hlay
  have g1 : (h.new (.cells (mid a m 0) false)).get h.next = some (.cells (mid a m 0) false) := get_new_self _ _
  have g2 : h.next < (h.new (.cells (mid a m 0) false)).next := Nat.lt_succ_self _
  have g3 : Keep h.next nob h (h.new (.cells (mid a m 0) false)) := Keep.new (Nat.le_refl _) _
  generalize h.new (.cells (mid a m 0) false) = h1 at cp g1 g2 g3
  simp [Try.f17, r.len', w1, aalloc_make (P := Try.prog) el31 (z := [.int .u8 0]) az5 rfl rfl M M (Nat.le_refl _) (by omega), flat1, cp]
  refine W_loop (fun q st => ∃ j, q = 80 - j ∧ j ≤ 80 ∧ st.t.get 1 = some (.int .u8 (m.toNat : Nat)) ∧ st.t.get 5 = some (.sl h.next 0 M M 1 true) ∧ st.t.get 6 = some (.int .i64 ((a.length + j : Nat) : Int)) ∧
    st.h.get h.next = some (.cells (mid a m j) false) ∧ h.next < st.h.next ∧ Keep h.next nob h st.h) 80 (by omega) ⟨0, by simp [g1, g2, g3]⟩ ?_
  rintro q ⟨t, h2⟩ ⟨j, rfl, hj, q1, q5, q6, hg, hn, hk2⟩
  simp only at q1 q5 q6 hg hn hk2
  obtain ⟨J, hJ⟩ : ∃ J, J = a.length + j := ⟨_, rfl⟩
  rw [← hJ] at q6
  by_cases hlt : j < 80
  · have hl := isLt (show (J : Int) < (M : Int) by omega)
    have lay2 : alay h2 h.next J [.int .u8 (m.toNat : Nat)] = some (h2.set h.next (.cells (mid a m (j + 1)) false)) := by
      unfold alay
      rw [hg]
      simp only
      rw [layAt_set (by rw [mid_len a m hj]; omega), hJ]
      have := mid_set a m hlt
      unfold bb at this
      rw [this]
    have g4 : (h2.set h.next (.cells (mid a m (j + 1)) false)).get h.next = some (.cells (mid a m (j + 1)) false) := get_set_self _ _ _
    have g5 : h.next < (h2.set h.next (.cells (mid a m (j + 1)) false)).next := hn
    have g6 : Keep h.next nob h (h2.set h.next (.cells (mid a m (j + 1)) false)) := hk2.trans (Keep.set (.inr (Nat.le_refl _)) _)
    generalize h2.set h.next (.cells (mid a m (j + 1)) false) = h3 at lay2 g4 g5 g6
    simp [q1, q5, q6, hl, aindex, AV.row1, AV.row, AV.one, lay2, i64w ((J : Int) + 1) (by omega) (by omega)]
    exact ⟨80 - (j + 1), by omega, j + 1, rfl, by omega, by omega, g4, g5, g6⟩
  · obtain rfl : j = 80 := by omega
    rw [mid_all] at hg
    have hJM : J = M := by omega
    simp [q1, q5, q6, hJM, hg, hn, hk2]

/-- A slice reads as a row with 80 marks behind it. -/
theorem intact_ok (k : Nat) (a : List UInt8) (v1 v2 : AV) (m : UInt8) (h : Heap) (r1 : Sl 1 (a.length + 80) h v1 (roomy a m)) (r2 : Sl 1 a.length h v2 (a.map bb)) (hk : a.length + 200 < k) (hm : a.length < 100000000) :
    acall Try.prog (k + 2) 21 [v1, v2, .int .u8 (m.toNat : Nat)] h = some (.bool true, h) := by
  rw [acall_text [] Try.func21 (by kernel_rfl)]
  refine afuncT_of rfl (by simp [Try.f21]) ?_
  obtain ⟨M, hM⟩ : ∃ M, M = a.length + 80 := ⟨_, rfl⟩
  rw [← hM] at r1
  have w1 : fwrap .i64 ((a.length : Int) + 80) = (M : Nat) := by rw [i64w _ (by omega) (by omega)]; omega
  obtain ⟨v3, f1, r3⟩ := r1.to (P := Try.prog) (ty := 31) Try.underlying31 ts5 (k := .i64) (j := a.length) (by omega)
  have ht : (roomy a m).take (a.length * 1) = a.map bb := by
    unfold roomy
    rw [Nat.mul_one, List.take_append_of_le_length (by simp), List.take_of_length_le (by simp)]
  rw [ht] at r3
  have e1 := sameB_ok k a a v3 v2 h r3 r2 (by omega) (by omega)
  simp [Try.f21, r1.len', r2.len', w1, f1, e1]
  refine W_loop (fun q st => ∃ j, q = 80 - j ∧ j ≤ 80 ∧ st.h = h ∧ st.t.get 0 = some v1 ∧ st.t.get 2 = some (.int .u8 (m.toNat : Nat)) ∧ st.t.get 7 = some (.int .i64 ((a.length + j : Nat) : Int))) 80 (by omega) ⟨0, by simp⟩ ?_
  rintro q ⟨t, h2⟩ ⟨j, rfl, hj, rfl, q0, q2, q7⟩
  simp only at q0 q2 q7 r1
  obtain ⟨J, hJ⟩ : ∃ J, J = a.length + j := ⟨_, rfl⟩
  rw [← hJ] at q7
  by_cases hlt : j < 80
  · have hl := isLt (show (J : Int) < (M : Int) by omega)
    have hx : (roomy a m)[J]? = some (bb m) := by
      unfold roomy
      rw [List.getElem?_append_right (by simp; omega), List.getElem?_replicate, if_pos (by simp; omega)]
    obtain ⟨b1, i1, c1, o1, p1, p2, p3⟩ := r1.at1 (P := Try.prog) (ty := 31) (e := 5) (k := .i64) Try.underlying31 ts5 hx
    simp [q0, q2, q7, hl, r1.len', p1, aload, Heap.row, p2, p3, bb, i64w ((J : Int) + 1) (by omega) (by omega)]
    exact ⟨80 - (j + 1), by omega, j + 1, rfl, by omega, by omega⟩
  · obtain rfl : j = 80 := by omega
    have hJM : J = M := by omega
    simp [q0, q2, q7, hJM, r1.len']
end Go.Proofs.Ytcgafaecdjbmiaa
