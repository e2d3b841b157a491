/- Contracts of chapter 16's functions. -/
import Derived.Test.YtddlhjhjaggppaaHash
namespace Go.Proofs.Ytddlhjhjaggppaa
open Go Go.YtddlhjhjaggppaaAbs
set_option linter.unusedSimpArgs false
set_option linter.unusedVariables false

def iv (n : Int) : AV := .int .i64 n


/-- Within. -/
theorem within_ok (k : Nat) (n lo hi : Int) (hl : lo ≤ hi) (h1 : -1000000000000 ≤ lo) (h2 : hi ≤ 1000000000000) (h : Heap) :
    acall Try.prog (k + 1) 12 [.int .i64 n, .int .i64 lo, .int .i64 hi] h = some (.int .i64 (lo + n % (hi - lo + 1)), h) := by
  rw [acall_text [] Try.func12 (by kernel_rfl)]
  refine afuncT_of rfl (by simp [Try.f12]) ?_
  have w1 := i64w (hi - lo) (by omega) (by omega)
  have w2 := i64w (hi - lo + 1) (by omega) (by omega)
  have hne : ¬ hi - lo + 1 = 0 := by omega
  have e1 : n % (hi - lo + 1) < hi - lo + 1 := Int.emod_lt_of_pos _ (by omega)
  have e2 : 0 ≤ n % (hi - lo + 1) := Int.emod_nonneg _ (by omega)
  have e0 := Int.tmod_eq_emod (a := n) (b := hi - lo + 1)
  by_cases hr : n.tmod (hi - lo + 1) < 0
  · have e3 : n.tmod (hi - lo + 1) + (hi - lo + 1) = n % (hi - lo + 1) := by
      split at e0 <;> omega
    have w3 := i64w (n.tmod (hi - lo + 1) + hi) (by omega) (by omega)
    have w4 := i64w (n.tmod (hi - lo + 1) + hi - lo) (by omega) (by omega)
    have w5 := i64w (n.tmod (hi - lo + 1) + hi - lo + 1) (by omega) (by omega)
    have w6 := i64w (lo + (n.tmod (hi - lo + 1) + hi - lo + 1)) (by omega) (by omega)
    simp [Try.f12, w1, w2, w3, w4, w5, w6, hne, hr]
    omega
  · have e3 : n.tmod (hi - lo + 1) = n % (hi - lo + 1) := by
      split at e0 <;> omega
    have w6 := i64w (lo + n % (hi - lo + 1)) (by omega) (by omega)
    rw [e3] at hr
    simp [Try.f12, w1, w2, w6, hne, hr, e3]

/-- The slots of a stripe. -/
def stripe (f n s : Nat) : List Int := (List.range n).map fun i => (((f + i) % s : Nat) : Int)
theorem stripe_len (f n s : Nat) : (stripe f n s).length = n := by simp [stripe]
theorem stripe_succ (f j s : Nat) : stripe f (j + 1) s = stripe f j s ++ [(((f + j) % s : Nat) : Int)] := by simp [stripe, List.range_succ]
def stripeL (key : List UInt8) (n s : Int) : List Int := if 1 ≤ s ∧ s ≤ 12 ∧ 0 ≤ n ∧ n ≤ s then stripe (hash key % s.toNat) n.toNat s.toNat else []

theorem stripe_ok (k : Nat) (key : ByteArray) (hk : key.size + 20 < k) (hm : key.size < 2 ^ 62) (n s : Int) (h : Heap) :
    ∃ v h', acall Try.prog (k + 2) 7 [.str key, .int .i64 n, .int .i64 s] h = some (v, h') ∧
      Vec h.next nob 1 (stripeL key.data.toList n s).length h' v ((stripeL key.data.toList n s).map iv) ∧ Keep h.next nob h h' := by
  rw [acall_text [] Try.func7 (by kernel_rfl)]
  refine afuncT_ex (Post := fun v h' => Vec h.next nob 1 (stripeL key.data.toList n s).length h' v ((stripeL key.data.toList n s).map iv) ∧ Keep h.next nob h h') rfl (by simp [Try.f7]) ?_
  by_cases hok : 1 ≤ s ∧ s ≤ 12 ∧ 0 ≤ n ∧ n ≤ s
  · have hs : stripeL key.data.toList n s = stripe (hash key.data.toList % s.toNat) n.toNat s.toNat := if_pos hok
    rw [hs]
    obtain ⟨g1, g2, g3, g4⟩ := hok
    obtain ⟨s, rfl⟩ := Int.eq_ofNat_of_zero_le (show 0 ≤ s by omega)
    obtain ⟨n, rfl⟩ := Int.eq_ofNat_of_zero_le g3
    have g5 : ¬ s = 0 := by omega
    have g4' : n ≤ s := by omega
    simp only [Int.toNat_natCast, stripe_len]
    have hlt := hash_lt key.data.toList
    simp [Try.f7, g1, g2, g4', g5, hash_ok k key (by omega) hm, i64w _ (show -9223372036854775808 ≤ ((hash key.data.toList : Nat) : Int) by omega) (by omega)]
    generalize hf : hash key.data.toList % s = f
    have hf' : (((hash key.data.toList : Nat) : Int).tmod (s : Int)) = (f : Int) := by rw [← hf]; rfl
    rw [hf']
    have hfs : f < s := by rw [← hf]; exact Nat.mod_lt _ (by omega)
    refine W_loop (fun m st => ∃ j v, m = n - j ∧ j ≤ n ∧ Vec h.next nob 1 j st.h v ((stripe f j s).map iv) ∧ Keep h.next nob h st.h ∧ st.t.get 2 = some (.int .i64 (s : Nat)) ∧ st.t.get 7 = some (.int .i64 (f : Nat)) ∧
      st.t.get 8 = some v ∧ st.t.get 30 = some (.int .i64 (n : Nat)) ∧ st.t.get 31 = some (.int .i64 (j : Nat))) n (by omega) ⟨0, .nils, by simp, by omega, Vec.nil _ _ _ _, Keep.refl _ _ _, by simp⟩ ?_
    rintro m ⟨t, h'⟩ ⟨j, v, rfl, hj, ho, he, q2, q7, q8, q30, q31⟩
    simp only at ho he q2 q7 q8 q30 q31
    by_cases hlt : j < n
    · have w3 : ((f : Int) + (j : Int)).tmod (s : Int) = (((f + j) % s : Nat) : Int) := by
        rw [Int.tmod_eq_emod_of_nonneg (by omega)]; rfl
      simp [q2, q7, q8, q30, q31, hlt, Nat.not_le.2 hlt, i64w ((f : Int) + (j : Int)) (by omega) (by omega), w3, g5, aalloc, afill, AV.row1, AV.row, AV.one]
      refine use (vec_push el22 ho (by rfl) (by rfl) (by omega) he.1) ?_
      rintro v' h2 ⟨a1, a2⟩
      simp [q31, i64w ((j : Int) + 1) (by omega) (by omega)]
      refine ⟨n - (j + 1), by omega, j + 1, by omega, by omega, v', ?_, he.trans a2, by simp [q2, q7, q30]⟩
      rw [stripe_succ, List.map_append]
      exact a1
    · have : j = n := by omega
      subst this
      simp [q2, q7, q8, q30, q31, ho, he]
  · have hs : stripeL key.data.toList n s = [] := if_neg hok
    rw [hs]
    have vn : Vec h.next nob 1 0 h .nils [] := Vec.nil _ _ _ _
    by_cases c1 : 1 ≤ s
    · by_cases c2 : s ≤ 12
      · by_cases c3 : 0 ≤ n
        · have c4 : ¬ n ≤ s := by omega
          simp [Try.f7, c1, c2, c3, c4, vn, Keep.refl]
        · simp [Try.f7, c1, c2, c3, vn, Keep.refl]
      · simp [Try.f7, c1, c2, vn, Keep.refl]
    · simp [Try.f7, c1, vn, Keep.refl]
theorem rstripe_ok (k : Nat) (key : ByteArray) (hk : key.size + 20 < k) (hm : key.size < 2 ^ 62) (n s : Int) (h : Heap) :
    ∃ v h', acall Try.prog (k + 2) 10 [.str key, .int .i64 n, .int .i64 s] h = some (v, h') ∧
      Vec h.next nob 1 (stripeL key.data.toList n s).length h' v ((stripeL key.data.toList n s).map iv) ∧ Keep h.next nob h h' := by
  rw [acall_text [] Try.func10 (by kernel_rfl)]
  refine afuncT_ex (Post := fun v h' => Vec h.next nob 1 (stripeL key.data.toList n s).length h' v ((stripeL key.data.toList n s).map iv) ∧ Keep h.next nob h h') rfl (by simp [Try.f10]) ?_
  by_cases hok : 1 ≤ s ∧ s ≤ 12 ∧ 0 ≤ n ∧ n ≤ s
  · have hs : stripeL key.data.toList n s = stripe (hash key.data.toList % s.toNat) n.toNat s.toNat := if_pos hok
    rw [hs]
    obtain ⟨g1, g2, g3, g4⟩ := hok
    obtain ⟨s, rfl⟩ := Int.eq_ofNat_of_zero_le (show 0 ≤ s by omega)
    obtain ⟨n, rfl⟩ := Int.eq_ofNat_of_zero_le g3
    have g5 : ¬ s = 0 := by omega
    have g4' : n ≤ s := by omega
    simp only [Int.toNat_natCast, stripe_len]
    have hlt := hash_lt key.data.toList
    simp [Try.f10, g1, g2, g4', g5, rhash_ok k key (by omega) hm, i64w _ (show -9223372036854775808 ≤ ((hash key.data.toList : Nat) : Int) by omega) (by omega)]
    generalize hf : hash key.data.toList % s = f
    have hf' : (((hash key.data.toList : Nat) : Int).tmod (s : Int)) = (f : Int) := by rw [← hf]; rfl
    rw [hf']
    have hfs : f < s := by rw [← hf]; exact Nat.mod_lt _ (by omega)
    refine W_loop (fun m st => ∃ j v, m = n - j ∧ j ≤ n ∧ Vec h.next nob 1 j st.h v ((stripe f j s).map iv) ∧ Keep h.next nob h st.h ∧ st.t.get 2 = some (.int .i64 (s : Nat)) ∧ st.t.get 8 = some (.int .i64 (f : Nat)) ∧
      st.t.get 7 = some v ∧ st.t.get 1 = some (.int .i64 (n : Nat)) ∧ st.t.get 9 = some (.int .i64 (j : Nat))) n (by omega) ⟨0, .nils, by simp, by omega, Vec.nil _ _ _ _, Keep.refl _ _ _, by simp⟩ ?_
    rintro m ⟨t, h'⟩ ⟨j, v, rfl, hj, ho, he, q2, q7, q8, q30, q31⟩
    simp only at ho he q2 q7 q8 q30 q31
    by_cases hlt : j < n
    · have w3 : ((f : Int) + (j : Int)).tmod (s : Int) = (((f + j) % s : Nat) : Int) := by
        rw [Int.tmod_eq_emod_of_nonneg (by omega)]; rfl
      simp [q2, q7, q8, q30, q31, hlt, Nat.not_le.2 hlt, i64w ((f : Int) + (j : Int)) (by omega) (by omega), w3, g5, aalloc, afill, AV.row1, AV.row, AV.one]
      refine use (vec_push el22 ho (by rfl) (by rfl) (by omega) he.1) ?_
      rintro v' h2 ⟨a1, a2⟩
      simp [q31, i64w ((j : Int) + 1) (by omega) (by omega)]
      refine ⟨n - (j + 1), by omega, j + 1, by omega, by omega, v', ?_, he.trans a2, by simp [q2, q7, q30]⟩
      rw [stripe_succ, List.map_append]
      exact a1
    · have : j = n := by omega
      subst this
      simp [q2, q7, q8, q30, q31, ho, he]
  · have hs : stripeL key.data.toList n s = [] := if_neg hok
    rw [hs]
    have vn : Vec h.next nob 1 0 h .nils [] := Vec.nil _ _ _ _
    by_cases c1 : 1 ≤ s
    · by_cases c2 : s ≤ 12
      · by_cases c3 : 0 ≤ n
        · have c4 : ¬ n ≤ s := by omega
          simp [Try.f10, c1, c2, c3, c4, vn, Keep.refl]
        · simp [Try.f10, c1, c2, c3, vn, Keep.refl]
      · simp [Try.f10, c1, c2, vn, Keep.refl]
    · simp [Try.f10, c1, vn, Keep.refl]

/-- Where a number stands; -1: nowhere. -/
def posF : List Int → Int → Nat → Int
  | [], _, _ => -1
  | y :: l, x, i => if y = x then (i : Int) else posF l x (i + 1)
theorem posF_drop {l : List Int} {j : Nat} {y x : Int} (hy : l[j]? = some y) : posF (l.drop j) x j = if y = x then (j : Int) else posF (l.drop (j + 1)) x (j + 1) := by
  have hlt := (List.getElem?_eq_some_iff.1 hy).1
  have : l.drop j = y :: l.drop (j + 1) := by
    rw [List.drop_eq_getElem_cons hlt]
    have := (List.getElem?_eq_some_iff.1 hy).2
    rw [this]
  rw [this]
  rfl
theorem iv_get {l : List Int} {j : Nat} {x : Int} (h : l[j]? = some x) : (l.map iv)[j]? = some (iv x) := by rw [List.getElem?_map, h]; rfl
theorem get_of {α : Type} {l : List α} {j : Nat} (h : j < l.length) : ∃ x, l[j]? = some x := ⟨l[j], by simp [h]⟩

theorem pos_ok (k : Nat) (key : ByteArray) (hk : key.size + 100 < k) (hm : key.size < 2 ^ 62) (n s slot : Int) (h : Heap) :
    ∃ v h', acall Try.prog (k + 3) 9 [.str key, .int .i64 n, .int .i64 s, .int .i64 slot] h = some (v, h') ∧ v = .int .i64 (posF (stripeL key.data.toList n s) slot 0) ∧ Keep h.next nob h h' := by
  rw [acall_text [] Try.func9 (by kernel_rfl)]
  refine afuncT_ex rfl (by simp [Try.f9]) ?_
  simp [Try.f9]
  refine use (stripe_ok k key (by omega) hm n s h) ?_
  rintro v h' ⟨hv, hk'⟩
  generalize hL : stripeL key.data.toList n s = L at hv
  have hL12 : L.length ≤ 12 := by
    rw [← hL]; unfold stripeL
    split
    · rw [stripe_len]; omega
    · simp
  have hsl := hv.sl
  simp [hsl.len']
  refine W_loop (fun m st => ∃ j, m = L.length - j ∧ j ≤ L.length ∧ st.h = h' ∧ st.t.get 3 = some (.int .i64 slot) ∧ st.t.get 15 = some v ∧ st.t.get 16 = some (.int .i64 (L.length : Nat)) ∧ st.t.get 17 = some (.int .i64 (j : Nat)) ∧ st.t.get 9 = some (.int .i64 (-1)) ∧
    posF (L.drop j) slot j = posF L slot 0) L.length (by omega) ⟨0, by simp⟩ ?_
  rintro m ⟨t, h2⟩ ⟨j, rfl, hj, rfl, q3, q15, q16, q17, q9, hp⟩
  simp only at q3 q15 q16 q17 q9 hsl hk'
  by_cases hlt : j < L.length
  · obtain ⟨x, hx⟩ := get_of hlt
    obtain ⟨b, i, c, o, a1, a2, a3⟩ := hsl.at1 (P := Try.prog) (ty := 22) (e := 3) (k := .i64) Try.underlying22 ts3 (iv_get hx)
    rw [posF_drop hx] at hp
    by_cases hxs : x = slot
    · subst hxs
      simp [q3, q15, q16, q17, q9, hlt, a1, aload, Heap.row, a2, a3, iv, Nat.not_le.2 hlt]
      rw [if_pos rfl] at hp
      exact ⟨hp, hk'⟩
    · rw [if_neg hxs] at hp
      simp [q3, q15, q16, q17, q9, hlt, a1, aload, Heap.row, a2, a3, iv, hxs, i64w ((j : Int) + 1) (by omega) (by omega), Nat.not_le.2 hlt]
      exact ⟨L.length - (j + 1), by omega, j + 1, by omega, by omega, by simp, hp⟩
  · have : j = L.length := by omega
    subst this
    rw [List.drop_length] at hp
    simp [q3, q15, q16, q17, q9, hk']
    exact hp

theorem metas_ok (k : Nat) (key : ByteArray) (hk : key.size + 100 < k) (hm : key.size < 2 ^ 62) (m s : Int) (h : Heap) (hs : s ≤ 9223372036854775807) :
    ∃ v h', acall Try.prog (k + 3) 8 [.str key, .int .i64 m, .int .i64 s] h = some (v, h') ∧
      Vec h.next nob 1 (if 0 ≤ m then stripeL key.data.toList (m + 1) s else []).length h' v ((if 0 ≤ m then stripeL key.data.toList (m + 1) s else []).map iv) ∧ Keep h.next nob h h' := by
  rw [acall_text [] Try.func8 (by kernel_rfl)]
  refine afuncT_ex rfl (by simp [Try.f8]) ?_
  have vn : Vec h.next nob 1 0 h .nils [] := Vec.nil _ _ _ _
  by_cases c1 : 0 ≤ m
  · by_cases c2 : s ≤ m
    · have hz : stripeL key.data.toList (m + 1) s = [] := if_neg (by omega)
      simp [Try.f8, c1, c2, hz, vn, Keep.refl]
    · simp [Try.f8, c1, c2, i64w (m + 1) (by omega) (by omega)]
      refine use (stripe_ok k key (by omega) hm (m + 1) s h) ?_
      rintro v h' ⟨hv, hk'⟩
      simp [hk', c1]
      exact hv
  · simp [Try.f8, c1, vn, Keep.refl]

/-- Are two rows of numbers the same? -/
theorem same_ok (k : Nat) (a b : List Int) (v1 v2 : AV) (h : Heap) (r1 : Sl 1 a.length h v1 (a.map iv)) (r2 : Sl 1 b.length h v2 (b.map iv)) (hk : a.length + 2 < k) (hm : a.length < 1000000000000) :
    acall Try.prog (k + 1) 11 [v1, v2] h = some (.bool (decide (a = b)), h) := by
  rw [acall_text [] Try.func11 (by kernel_rfl)]
  refine afuncT_of rfl (by simp [Try.f11]) ?_
  by_cases hl : a.length = b.length
  · simp [Try.f11, r1.len', r2.len', hl]
    refine W_loop (fun m st => ∃ j, m = a.length - j ∧ j ≤ a.length ∧ st.h = h ∧ st.t.get 0 = some v1 ∧ st.t.get 1 = some v2 ∧ st.t.get 5 = some (.int .i64 (j : Nat)) ∧
      a.take j = b.take j) a.length (by omega) ⟨0, by simp⟩ ?_
    rintro m ⟨t, h'⟩ ⟨j, rfl, hj, rfl, h0, h1, h5, hab⟩
    simp only at h0 h1 h5 r1 r2
    by_cases hlt : j < a.length
    · obtain ⟨x, hx⟩ := get_of hlt
      obtain ⟨y, hy⟩ := get_of (l := b) (j := j) (by omega)
      obtain ⟨b1, i1, c1, o1, q1, q2, q3⟩ := r1.at1 (P := Try.prog) (ty := 22) (e := 3) (k := .i64) Try.underlying22 ts3 (iv_get hx)
      obtain ⟨b2, i2, c2, o2, p1, p2, p3⟩ := r2.at1 (P := Try.prog) (ty := 22) (e := 3) (k := .i64) Try.underlying22 ts3 (iv_get hy)
      have t1 : a.take (j + 1) = a.take j ++ [x] := by rw [List.take_add_one, hx]; rfl
      have t2 : b.take (j + 1) = b.take j ++ [y] := by rw [List.take_add_one, hy]; rfl
      have hlt' : j < b.length := by omega
      have hne := Nat.not_le.2 hlt'
      have w2 := i64w ((j : Int) + 1) (by omega) (by omega)
      by_cases hxy : x = y
      · simp [h0, h1, h5, r1.len', r2.len', hl, hlt', aload, Heap.row, q1, q2, q3, p1, p2, p3, iv, w2, hne, hxy]
        exact ⟨a.length - (j + 1), by omega, j + 1, by omega, by omega, by simp, by rw [t1, t2, hab, hxy]⟩
      · simp [h0, h1, h5, r1.len', r2.len', hl, hlt', aload, Heap.row, q1, q2, q3, p1, p2, p3, iv, w2, hne, hxy]
        intro hab'
        subst hab'
        rw [hx] at hy
        exact hxy (Option.some.inj hy)
    · have : j = a.length := by omega
      subst this
      have hab' : a = b := by
        have := hab
        rw [List.take_of_length_le (Nat.le_refl _), hl, List.take_of_length_le (Nat.le_refl _)] at this
        exact this
      subst hab'
      simp [h0, h1, h5, r1.len']
  · have hne : ¬ a = b := fun q => hl (q ▸ rfl)
    have hli : ¬ ((a.length : Int) = (b.length : Int)) := by omega
    simp [Try.f11, r1.len', r2.len', hl, hne, hli]

theorem stripeL_ok {key : List UInt8} {n s : Nat} (h1 : 1 ≤ s) (h2 : s ≤ 12) (h3 : n ≤ s) : stripeL key (n : Nat) (s : Nat) = stripe (hash key % s) n s := by
  unfold stripeL
  rw [if_pos (by omega)]
  simp
theorem stripe_take {f n s j : Nat} (h : j ≤ n) : (stripe f n s).take j = stripe f j s := by
  unfold stripe
  rw [← List.map_take, List.take_range, Nat.min_eq_left h]
theorem strip_key {a : ByteArray} {n : Nat} (h : ¬ (a.size : Int) ≤ n) : (a.extract 0 (n : Int).toNat).size ≤ n := by
  simp
  omega
end Go.Proofs.Ytddlhjhjaggppaa
