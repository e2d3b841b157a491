/- Rank and inverse, in plain words. -/
import Derived.Test.YtcgafaecdjbmiaaElim
namespace Go.Proofs.Ytcgafaecdjbmiaa
set_option linter.unusedSimpArgs false
set_option linter.unusedVariables false

def rankA (n : Nat) (M : Mt) : Nat := (redA M n).2
theorem sub_range {ps : List Nat} {n : Nat} (h : ps.Sublist (List.range n)) : ps.length ≤ n := by simpa using h.length_le
theorem rankA_le {n : Nat} {M : Mt} (h : RowsN n M) : rankA n M ≤ n ∧ rankA n M ≤ M.length := by
  obtain ⟨ps, P, l, E, hl⟩ := redA_ok h n
  have := P.le
  rw [hl] at this
  unfold rankA
  rw [← l]
  exact ⟨sub_range P.sub, this⟩
/-- Rows that span the same, apart. -/
theorem rank_top {n : Nat} {M : Mt} (h : RowsN n M) : ∃ top : Mt, RowsN n top ∧ top.length = rankA n M ∧ Ind n top ∧ (∀ r, r ∈ M → Sp n top r) ∧ ∀ r, r ∈ top → Sp n M r := by
  obtain ⟨ps, P, l, E, hl⟩ := redA_ok h n
  have hle := P.le
  have ht : RowsN n ((redA M n).1.take ps.length) := fun r hr => E.rb r (List.mem_of_mem_take hr)
  have tl : ((redA M n).1.take ps.length).length = ps.length := by rw [List.length_take]; omega
  refine ⟨(redA M n).1.take ps.length, ht, by rw [tl, l]; rfl, fun v w hv hw e => ?_, fun r hr => ?_, fun r hr => E.ab r (List.mem_of_mem_take hr)⟩
  · rw [tl] at hv hw
    refine vc_ext (by omega) fun j hj => ?_
    obtain ⟨p, hp⟩ : ∃ p, ps[j]? = some p := ⟨ps[j]'(by omega), by simp⟩
    have hpn : p < n := List.mem_range.1 (P.sub.subset (List.mem_of_getElem? hp))
    have col : colM ((redA M n).1.take ps.length) p = ev1 ps.length j := by
      refine vc_ext (by simp [colM]; omega) fun i hi => ?_
      have hi : i < ps.length := by simp [colM] at hi; omega
      rw [ev1_get _ _ _ hi]
      have := P.one j p hp i (by omega)
      unfold atA rowA at this
      unfold colM
      rw [List.getElem?_map, List.getElem?_take, if_pos hi]
      obtain ⟨r, hr⟩ : ∃ r, (redA M n).1[i]? = some r := ⟨(redA M n).1[i]'(by omega), by simp⟩
      rw [hr] at this ⊢
      rw [Option.map_some, Option.getD_some]
      rw [Option.getD_some] at this
      rw [this]
      by_cases q : i = j
      · rw [if_pos q, if_pos q.symm]
      · rw [if_neg q, if_neg (Ne.symm q)]
    have := congrArg (fun x : Vc => x[p]?.getD 0) e
    simp only [lc_get p ht, col] at this
    rw [dot_comm v, dot_comm w, dot_ev1 _ j v (by omega) (by omega), dot_ev1 _ j w (by omega) (by omega)] at this
    exact this
  · refine Sp.trans ht (fun s hs => ?_) (E.ba r hr)
    obtain ⟨i, hi⟩ := List.getElem?_of_mem hs
    have hil := (List.getElem?_eq_some_iff.1 hi).1
    by_cases hr' : i < ps.length
    · exact Sp.mem ht (List.mem_iff_getElem?.2 ⟨i, by rw [List.getElem?_take, if_pos hr']; exact hi⟩)
    · have e : s = zv n := by
        have hsl := E.rb s hs
        refine vc_ext (by rw [hsl, zv_len]) fun col hc => ?_
        have := P.zero i col (by omega) hil (by omega)
        unfold atA at this
        rw [rowA_get hi] at this
        rw [this, zv_get]
      rw [e]
      exact Sp.zero ht
theorem rank_le_of {n : Nat} {M X : Mt} (h : RowsN n M) (hX : RowsN n X) (hs : ∀ r, r ∈ M → Sp n X r) : rankA n M ≤ X.length := by
  obtain ⟨top, h1, h2, h3, h4, h5⟩ := rank_top h
  rw [← h2]
  exact h3.le hX fun r hr => Sp.trans hX hs (h5 r hr)
theorem le_rank {n : Nat} {M X : Mt} (h : RowsN n M) (I : Ind n X) (hs : ∀ r, r ∈ X → Sp n M r) : X.length ≤ rankA n M := by
  obtain ⟨top, h1, h2, h3, h4, h5⟩ := rank_top h
  rw [← h2]
  exact I.le h1 fun r hr => Sp.trans h1 h4 (hs r hr)
/-- A product's rank is no greater than either one's. -/
theorem rank_mul {n m : Nat} {A B : Mt} (hA : RowsN m A) (hB : RowsN n B) (hl : B.length = m) : rankA n (mtT n A B) ≤ rankA m A ∧ rankA n (mtT n A B) ≤ rankA n B := by
  have hAB := mtT_rows hB A
  constructor
  · obtain ⟨top, h1, h2, h3, h4, h5⟩ := rank_top hA
    have hX := mtT_rows hB top
    have := rank_le_of hAB hX fun r hr => by
      obtain ⟨a, ha, rfl⟩ := List.mem_map.1 hr
      obtain ⟨u, e1, rfl⟩ := h4 a ha
      exact ⟨u, by simp [mtT, e1], lc_assoc hB h1⟩
    simpa [mtT, h2] using this
  · obtain ⟨top, h1, h2, h3, h4, h5⟩ := rank_top hB
    rw [← h2]
    exact rank_le_of hAB h1 fun r hr => by
      obtain ⟨a, ha, rfl⟩ := List.mem_map.1 hr
      exact Sp.lc h1 h4
/-- Where nothing but nought makes nought, the rank is whole. -/
theorem rank_full {n : Nat} {M : Mt} (h : RowsN n M) (hk : ∀ w : Vc, w.length = M.length → lc n w M = zv n → w = zv M.length) : rankA n M = M.length := by
  refine Nat.le_antisymm (rankA_le h).2 (le_rank h (X := M) (fun v w hv hw e => ?_) fun r hr => Sp.mem h hr)
  have := hk (addL v w) (by rw [addL_len (by omega)]; exact hv) (by rw [lc_add h (by omega), e, addL_self, lc_len h])
  have e2 : addL (addL v w) w = w := by
    rw [this]
    refine vc_ext (by rw [addL_len (by simp [hw])]; simp [hw]) fun j _ => by rw [addL_get _ _ _ (by simp [hw]), zv_get, UInt8.zero_xor]
  rw [addL_cancel (by omega)] at e2
  exact e2
theorem ind_id (n : Nat) : Ind n (idM n) := fun v w hv hw e => by
  rw [idM_len] at hv hw
  rwa [lc_id hv, lc_id hw] at e

/-! The inverse. -/
def joinA (A B : Mt) : Mt := List.zipWith (· ++ ·) A B
theorem take_addL (n : Nat) (a b : Vc) : (addL a b).take n = addL (a.take n) (b.take n) := by unfold addL; rw [List.take_zipWith]
theorem drop_addL (n : Nat) (a b : Vc) : (addL a b).drop n = addL (a.drop n) (b.drop n) := by unfold addL; rw [List.drop_zipWith]
theorem take_smul (n : Nat) (c : UInt8) (a : Vc) : (smul c a).take n = smul c (a.take n) := by unfold smul; rw [List.map_take]
theorem drop_smul (n : Nat) (c : UInt8) (a : Vc) : (smul c a).drop n = smul c (a.drop n) := by unfold smul; rw [List.map_drop]
theorem lc_take {n m : Nat} : ∀ {u : Vc} {E : Mt}, (lc (n + m) u E).take n = lc n u (E.map (·.take n))
  | [], E => by simp [lc, zv]
  | x :: u, [] => by simp [lc, zv]
  | x :: u, r :: E => by simp only [lc, List.map_cons]; rw [take_addL, take_smul, lc_take]
theorem lc_drop {n m : Nat} : ∀ {u : Vc} {E : Mt}, (lc (n + m) u E).drop n = lc m u (E.map (·.drop n))
  | [], E => by simp [lc, zv]
  | x :: u, [] => by simp [lc, zv]
  | x :: u, r :: E => by simp only [lc, List.map_cons]; rw [drop_addL, drop_smul, lc_drop]
theorem joinA_len {A B : Mt} (h : A.length = B.length) : (joinA A B).length = A.length := by simp [joinA, h]
theorem joinA_get {A B : Mt} {i : Nat} {a b : Vc} (ha : A[i]? = some a) (hb : B[i]? = some b) : (joinA A B)[i]? = some (a ++ b) := by
  unfold joinA
  rw [List.getElem?_zipWith, ha, hb]
theorem joinA_rows {n m : Nat} {A B : Mt} (h : A.length = B.length) (hA : RowsN n A) (hB : RowsN m B) : RowsN (n + m) (joinA A B) := fun r hr => by
  obtain ⟨i, hi⟩ := List.getElem?_of_mem hr
  have hil := (List.getElem?_eq_some_iff.1 hi).1
  rw [joinA_len h] at hil
  obtain ⟨a, ha⟩ : ∃ a, A[i]? = some a := ⟨A[i], by simp⟩
  obtain ⟨b, hb⟩ : ∃ b, B[i]? = some b := ⟨B[i]'(by omega), by simp⟩
  rw [joinA_get ha hb] at hi
  cases hi
  rw [List.length_append, hA a (List.mem_of_getElem? ha), hB b (List.mem_of_getElem? hb)]
theorem joinA_take {n : Nat} {A B : Mt} (h : A.length = B.length) (hA : RowsN n A) : (joinA A B).map (·.take n) = A := by
  refine List.ext_getElem? fun i => ?_
  rw [List.getElem?_map]
  by_cases hi : i < A.length
  · obtain ⟨a, ha⟩ : ∃ a, A[i]? = some a := ⟨A[i], by simp⟩
    obtain ⟨b, hb⟩ : ∃ b, B[i]? = some b := ⟨B[i]'(by omega), by simp⟩
    rw [joinA_get ha hb, ha, Option.map_some, List.take_left' (hA a (List.mem_of_getElem? ha))]
  · rw [List.getElem?_eq_none (by rw [joinA_len h]; omega), List.getElem?_eq_none (by omega)]; rfl
theorem joinA_drop {n : Nat} {A B : Mt} (h : A.length = B.length) (hA : RowsN n A) : (joinA A B).map (·.drop n) = B := by
  refine List.ext_getElem? fun i => ?_
  rw [List.getElem?_map]
  by_cases hi : i < A.length
  · obtain ⟨a, ha⟩ : ∃ a, A[i]? = some a := ⟨A[i], by simp⟩
    obtain ⟨b, hb⟩ : ∃ b, B[i]? = some b := ⟨B[i]'(by omega), by simp⟩
    rw [joinA_get ha hb, hb, Option.map_some, List.drop_left' (hA a (List.mem_of_getElem? ha))]
  · rw [List.getElem?_eq_none (by rw [joinA_len h]; omega), List.getElem?_eq_none (by omega)]; rfl
/-- What stands behind the columns changes nothing in them. -/
theorem atA_take {n : Nat} {A : Mt} {i c : Nat} (hc : c < n) : atA (A.map (·.take n)) i c = atA A i c := by
  unfold atA rowA
  rw [List.getElem?_map]
  cases A[i]? with
  | none => rfl
  | some r => simp [List.getElem?_take, hc]
theorem rowA_take (n : Nat) (A : Mt) (i : Nat) : rowA (A.map (·.take n)) i = (rowA A i).take n := by
  unfold rowA
  rw [List.getElem?_map]
  cases A[i]? with
  | none => simp
  | some r => rfl
theorem findP_take {n : Nat} {A : Mt} {c : Nat} (hc : c < n) : ∀ f i : Nat, findP (A.map (·.take n)) c f i = findP A c f i
  | 0, i => rfl
  | f + 1, i => by simp only [findP, atA_take hc, findP_take hc f (i + 1)]
theorem stepA_take {n : Nat} {A : Mt} {r c : Nat} (hc : c < n) : stepA (A.map (·.take n), r) c = (((stepA (A, r) c).1.map (·.take n)), (stepA (A, r) c).2) := by
  unfold stepA
  simp only [findP_take hc, List.length_map]
  cases findP A c (A.length - r) r with
  | none => rfl
  | some p =>
    dsimp only
    congr 1
    have e1 : swpA (A.map (·.take n)) r p = (swpA A r p).map (·.take n) := by
      unfold swpA
      rw [rowA_take, rowA_take, List.map_set, List.map_set]
    rw [e1]
    generalize swpA A r p = B
    have e2 : scaleA (B.map (·.take n)) r c = (scaleA B r c).map (·.take n) := by
      unfold scaleA
      rw [rowA_take, atA_take hc, ← take_smul, List.map_set]
    rw [e2]
    generalize scaleA B r c = C
    unfold clrA
    rw [List.length_map, List.map_map]
    refine List.map_congr_left fun i _ => ?_
    show clrR (C.map (·.take n)) r c i = (clrR C r c i).take n
    unfold clrR
    rw [rowA_take, rowA_take, atA_take hc]
    split
    · rfl
    · rw [take_addL, take_smul]
theorem redA_take {n : Nat} {A : Mt} : ∀ c : Nat, c ≤ n → redA (A.map (·.take n)) c = (((redA A c).1.map (·.take n)), (redA A c).2)
  | 0, _ => rfl
  | c + 1, h => by
    have e : ∀ X : Mt, redA X (c + 1) = stepA (redA X c) c := fun X => by
      unfold redA
      rw [List.range_succ, List.foldl_append]; rfl
    rw [e, e, redA_take c (by omega), stepA_take (by omega)]
def invA (M : Mt) : Mt × Bool := if (redA (joinA M (idM M.length)) M.length).2 < M.length then ([], false) else ((redA (joinA M (idM M.length)) M.length).1.map (·.drop M.length), true)
theorem invA_rank {n : Nat} {M : Mt} (h : RowsN n M) (hn : M.length = n) : (redA (joinA M (idM n)) n).2 = rankA n M := by
  have := redA_take (n := n) (A := joinA M (idM n)) n (Nat.le_refl _)
  rw [joinA_take (by simp [hn]) h] at this
  unfold rankA
  rw [this]
theorem eq_range : ∀ {ps : List Nat} {n : Nat}, ps.Sublist (List.range n) → ps.length = n → ps = List.range n := fun h hl => h.eq_of_length (by simpa using hl)
/-- The inverse gives Identity from both sides. -/
theorem invA_ok {n : Nat} {M : Mt} (h : RowsN n M) (hn : M.length = n) (hr : rankA n M = n) : ∃ B, invA M = (B, true) ∧ RowsN n B ∧ B.length = n ∧ mtT n B M = idM n ∧ mtT n M B = idM n := by
  have hlen : M.length = (idM n).length := by simp [hn]
  have hE := joinA_rows hlen h (idM_rows n)
  have eT := joinA_take hlen h
  have eD := joinA_drop hlen h
  have el := joinA_len hlen
  obtain ⟨ps, P, l, E, hl⟩ := redA_ok hE n
  have hcount := invA_rank h hn
  unfold invA
  rw [hn, if_neg (by omega)]
  refine ⟨_, rfl, ?_⟩
  generalize hR : (redA (joinA M (idM n)) n).1 = R at *
  have hRl : R.length = n := by rw [hl, el, hn]
  have hps : ps = List.range n := eq_range P.sub (by rw [l, hcount, hr])
  have hRT : R.map (·.take n) = idM n := by
    refine List.ext_getElem? fun i => ?_
    rw [List.getElem?_map]
    by_cases hi : i < n
    · obtain ⟨a, ha⟩ : ∃ a, R[i]? = some a := ⟨R[i]'(by omega), by simp⟩
      have hal := E.rb a (List.mem_of_getElem? ha)
      rw [ha, Option.map_some, idM_get hi]
      congr 1
      refine vc_ext (by simp; omega) fun j hj => ?_
      have hj : j < n := by simp at hj; omega
      have := P.one j j (by rw [hps]; simp [hj]) i (by omega)
      unfold atA at this
      rw [rowA_get ha] at this
      rw [List.getElem?_take, if_pos hj, this, ev1_get n i j hj]
    · rw [List.getElem?_eq_none (by omega), List.getElem?_eq_none (by simp; omega)]; rfl
  have hB : RowsN n (R.map (·.drop n)) := fun r hr' => by
    obtain ⟨a, ha, rfl⟩ := List.mem_map.1 hr'
    rw [List.length_drop, E.rb a ha]; omega
  refine ⟨hB, by simp [hRl], ?_, ?_⟩
  · refine List.ext_getElem? fun i => ?_
    unfold mtT
    rw [List.map_map, List.getElem?_map]
    by_cases hi : i < n
    · obtain ⟨a, ha⟩ : ∃ a, R[i]? = some a := ⟨R[i]'(by omega), by simp⟩
      obtain ⟨t, t1, t2⟩ := E.ab a (List.mem_of_getElem? ha)
      rw [el, hn] at t1
      have hRi : (R.map (·.take n))[i]? = some (a.take n) := by rw [List.getElem?_map, ha]; rfl
      rw [hRT, idM_get hi] at hRi
      have hRi := Option.some.inj hRi
      have d : a.drop n = t := by rw [t2, lc_drop, eD, lc_id t1]
      have tk : a.take n = lc n t M := by rw [t2, lc_take, eT]
      rw [ha, Option.map_some, idM_get hi]
      congr 1
      show lc n (a.drop n) M = ev1 n i
      rw [d, ← tk, ← hRi]
    · rw [List.getElem?_eq_none (by omega), List.getElem?_eq_none (by simp; omega)]; rfl
  · refine List.ext_getElem? fun i => ?_
    unfold mtT
    rw [List.getElem?_map]
    by_cases hi : i < n
    · obtain ⟨m, hm⟩ : ∃ m, M[i]? = some m := ⟨M[i]'(by omega), by simp⟩
      have hj := joinA_get hm (idM_get hi)
      obtain ⟨u, u1, u2⟩ := E.ba _ (List.mem_of_getElem? hj)
      rw [hRl] at u1
      have hml := h m (List.mem_of_getElem? hm)
      have tk : m = u := by
        have := congrArg (List.take n) u2
        rwa [List.take_left' hml, lc_take, hRT, lc_id u1] at this
      have d : ev1 n i = lc n u (R.map (·.drop n)) := by
        have := congrArg (List.drop n) u2
        rwa [List.drop_left' hml, lc_drop] at this
      rw [hm, Option.map_some, idM_get hi, d, tk]
    · rw [List.getElem?_eq_none (by omega), List.getElem?_eq_none (by simp; omega)]; rfl
theorem invA_no {n : Nat} {M : Mt} (h : RowsN n M) (hn : M.length = n) (hr : rankA n M ≠ n) : invA M = ([], false) := by
  have := invA_rank h hn
  have := (rankA_le h).1
  unfold invA
  rw [hn, if_pos (by omega)]
/-- The inverse comes back. -/
theorem invA_back {n : Nat} {M B : Mt} (h : RowsN n M) (hn : M.length = n) (hB : RowsN n B) (hl : B.length = n) (h1 : mtT n B M = idM n) (h2 : mtT n M B = idM n) : rankA n B = n ∧ invA B = (M, true) := by
  have hr : rankA n B = n := by
    refine Nat.le_antisymm (rankA_le hB).1 ?_
    have := le_rank hB (ind_id n) fun r hr => by
      rw [← h2] at hr
      obtain ⟨a, ha, rfl⟩ := List.mem_map.1 hr
      exact Sp.lc hB fun t ht => Sp.mem hB ht
    simpa using this
  obtain ⟨X, e, hX, hXl, x1, x2⟩ := invA_ok hB hl hr
  have : X = M := by
    have a := mtT_assoc (n := n) (m := n) (A := X) (B := B) h hB
    rw [x1, h1, mtT_id hX, id_mtT h hn] at a
    exact a.symm
  rw [this] at e
  exact ⟨hr, e⟩
end Go.Proofs.Ytcgafaecdjbmiaa
