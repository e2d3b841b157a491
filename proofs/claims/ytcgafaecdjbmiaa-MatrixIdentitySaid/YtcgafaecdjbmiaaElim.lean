/- Elimination over the field of 256: what it does to rows; rank, inverse. -/
import Derived.Test.YtcgafaecdjbmiaaLin
namespace Go.Proofs.Ytcgafaecdjbmiaa
set_option linter.unusedSimpArgs false
set_option linter.unusedVariables false

def rowA (A : Mt) (i : Nat) : Vc := (A[i]?).getD []
def atA (A : Mt) (i j : Nat) : UInt8 := (rowA A i)[j]?.getD 0
def findP (A : Mt) (c : Nat) : Nat → Nat → Option Nat
  | 0, _ => none
  | f + 1, i => if atA A i c ≠ 0 then some i else findP A c f (i + 1)
def swpA (A : Mt) (i j : Nat) : Mt := (A.set i (rowA A j)).set j (rowA A i)
def scaleA (A : Mt) (r c : Nat) : Mt := A.set r (smul (gi (atA A r c)) (rowA A r))
def clrR (A : Mt) (r c i : Nat) : Vc := if i = r then rowA A r else addL (rowA A i) (smul (atA A i c) (rowA A r))
def clrA (A : Mt) (r c : Nat) : Mt := (List.range A.length).map (clrR A r c)
def stepA (s : Mt × Nat) (c : Nat) : Mt × Nat := match findP s.1 c (s.1.length - s.2) s.2 with
  | none => s
  | some p => (clrA (scaleA (swpA s.1 s.2 p) s.2 c) s.2 c, s.2 + 1)
def redA (A : Mt) (n : Nat) : Mt × Nat := (List.range n).foldl stepA (A, 0)

theorem rowA_get {A : Mt} {i : Nat} {r : Vc} (h : A[i]? = some r) : rowA A i = r := by unfold rowA; rw [h]; rfl
theorem rowA_mem {A : Mt} {i : Nat} (h : i < A.length) : A[i]? = some (rowA A i) ∧ rowA A i ∈ A := by
  obtain ⟨r, hr⟩ : ∃ r, A[i]? = some r := ⟨A[i], by simp⟩
  rw [rowA_get hr]
  exact ⟨hr, List.mem_of_getElem? hr⟩
theorem rowA_set {A : Mt} {i j : Nat} {v : Vc} (h : i < A.length) : rowA (A.set i v) j = if i = j then v else rowA A j := by
  unfold rowA
  by_cases q : i = j
  · subst q; rw [if_pos rfl, List.getElem?_set_self h]; rfl
  · rw [if_neg q, List.getElem?_set_ne q]
theorem findP_some {A : Mt} {c p : Nat} : ∀ {f i : Nat}, findP A c f i = some p → i ≤ p ∧ p < i + f ∧ atA A p c ≠ 0
  | 0, i, h => by cases h
  | f + 1, i, h => by
    simp only [findP] at h
    split at h
    · rename_i q; cases h; exact ⟨Nat.le_refl _, by omega, q⟩
    · obtain ⟨a, b, d⟩ := findP_some h; exact ⟨by omega, by omega, d⟩
theorem findP_none {A : Mt} {c : Nat} : ∀ {f i : Nat}, findP A c f i = none → ∀ j, i ≤ j → j < i + f → atA A j c = 0
  | 0, i, h, j, h1, h2 => by omega
  | f + 1, i, h, j, h1, h2 => by
    simp only [findP] at h
    split at h
    · cases h
    · rename_i q
      by_cases hj : j = i
      · subst hj; exact Classical.byContradiction q
      · exact findP_none h j (by omega) (by omega)
@[simp] theorem swpA_len (A : Mt) (i j : Nat) : (swpA A i j).length = A.length := by simp [swpA]
@[simp] theorem scaleA_len (A : Mt) (r c : Nat) : (scaleA A r c).length = A.length := by simp [scaleA]
@[simp] theorem clrA_len (A : Mt) (r c : Nat) : (clrA A r c).length = A.length := by simp [clrA]
theorem swpA_row {A : Mt} {i j k : Nat} (hi : i < A.length) (hj : j < A.length) : rowA (swpA A i j) k = if k = j then rowA A i else if k = i then rowA A j else rowA A k := by
  unfold swpA
  rw [rowA_set (by rw [List.length_set]; exact hj), rowA_set hi]
  by_cases h1 : j = k
  · rw [if_pos h1, if_pos h1.symm]
  · rw [if_neg h1, if_neg (Ne.symm h1)]
    by_cases h2 : i = k
    · rw [if_pos h2, if_pos h2.symm]
    · rw [if_neg h2, if_neg (Ne.symm h2)]
theorem clrA_row {A : Mt} {r c k : Nat} (hk : k < A.length) : rowA (clrA A r c) k = clrR A r c k := by
  unfold clrA rowA
  rw [List.getElem?_map, List.getElem?_range hk]; rfl
theorem rows_mem {n : Nat} {A : Mt} (h : ∀ k, k < A.length → (rowA A k).length = n) : RowsN n A := fun r hr => by
  obtain ⟨k, hk⟩ := List.getElem?_of_mem hr
  rw [← rowA_get hk]
  exact h k (List.getElem?_eq_some_iff.1 hk).1
theorem RowsN.row {n : Nat} {A : Mt} (h : RowsN n A) {k : Nat} (hk : k < A.length) : (rowA A k).length = n := h _ (rowA_mem hk).2
/-- Rows that span the same. -/
structure Eqv (n : Nat) (A B : Mt) : Prop where
  ra : RowsN n A
  rb : RowsN n B
  ab : ∀ r, r ∈ B → Sp n A r
  ba : ∀ r, r ∈ A → Sp n B r
theorem Eqv.refl {n : Nat} {A : Mt} (h : RowsN n A) : Eqv n A A := ⟨h, h, fun _ hr => Sp.mem h hr, fun _ hr => Sp.mem h hr⟩
theorem Eqv.trans {n : Nat} {A B C : Mt} (e : Eqv n A B) (f : Eqv n B C) : Eqv n A C := ⟨e.ra, f.rb, fun r hr => Sp.trans e.ra e.ab (f.ab r hr), fun r hr => Sp.trans f.rb f.ba (e.ba r hr)⟩
theorem Eqv.of {n : Nat} {A B : Mt} (hA : RowsN n A) (hB : RowsN n B) (h1 : ∀ k, k < B.length → Sp n A (rowA B k)) (h2 : ∀ k, k < A.length → Sp n B (rowA A k)) : Eqv n A B :=
  ⟨hA, hB, fun r hr => by
    obtain ⟨k, hk⟩ := List.getElem?_of_mem hr
    rw [← rowA_get hk]
    exact h1 k (List.getElem?_eq_some_iff.1 hk).1, fun r hr => by
    obtain ⟨k, hk⟩ := List.getElem?_of_mem hr
    rw [← rowA_get hk]
    exact h2 k (List.getElem?_eq_some_iff.1 hk).1⟩
section
variable {n : Nat} {A : Mt}
theorem swpA_rows (h : RowsN n A) {i j : Nat} (hi : i < A.length) (hj : j < A.length) : RowsN n (swpA A i j) := rows_mem fun k hk => by
  rw [swpA_len] at hk
  rw [swpA_row hi hj]
  split
  · exact h.row hi
  · split
    · exact h.row hj
    · exact h.row hk
theorem scaleA_row {r c k : Nat} (hr : r < A.length) : rowA (scaleA A r c) k = if r = k then smul (gi (atA A r c)) (rowA A r) else rowA A k := rowA_set hr
theorem scaleA_rows (h : RowsN n A) {r c : Nat} (hr : r < A.length) : RowsN n (scaleA A r c) := rows_mem fun k hk => by
  rw [scaleA_len] at hk
  rw [scaleA_row hr]
  split
  · rw [smul_len]; exact h.row hr
  · exact h.row hk
theorem clrA_rows (h : RowsN n A) {r c : Nat} (hr : r < A.length) : RowsN n (clrA A r c) := rows_mem fun k hk => by
  rw [clrA_len] at hk
  rw [clrA_row hk]
  unfold clrR
  split
  · exact h.row hr
  · rw [addL_len (by rw [smul_len, h.row hk, h.row hr])]; exact h.row hk
theorem swpA_eqv (h : RowsN n A) {i j : Nat} (hi : i < A.length) (hj : j < A.length) : Eqv n A (swpA A i j) := by
  have hB := swpA_rows h hi hj
  refine Eqv.of h hB (fun k hk => ?_) fun k hk => ?_
  · rw [swpA_len] at hk
    rw [swpA_row hi hj]
    split
    · exact Sp.mem h (rowA_mem hi).2
    · split
      · exact Sp.mem h (rowA_mem hj).2
      · exact Sp.mem h (rowA_mem hk).2
  · have hm : ∀ l, l < A.length → Sp n (swpA A i j) (rowA (swpA A i j) l) := fun l hl => Sp.mem hB (rowA_mem (by rw [swpA_len]; exact hl)).2
    by_cases h1 : k = i
    · have := hm j hj
      rw [swpA_row hi hj, if_pos rfl] at this
      rw [h1]; exact this
    · by_cases h2 : k = j
      · have := hm i hi
        rw [swpA_row hi hj] at this
        split at this
        · rename_i q
          have e : rowA A k = rowA A i := by rw [h2, q]
          rw [e]; exact this
        · rw [if_pos rfl] at this; rw [h2]; exact this
      · have := hm k hk
        rw [swpA_row hi hj, if_neg h2, if_neg h1] at this
        exact this
theorem scaleA_eqv (h : RowsN n A) {r c : Nat} (hr : r < A.length) (hx : atA A r c ≠ 0) : Eqv n A (scaleA A r c) := by
  have hB := scaleA_rows h (c := c) hr
  refine Eqv.of h hB (fun k hk => ?_) fun k hk => ?_
  · rw [scaleA_len] at hk
    rw [scaleA_row hr]
    split
    · exact Sp.smul h _ (Sp.mem h (rowA_mem hr).2)
    · exact Sp.mem h (rowA_mem hk).2
  · have hm := Sp.mem hB (rowA_mem (i := k) (by rw [scaleA_len]; exact hk)).2
    rw [scaleA_row hr] at hm
    split at hm
    · rename_i q
      subst q
      have := Sp.smul hB (atA A r c) hm
      rw [smul_smul, gm_gi hx, smul_one] at this
      exact this
    · exact hm
theorem clrA_eqv (h : RowsN n A) {r c : Nat} (hr : r < A.length) : Eqv n A (clrA A r c) := by
  have hB := clrA_rows h (c := c) hr
  have hp : Sp n (clrA A r c) (rowA A r) := by
    have := Sp.mem hB (rowA_mem (i := r) (by rw [clrA_len]; exact hr)).2
    rw [clrA_row hr] at this
    unfold clrR at this
    rwa [if_pos rfl] at this
  refine Eqv.of h hB (fun k hk => ?_) fun k hk => ?_
  · rw [clrA_len] at hk
    rw [clrA_row hk]
    unfold clrR
    split
    · exact Sp.mem h (rowA_mem hr).2
    · exact Sp.add h (Sp.mem h (rowA_mem hk).2) (Sp.smul h _ (Sp.mem h (rowA_mem hr).2))
  · by_cases q : k = r
    · rw [q]; exact hp
    · have hm := Sp.mem hB (rowA_mem (i := k) (by rw [clrA_len]; exact hk)).2
      rw [clrA_row hk] at hm
      unfold clrR at hm
      rw [if_neg q] at hm
      have := Sp.add hB hm (Sp.smul hB (atA A k c) hp)
      rwa [addL_cancel (by rw [smul_len, h.row hk, h.row hr])] at this
end
/-- What has been cleared: the pivots' columns. -/
structure Pv (A : Mt) (ps : List Nat) (c : Nat) : Prop where
  sub : ps.Sublist (List.range c)
  le : ps.length ≤ A.length
  one : ∀ j p, ps[j]? = some p → ∀ i, i < A.length → atA A i p = if i = j then 1 else 0
  zero : ∀ i col, ps.length ≤ i → i < A.length → col < c → atA A i col = 0
theorem stepA_ok {n : Nat} {A : Mt} (h : RowsN n A) {ps : List Nat} {c : Nat} (P : Pv A ps c) :
    ∃ ps', Pv (stepA (A, ps.length) c).1 ps' (c + 1) ∧ ps'.length = (stepA (A, ps.length) c).2 ∧ Eqv n A (stepA (A, ps.length) c).1 ∧ (stepA (A, ps.length) c).1.length = A.length := by
  unfold stepA
  simp only
  cases hf : findP A c (A.length - ps.length) ps.length with
  | none =>
    dsimp only
    refine ⟨ps, ⟨P.sub.trans ?_, P.le, P.one, fun i col h1 h2 h3 => ?_⟩, rfl, Eqv.refl h, rfl⟩
    · rw [List.range_succ]; exact List.sublist_append_left _ _
    · by_cases hc : col = c
      · subst hc; exact findP_none hf i h1 (by omega)
      · exact P.zero i col h1 h2 (by omega)
  | some p =>
    dsimp only
    obtain ⟨p1, p2, p3⟩ := findP_some hf
    have hle := P.le
    have hp : p < A.length := by omega
    have hr : ps.length < A.length := by omega
    have hlt : ∀ q, q ∈ ps → q < c := fun q hq => List.mem_range.1 (P.sub.subset hq)
    generalize hR : ps.length = r at *
    have hB := swpA_rows h hr hp
    obtain ⟨B, eB⟩ : ∃ B, swpA A r p = B := ⟨_, rfl⟩
    have lB : B.length = A.length := by rw [← eB]; simp
    have rB : ∀ k, rowA B k = if k = p then rowA A r else if k = r then rowA A p else rowA A k := fun k => by rw [← eB]; exact swpA_row hr hp
    have e1 := swpA_eqv h hr hp
    rw [eB] at hB e1 ⊢
    have xB : atA B r c ≠ 0 := by
      unfold atA
      rw [rB]
      split
      · rename_i q; rw [q]; exact p3
      · rw [if_pos rfl]; exact p3
    have hC := scaleA_rows hB (c := c) (r := r) (by omega)
    have e2 := scaleA_eqv hB (c := c) (r := r) (by omega) xB
    obtain ⟨C, eC⟩ : ∃ C, scaleA B r c = C := ⟨_, rfl⟩
    have lC : C.length = A.length := by rw [← eC, scaleA_len, lB]
    have rC : ∀ k, rowA C k = if r = k then smul (gi (atA B r c)) (rowA B r) else rowA B k := fun k => by rw [← eC]; exact scaleA_row (by omega)
    rw [eC] at hC e2 ⊢
    have hD := clrA_rows hC (c := c) (r := r) (by omega)
    have e3 := clrA_eqv hC (c := c) (r := r) (by omega)
    -- entries
    have aB : ∀ k col, r ≤ k → k < A.length → col < c → atA B k col = 0 := fun k col h1 h2 h3 => by
      unfold atA
      rw [rB]
      split
      · exact P.zero r col (by omega) hr h3
      · split
        · exact P.zero p col (by omega) hp h3
        · exact P.zero k col (by omega) h2 h3
    have aB1 : ∀ k col, k < r → atA B k col = atA A k col := fun k col h1 => by
      unfold atA
      rw [rB, if_neg (by omega), if_neg (by omega)]
    have aCr : ∀ col, atA C r col = gm (gi (atA B r c)) (atA B r col) := fun col => by
      unfold atA
      rw [rC, if_pos rfl, smul_get]; rfl
    have aC : ∀ k col, k ≠ r → atA C k col = atA B k col := fun k col hk => by
      unfold atA
      rw [rC, if_neg (Ne.symm hk)]
    have aDr : ∀ col, atA (clrA C r c) r col = atA C r col := fun col => by
      unfold atA
      rw [clrA_row (by omega)]
      unfold clrR
      rw [if_pos rfl]
    have aD : ∀ k col, k < A.length → k ≠ r → atA (clrA C r c) k col = atA C k col ^^^ gm (atA C k c) (atA C r col) := fun k col h1 h2 => by
      have : atA (clrA C r c) k col = (addL (rowA C k) (smul (atA C k c) (rowA C r)))[col]?.getD 0 := by
        unfold atA
        rw [clrA_row (by omega)]
        unfold clrR
        rw [if_neg h2]
        rfl
      rw [this, addL_get _ _ _ (by rw [smul_len, hC.row (by omega), hC.row (by omega)]), smul_get]
      rfl
    have c1 : atA C r c = 1 := by rw [aCr, gm_comm, gm_gi xB]
    refine ⟨ps ++ [c], ⟨?_, ?_, fun j q hq i hi => ?_, fun i col h1 h2 h3 => ?_⟩, by rw [List.length_append, hR]; rfl, e1.trans (e2.trans e3), by rw [clrA_len, lC]⟩
    · rw [List.range_succ]; exact List.Sublist.append P.sub (List.Sublist.refl _)
    · rw [List.length_append, clrA_len, lC, hR]; simp; omega
    · rw [clrA_len, lC] at hi
      by_cases hj : j < r
      · rw [List.getElem?_append_left (by omega)] at hq
        have hqc := hlt q (List.mem_of_getElem? hq)
        have cr0 : atA C r q = 0 := by rw [aCr, aB r q (Nat.le_refl _) hr hqc, gm_zero]
        by_cases hir : i = r
        · subst hir
          rw [aDr, cr0, if_neg (by omega)]
        · rw [aD i q hi hir, cr0, gm_zero, UInt8.xor_zero, aC i q hir]
          by_cases hlt' : i < r
          · rw [aB1 i q hlt', P.one j q hq i hi]
          · rw [aB i q (by omega) hi hqc, if_neg (by omega)]
      · have hjr : j = r := by
          have := (List.getElem?_eq_some_iff.1 hq).1
          rw [List.length_append, hR] at this
          simp at this
          omega
        subst hjr
        rw [List.getElem?_append_right (by omega), hR, Nat.sub_self] at hq
        have hq : c = q := by simpa using hq
        subst hq
        by_cases hir : i = j
        · subst hir; rw [aDr, c1, if_pos rfl]
        · rw [aD i c hi hir, c1, gm_one, UInt8.xor_self, if_neg hir]
    · rw [List.length_append, hR] at h1
      simp at h1
      rw [clrA_len, lC] at h2
      rw [aD i col h2 (by omega)]
      by_cases hc : col = c
      · subst hc; rw [c1, gm_one, UInt8.xor_self]
      · rw [aC i col (by omega), aB i col (by omega) h2 (by omega), aCr, aB r col (Nat.le_refl _) hr (by omega), gm_zero, gm_zero]; rfl
theorem redA_ok {n : Nat} {A : Mt} (h : RowsN n A) : ∀ c : Nat, ∃ ps, Pv (redA A c).1 ps c ∧ ps.length = (redA A c).2 ∧ Eqv n A (redA A c).1 ∧ (redA A c).1.length = A.length
  | 0 => ⟨[], ⟨List.nil_sublist _, Nat.zero_le _, (fun j p hp => by cases hp), fun i col _ _ h => absurd h (Nat.not_lt_zero _)⟩, rfl, Eqv.refl h, rfl⟩
  | c + 1 => by
    obtain ⟨ps, P, l, E, hl⟩ := redA_ok h c
    have e : redA A (c + 1) = stepA (redA A c) c := by
      unfold redA
      rw [List.range_succ, List.foldl_append]; rfl
    have e2 : redA A c = ((redA A c).1, ps.length) := by rw [l]
    rw [e, e2]
    obtain ⟨ps', P', l', E', hl'⟩ := stepA_ok E.rb P
    exact ⟨ps', P', l', E.trans E', by rw [hl', hl]⟩
end Go.Proofs.Ytcgafaecdjbmiaa
