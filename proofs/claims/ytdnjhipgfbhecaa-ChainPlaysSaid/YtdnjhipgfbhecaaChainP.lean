/- chain.Chain in plain words: how large it is; it is a map. -/
import Derived.Test.YtdnjhipgfbhecaaChainE
namespace Go.Proofs.Ytdnjhipgfbhecaa
open Go Go.YtdnjhipgfbhecaaAbs
set_option linter.unusedSimpArgs false
set_option linter.unusedVariables false
set_option maxRecDepth 4000

def total (rows : List (List Ent)) : Nat := (rows.map List.length).sum
theorem total_set : ∀ (rows : List (List Ent)) (j : Nat) (L L' : List Ent), rows[j]? = some L → total (rows.set j L') + L.length = total rows + L'.length
  | [], j, L, L', h => by simp at h
  | x :: rows, 0, L, L', h => by
    simp at h; subst h
    simp [total]; omega
  | x :: rows, j + 1, L, L', h => by
    have := total_set rows j L L' (by simpa using h)
    simp [total] at this ⊢
    omega
theorem total_le : ∀ (rows : List (List Ent)) (L : List Ent), L ∈ rows → L.length ≤ total rows
  | x :: rows, L, h => by
    rcases List.mem_cons.1 h with rfl | h
    · simp [total]
    · have := total_le rows L h
      simp [total] at this ⊢
      omega
theorem total_rep (n : Nat) : total (List.replicate n []) = 0 := by
  induction n with
  | zero => rfl
  | succ n ih => rw [List.replicate_succ]; simp [total] at ih ⊢
theorem total_zero : ∀ (rows : List (List Ent)), (∀ L, L ∈ rows → L = []) → total rows = 0
  | [], h => rfl
  | x :: rows, h => by
    have := total_zero rows (fun L hL => h L (by simp [hL]))
    have hx := h x (by simp)
    subst hx
    simp [total] at this ⊢
    exact this
theorem move1_total {now : List (List Ent)} (h : 0 < now.length) (e : Ent) : total (move1 now e) = total now + 1 := by
  have hj := Nat.mod_lt (hsh e.1) h
  obtain ⟨L, hL⟩ : ∃ L, now[hsh e.1 % now.length]? = some L := ⟨now[hsh e.1 % now.length], by simp [hj]⟩
  unfold move1
  rw [hL, Option.getD_some]
  have := total_set now _ L (L ++ [e]) hL
  rw [List.length_append, List.length_singleton] at this
  omega
theorem moves_total : ∀ (l : List Ent) {now : List (List Ent)}, 0 < now.length → total (l.foldl move1 now) = total now + l.length
  | [], now, h => rfl
  | e :: l, now, h => by
    rw [List.foldl_cons, moves_total l (by rw [move1_len]; exact h), move1_total h, List.length_cons]
    omega

/-- How large a table is. -/
structure ChI (N : Nat) (c : Ch) : Prop where
  n0 : 0 < c.now.length
  n1 : c.now.length ≤ 8192
  o1 : c.old.length ≤ 8192
  m0 : c.old.length = 0 → c.moved = 0
  mv : c.old.length ≠ 0 → c.moved < c.old.length
  emp : ∀ i L, i < c.moved → c.old[i]? = some L → L = []
  tot : total c.now + total c.old = c.len
  len : c.len ≤ N
  keys : ∀ L, L ∈ c.now ++ c.old → ∀ e : Ent, e ∈ L → e.1.size ≤ 1000
theorem ChI.ok {N : Nat} {c : Ch} (I : ChI N c) (hN : N ≤ 100000) : ChOk c := by
  have n1 := I.n1; have o1 := I.o1; have tot := I.tot; have len := I.len
  refine ⟨I.n0, by omega, by omega, I.mv, ?_, fun L hL => ?_, I.keys, by omega⟩
  · by_cases h : c.old.length = 0
    · have := I.m0 h; omega
    · have := I.mv h; omega
  · rcases List.mem_append.1 hL with h | h
    · have := total_le _ _ h; omega
    · have := total_le _ _ h; omega
theorem ChI.new (N : Nat) : ChI N .new := ⟨by decide, by decide, by decide, fun _ => rfl, fun h => absurd rfl h, fun i L hi _ => absurd hi (Nat.not_lt_zero i), rfl, Nat.zero_le _, fun L hL e he => by
  simp [Ch.new] at hL
  subst hL
  cases he⟩
theorem move1_keys {now : List (List Ent)} {e : Ent} {P : Ent → Prop} (he : P e) (h : ∀ L, L ∈ now → ∀ x : Ent, x ∈ L → P x) : ∀ L, L ∈ move1 now e → ∀ x : Ent, x ∈ L → P x := by
  intro L hL x hx
  unfold move1 at hL
  rcases List.mem_or_eq_of_mem_set hL with q | rfl
  · exact h L q x hx
  · rcases List.mem_append.1 hx with q | q
    · cases hq : now[hsh e.1 % now.length]? with
      | none => rw [hq] at q; cases q
      | some M => rw [hq] at q; exact h M (List.mem_of_getElem? hq) x q
    · rw [List.mem_singleton.1 q]; exact he
theorem moves_keys {P : Ent → Prop} : ∀ (l : List Ent) {now : List (List Ent)}, (∀ x : Ent, x ∈ l → P x) → (∀ L, L ∈ now → ∀ x : Ent, x ∈ L → P x) → ∀ L, L ∈ l.foldl move1 now → ∀ x : Ent, x ∈ L → P x
  | [], now, hl, h => h
  | e :: l, now, hl, h => moves_keys l (fun x hx => hl x (by simp [hx])) (move1_keys (hl e (by simp)) h)
theorem ChI.step {N : Nat} {c : Ch} (I : ChI N c) : ChI N c.step := by
  unfold Ch.step
  by_cases h0 : c.old.length = 0
  · rw [if_pos h0]; exact I
  · rw [if_neg h0]
    have hm := I.mv h0
    obtain ⟨l, hl⟩ : ∃ l, c.old[c.moved]? = some l := ⟨c.old[c.moved], by simp [hm]⟩
    rw [hl, Option.getD_some]
    have tot := I.tot
    have t1 := moves_total l I.n0
    have t2 := total_set c.old c.moved l [] hl
    have kl : ∀ x : Ent, x ∈ l → x.1.size ≤ 1000 := I.keys l (List.mem_append.2 (.inr (List.mem_of_getElem? hl)))
    have kn := moves_keys (P := fun x => x.1.size ≤ 1000) l kl (fun L hL => I.keys L (List.mem_append.2 (.inl hL)))
    simp at t2
    by_cases h1 : c.moved + 1 = c.old.length
    · rw [if_pos h1]
      have z : total (c.old.set c.moved []) = 0 := total_zero _ fun L hL => by
        obtain ⟨i, hi⟩ := List.getElem?_of_mem hL
        by_cases him : i = c.moved
        · subst him
          rw [List.getElem?_set_self hm] at hi
          cases hi; rfl
        · rw [List.getElem?_set_ne (Ne.symm him)] at hi
          have := (List.getElem?_eq_some_iff.1 hi).1
          exact I.emp i L (by omega) hi
      refine ⟨by simp only [moves_len]; exact I.n0, by simp only [moves_len]; exact I.n1, Nat.zero_le _, fun _ => rfl, fun q => absurd rfl q, fun i L hi _ => absurd hi (Nat.not_lt_zero i), ?_, I.len, fun L hL => kn L (by simpa using hL)⟩
      have : total ([] : List (List Ent)) = 0 := rfl
      simp only
      omega
    · rw [if_neg h1]
      refine ⟨by simp only [moves_len]; exact I.n0, by simp only [moves_len]; exact I.n1, by simp only [List.length_set]; exact I.o1, fun q => absurd (by simpa using q) h0, fun _ => by simp only [List.length_set]; omega, fun i L hi hL => ?_, by simp only; omega, I.len, fun L hL => ?_⟩
      · by_cases him : i = c.moved
        · subst him
          rw [List.getElem?_set_self hm] at hL
          cases hL; rfl
        · rw [List.getElem?_set_ne (Ne.symm him)] at hL
          have hi : i < c.moved + 1 := hi
          exact I.emp i L (by omega) hL
      rcases List.mem_append.1 hL with q | q
      · exact kn L q
      · rcases List.mem_or_eq_of_mem_set q with q | rfl
        · exact I.keys L (List.mem_append.2 (.inr q))
        · intro e he; cases he

/-! Rows that are set. -/
theorem rows_set (c : Ch) (s : Bool × Nat) (L : List Ent) (t : Bool) : (c.setRow s L).rows t = if t = s.1 then (c.rows t).set s.2 L else c.rows t := by
  obtain ⟨s1, s2⟩ := s
  unfold Ch.setRow Ch.rows
  cases s1 <;> cases t <;> simp
theorem mem_rows {c : Ch} {L : List Ent} : L ∈ c.now ++ c.old ↔ ∃ (s : Bool) (i : Nat), (c.rows s)[i]? = some L := by
  rw [List.mem_append]
  constructor
  · rintro (h | h)
    · obtain ⟨i, hi⟩ := List.getElem?_of_mem h
      exact ⟨false, i, hi⟩
    · obtain ⟨i, hi⟩ := List.getElem?_of_mem h
      exact ⟨true, i, hi⟩
  · rintro ⟨s, i, hi⟩
    cases s
    · exact .inl (List.mem_of_getElem? hi)
    · exact .inr (List.mem_of_getElem? hi)
theorem total_setRow {c : Ch} {s : Bool × Nat} {L L' : List Ent} (h : (c.rows s.1)[s.2]? = some L) : total (c.setRow s L').now + total (c.setRow s L').old + L.length = total c.now + total c.old + L'.length := by
  obtain ⟨s1, s2⟩ := s
  unfold Ch.setRow
  cases s1
  · have := total_set c.now s2 L L' h
    simp only [if_false, Bool.false_eq_true]
    omega
  · have := total_set c.old s2 L L' h
    simp only [if_true]
    omega
/-- A row of a key is set. -/
theorem ChI.setRow {N M : Nat} {c : Ch} (I : ChI N c) (key : ByteArray) {L' : List Ent} (hk : ∀ e : Ent, e ∈ L' → e.1.size ≤ 1000) {m : Nat} (hm : m + (c.row (c.sel key)).length = c.len + L'.length) (hM : m ≤ M) :
    ChI M { c.setRow (c.sel key) L' with len := m } := by
  have hrow := pos_row c key I.n0
  have q := setRow_len c (c.sel key) L'
  have t := total_setRow (L' := L') hrow
  have tot := I.tot
  refine ⟨by simp only; rw [q.1]; exact I.n0, by simp only; rw [q.1]; exact I.n1, by simp only; rw [q.2.1]; exact I.o1, fun h => by simp only at h ⊢; rw [q.2.2.1]; exact I.m0 (by rw [← q.2.1]; exact h),
    fun h => by simp only at h ⊢; rw [q.2.2.1, q.2.1]; exact I.mv (by rw [← q.2.1]; exact h), fun i L hi hL => ?_, by simp only; omega, hM, fun L hL e he => ?_⟩
  · simp only at hi hL
    rw [q.2.2.1] at hi
    have hs := rows_set c (c.sel key) L' true
    have hL : ((c.setRow (c.sel key) L').rows true)[i]? = some L := hL
    rw [hs] at hL
    have : ¬ (true = (c.sel key).1 ∧ i = (c.sel key).2) := fun z => by
      have hz := z.1
      have hi2 := z.2
      unfold Ch.sel at hz hi2
      split at hz
      · rename_i w
        rw [if_pos w] at hi2
        have := w.2
        omega
      · cases hz
    split at hL
    · rename_i h1
      rw [List.getElem?_set_ne (fun z => this ⟨h1, z.symm⟩)] at hL
      exact I.emp i L hi hL
    · exact I.emp i L hi hL
  · obtain ⟨s, i, hi⟩ := mem_rows.1 hL
    have hi : ((c.setRow (c.sel key) L').rows s)[i]? = some L := hi
    rw [rows_set] at hi
    by_cases h1 : s = (c.sel key).1
    · rw [if_pos h1] at hi
      by_cases hj : (c.sel key).2 = i
      · subst hj
        rw [h1, List.getElem?_set_self (sel_lt I.n0 key)] at hi
        cases hi
        exact hk e he
      · rw [List.getElem?_set_ne hj] at hi
        exact I.keys L (mem_rows.2 ⟨s, i, hi⟩) e he
    · rw [if_neg h1] at hi
      exact I.keys L (mem_rows.2 ⟨s, i, hi⟩) e he
theorem row_keys {N : Nat} {c : Ch} (I : ChI N c) (key : ByteArray) : ∀ e : Ent, e ∈ c.row (c.sel key) → e.1.size ≤ 1000 := I.keys _ (mem_rows.2 ⟨_, _, pos_row c key I.n0⟩)
theorem ChI.mono {N M : Nat} {c : Ch} (I : ChI N c) (h : N ≤ M) : ChI M c := ⟨I.n0, I.n1, I.o1, I.m0, I.mv, I.emp, I.tot, Nat.le_trans I.len h, I.keys⟩
theorem ChI.grow {N : Nat} {c : Ch} (I : ChI N c) : ChI N c.grow := by
  unfold Ch.grow
  split
  · rename_i h
    have n0 := I.n0
    have tot := I.tot
    have z : total c.old = 0 := by
      have : c.old = [] := List.eq_nil_of_length_eq_zero h.1
      rw [this]; rfl
    refine ⟨by simp; omega, by simp; omega, I.n1, fun q => I.m0 h.1, fun _ => ?_, fun i L hi _ => ?_, by simp only [total_rep]; omega, I.len, fun L hL e he => ?_⟩
    · have := I.m0 h.1
      simp only
      omega
    · have := I.m0 h.1
      simp only at hi
      omega
    · rcases List.mem_append.1 hL with q | q
      · have := List.eq_of_mem_replicate q
        subst this
        cases he
      · exact I.keys L (List.mem_append.2 (.inl q)) e he
  · exact I
theorem ChI.put {N : Nat} {c : Ch} (I : ChI N c) {key : ByteArray} (hk : key.size ≤ 1000) (n : Int) : ChI (N + 1) (c.put key n).2 := by
  have I1 := I.step
  unfold Ch.put
  generalize c.step = c1 at I1
  unfold Ch.put1
  have rk := row_keys I1 key
  have tot := I1.len
  split
  · rename_i i hf
    have z : ChI (N + 1) { c1.setRow (c1.sel key) ((c1.row (c1.sel key)).set i (key, n)) with len := c1.len } := ChI.setRow I1 key (L' := (c1.row (c1.sel key)).set i (key, n)) (m := c1.len) (M := N + 1) (fun e he => by
      rcases List.mem_or_eq_of_mem_set he with q | rfl
      · exact rk e q
      · exact hk) (by rw [List.length_set]) (by omega)
    have e := (setRow_len c1 (c1.sel key) ((c1.row (c1.sel key)).set i (key, n))).2.2.2
    have : ({ c1.setRow (c1.sel key) ((c1.row (c1.sel key)).set i (key, n)) with len := c1.len } : Ch) = c1.setRow (c1.sel key) ((c1.row (c1.sel key)).set i (key, n)) := by
      rw [← e]
    rw [this] at z
    exact z
  · refine ChI.grow ?_
    refine ChI.setRow I1 key (L' := c1.row (c1.sel key) ++ [(key, n)]) (m := c1.len + 1) (fun e he => ?_) (by rw [List.length_append, List.length_singleton]; omega) (by omega)
    rcases List.mem_append.1 he with q | q
    · exact rk e q
    · rw [List.mem_singleton.1 q]; exact hk
theorem swapOut_mem {L : List Ent} {i : Nat} {e : Ent} (h : e ∈ swapOut L i) : e ∈ L := by
  unfold swapOut at h
  have h := List.mem_of_mem_take h
  rcases List.mem_or_eq_of_mem_set h with q | rfl
  · exact q
  · cases hq : L[L.length - 1]? with
    | none =>
      have := List.getElem?_eq_none_iff.1 hq
      have : L = [] := List.eq_nil_of_length_eq_zero (by omega)
      subst this
      simp at h
    | some x => exact List.mem_of_getElem? hq
theorem found_pos {N : Nat} {c : Ch} (I : ChI N c) {key : ByteArray} {i : Nat} (hf : findE key (c.row (c.sel key)) = some i) : i < (c.row (c.sel key)).length ∧ 0 < c.len := by
  obtain ⟨e, he, _⟩ := findE_lt hf
  have h1 := (List.getElem?_eq_some_iff.1 he).1
  have h2 := total_setRow (L' := []) (pos_row c key I.n0)
  have tot := I.tot
  simp at h2
  exact ⟨h1, by omega⟩
theorem ChI.drop {N : Nat} {c : Ch} (I : ChI N c) (key : ByteArray) : ChI N (c.drop key).2 := by
  have I1 := I.step
  unfold Ch.drop
  generalize c.step = c1 at I1
  unfold Ch.drop1
  have rk := row_keys I1 key
  have tot := I1.len
  split
  · rename_i i hf
    obtain ⟨h1, h2⟩ := found_pos I1 hf
    exact ChI.setRow I1 key (L' := swapOut (c1.row (c1.sel key)) i) (m := c1.len - 1) (fun e he => rk e (swapOut_mem he)) (by rw [swapOut_len h1]; omega) (by omega)
  · exact I1
end Go.Proofs.Ytdnjhipgfbhecaa
