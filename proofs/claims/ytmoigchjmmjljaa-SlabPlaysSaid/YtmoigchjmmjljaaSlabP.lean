/- slab: which chunks are free and which are live, in plain words. -/
import Derived.Test.YtmoigchjmmjljaaSlabX
namespace Go.Proofs.Ytmoigchjmmjljaa
open Go Go.YtmoigchjmmjljaaAbs
set_option linter.unusedSimpArgs false
set_option linter.unusedVariables false
set_option maxRecDepth 4000

/-- Free and live chunks of a class that has all the pages. -/
structure FL (n p C left : Nat) (F ks : List Nat) : Prop where
  nd : (F ++ ks).Nodup
  lt : ∀ x, x ∈ F ++ ks → x < C
  len : F.length + ks.length = C
  pages : C + n * left = n * p
theorem fl_mem {n c j x : Nat} (hj : j ≤ n) (h : x ∈ fl n c j) : c ≤ x ∧ x < c + n := by
  unfold fl at h
  obtain ⟨t, ht, rfl⟩ := List.mem_map.1 h
  have := List.mem_range.1 ht
  omega
theorem fl_nodup (n c : Nat) : ∀ j, j ≤ n → (fl n c j).Nodup
  | 0, _ => by simp [fl]
  | j + 1, hj => by
    rw [fl_succ, List.nodup_append]
    refine ⟨fl_nodup n c j (by omega), by simp, fun x hx y hy q => ?_⟩
    rw [List.mem_singleton.1 hy] at q
    unfold fl at hx
    obtain ⟨t, ht, rfl⟩ := List.mem_map.1 hx
    have := List.mem_range.1 ht
    omega
theorem FL.pop {n p C left : Nat} {F ks : List Nat} (I : FL n p C left F ks) (hn : 1 ≤ n) (hk : ks.length < n * p) {F1 : List Nat} {C1 left1 : Nat} (e1 : F1 = if F = [] then fl n C n else F) (e2 : C1 = if F = [] then C + n else C) (e3 : left1 = if F = [] then left - 1 else left) :
    (F ≠ [] ∨ left ≠ 0) ∧ ∀ K, F1[F1.length - 1]? = some K → K ∉ ks ∧ FL n p C1 left1 (F1.take (F1.length - 1)) (ks ++ [K]) := by
  obtain ⟨nd, lt, len, pages⟩ := I
  have room : F ≠ [] ∨ left ≠ 0 := by
    by_cases hF : F = []
    · right
      intro h0
      subst hF
      subst h0
      simp at len pages
      omega
    · exact .inl hF
  refine ⟨room, ?_⟩
  have base : FL n p C1 left1 F1 ks := by
    by_cases hF : F = []
    · rw [if_pos hF] at e1 e2 e3
      have hl := room.resolve_left (fun q => q hF)
      subst hF e1 e2 e3
      simp only [List.nil_append, List.length_nil, Nat.zero_add] at nd lt len
      refine ⟨?_, fun x hx => ?_, by rw [fl_len]; omega, ?_⟩
      · rw [List.nodup_append]
        refine ⟨fl_nodup n C n (Nat.le_refl _), nd, fun x hx y hy q => ?_⟩
        have := (fl_mem (Nat.le_refl _) hx).1
        have := lt y hy
        omega
      · rcases List.mem_append.1 hx with h | h
        · exact (fl_mem (Nat.le_refl _) h).2
        · have := lt x h; omega
      · obtain ⟨l, rfl⟩ : ∃ l, left = l + 1 := ⟨left - 1, by omega⟩
        rw [Nat.mul_succ] at pages
        simp only [Nat.add_sub_cancel]
        omega
    · rw [if_neg hF] at e1 e2 e3
      subst e1 e2 e3
      exact ⟨nd, lt, len, pages⟩
  intro K hK
  obtain ⟨nd, lt, len, pages⟩ := base
  have h1 := (List.getElem?_eq_some_iff.1 hK).1
  have split : F1 = F1.take (F1.length - 1) ++ [K] := by
    have := List.take_append_drop (F1.length - 1) F1
    rw [List.drop_eq_getElem_cons h1, (List.getElem?_eq_some_iff.1 hK).2, List.drop_of_length_le (by omega)] at this
    exact this.symm
  have perm : (F1.take (F1.length - 1) ++ (ks ++ [K])).Perm (F1 ++ ks) := by
    conv => rhs; rw [split]
    rw [List.append_assoc]
    exact List.Perm.append_left _ List.perm_append_comm
  refine ⟨fun q => ?_, ⟨perm.nodup_iff.2 nd, fun x hx => lt x (perm.mem_iff.1 hx), ?_, pages⟩⟩
  · rw [List.nodup_append] at nd
    exact nd.2.2 K (List.mem_of_getElem? hK) K q rfl
  · rw [List.length_take, List.length_append, List.length_singleton]
    omega
theorem FL.give {n p C left K : Nat} {F ks : List Nat} (I : FL n p C left F (K :: ks)) : FL n p C left (F ++ [K]) ks := by
  have e : F ++ [K] ++ ks = F ++ K :: ks := by simp
  exact ⟨by rw [e]; exact I.nd, by rw [e]; exact I.lt, by have := I.len; simp at this ⊢; omega, I.pages⟩
theorem FL.full {n p C left : Nat} {F ks : List Nat} (I : FL n p C left F ks) (hn : 1 ≤ n) (hk : ks.length = n * p) : F = [] ∧ left = 0 := by
  have len := I.len
  have pages := I.pages
  constructor
  · exact List.eq_nil_of_length_eq_zero (by omega)
  · have : n * left = 0 := by omega
    rcases Nat.mul_eq_zero.1 this with h | h
    · omega
    · exact h
theorem FL.new (n p : Nat) : FL n p 0 p [] [] := ⟨List.nodup_nil, fun x hx => by simp at hx, rfl, by omega⟩
/-- A live chunk's entry. -/
theorem lk_none {K : Nat} : ∀ {L : List (Nat × ByteArray × Nat)}, K ∉ L.map (·.1) → lk K L = none
  | [], _ => rfl
  | x :: L, h => by
    simp at h
    simp only [lk]
    rw [if_neg (fun q => h.1 q.symm), lk_none (by simpa using h.2)]
    rfl
theorem lput_keys {K : Nat} {d : ByteArray} {L L' : List (Nat × ByteArray × Nat)} {cl cl' : Nat} (h : K ∉ L.map (·.1)) (e : (L', cl') = lput K d L cl) : L'.map (·.1) = L.map (·.1) ++ [K] := by
  unfold lput at e
  rw [lk_none h] at e
  simp only at e
  rw [(Prod.mk.inj e).1]
  simp
theorem lk_head {K : Nat} {ks : List Nat} {L : List (Nat × ByteArray × Nat)} (h : L.map (·.1) = K :: ks) : ∃ y, lk K L = some y ∧ y.1 = 0 ∧ (L.eraseIdx y.1).map (·.1) = ks := by
  cases L with
  | nil => simp at h
  | cons x L =>
    simp at h
    refine ⟨(0, x.2.1, x.2.2), ?_, rfl, by simpa using h.2⟩
    simp only [lk]
    rw [if_pos h.1]
end Go.Proofs.Ytmoigchjmmjljaa
