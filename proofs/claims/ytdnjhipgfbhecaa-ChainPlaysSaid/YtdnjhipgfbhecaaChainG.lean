/- chain.Chain grows in time. -/
import Derived.Test.YtdnjhipgfbhecaaChainM
namespace Go.Proofs.Ytdnjhipgfbhecaa
open Go Go.YtdnjhipgfbhecaaAbs
set_option linter.unusedSimpArgs false
set_option linter.unusedVariables false
set_option maxRecDepth 4000

structure ChG (c : Ch) : Prop where
  o : c.old.length ≠ 0 → c.now.length = 2 * c.old.length ∧ c.len ≤ 2 * c.old.length + 1 + c.moved
  e : c.old.length = 0 → c.len ≤ 2 * c.now.length ∨ 4096 ≤ c.now.length
theorem ChG.new : ChG .new := ⟨fun h => absurd rfl h, fun _ => .inl (Nat.zero_le _)⟩
theorem grow_len (c : Ch) : c.grow.len = c.len := by unfold Ch.grow; split <;> rfl
theorem step_len (c : Ch) : c.step.len = c.len := by
  unfold Ch.step
  split
  · rfl
  · split <;> rfl
theorem put_len (c : Ch) (key : ByteArray) (n : Int) : (c.put key n).2.len = if (c.put key n).1 = true then c.len + 1 else c.len := by
  unfold Ch.put Ch.put1
  rw [← step_len c]
  generalize c.step = c
  split
  · simp [(setRow_len c _ _).2.2.2]
  · simp [grow_len, Ch.add]
theorem ChG.step {N : Nat} {c : Ch} (I : ChI N c) (G : ChG c) : (c.step.old.length ≠ 0 → c.step.now.length = 2 * c.step.old.length ∧ c.step.len ≤ 2 * c.step.old.length + c.step.moved) ∧
    (c.step.old.length = 0 → c.step.len ≤ 2 * c.step.now.length ∨ 4096 ≤ c.step.now.length) := by
  unfold Ch.step
  by_cases h0 : c.old.length = 0
  · rw [if_pos h0]
    exact ⟨fun q => absurd h0 q, G.e⟩
  · rw [if_neg h0]
    have hm := I.mv h0
    obtain ⟨g1, g2⟩ := G.o h0
    by_cases h1 : c.moved + 1 = c.old.length
    · rw [if_pos h1]
      refine ⟨fun q => absurd rfl q, fun _ => ?_⟩
      simp only [moves_len]
      omega
    · rw [if_neg h1]
      refine ⟨fun q => ?_, fun q => ?_⟩
      · simp only [moves_len, List.length_set]
        omega
      · simp only [List.length_set] at q
        omega
theorem ChG.put {N : Nat} {c : Ch} (I : ChI N c) (G : ChG c) (key : ByteArray) (n : Int) : ChG (c.put key n).2 := by
  obtain ⟨s1, s2⟩ := G.step I
  have n0 := I.step.n0
  unfold Ch.put Ch.put1
  generalize c.step = c at *
  split
  · rename_i i hi
    have q := setRow_len c (c.sel key) ((c.row (c.sel key)).set i (key, n))
    refine ⟨fun z => ?_, fun z => ?_⟩
    · simp only at z ⊢
      rw [q.2.1] at z
      rw [q.1, q.2.1, q.2.2.1, q.2.2.2]
      have := s1 z
      omega
    · simp only at z ⊢
      rw [q.2.1] at z
      rw [q.1, q.2.2.2]
      exact s2 z
  · have q := setRow_len c (c.sel key) (c.row (c.sel key) ++ [(key, n)])
    obtain ⟨d, hd⟩ : ∃ d, d = c.add key n := ⟨_, rfl⟩
    have d1 : d.now.length = c.now.length := by rw [hd]; exact q.1
    have d2 : d.old.length = c.old.length := by rw [hd]; exact q.2.1
    have d3 : d.moved = c.moved := by rw [hd]; exact q.2.2.1
    have d4 : d.len = c.len + 1 := by rw [hd]; rfl
    show ChG (c.add key n).grow
    rw [← hd]
    unfold Ch.grow
    split
    · rename_i g
      refine ⟨fun z => ?_, fun z => ?_⟩
      · show (List.replicate (2 * d.now.length) ([] : List Ent)).length = 2 * d.now.length ∧ d.len ≤ 2 * d.now.length + 1 + d.moved
        rw [List.length_replicate]
        have := s2 (by omega)
        omega
      · have z : d.now.length = 0 := z
        omega
    · rename_i g
      refine ⟨fun z => ?_, fun z => ?_⟩
      · have := s1 (by omega)
        omega
      · have := s2 (by omega)
        omega

/-! The keys that depotlaw6.ChainGrows puts. -/
def keyB (i : Nat) : ByteArray := ⟨⟨[UInt8.ofNat i, UInt8.ofNat (i / 256)]⟩⟩
def keyG (i : Nat) : ByteArray := ⟨⟨[107]⟩⟩ ++ keyB i
theorem keyG_size (i : Nat) : (keyG i).size = 3 := by
  unfold keyG
  rw [ByteArray.size_append]
  rfl
theorem keyG_inj {i j : Nat} (hi : i < 65536) (hj : j < 65536) (h : keyG i = keyG j) : i = j := by
  have h1 : (keyG i).data.toList = (keyG j).data.toList := by rw [h]
  simp [keyG, keyB] at h1
  have a := congrArg UInt8.toNat h1.1
  have b := congrArg UInt8.toNat h1.2
  simp at a b
  omega
/-- What is there after the first i. -/
def GotG (i : Nat) (c : Ch) : Prop := ∀ k : ByteArray, (∀ j, j < i → k = keyG j → c.get k = some (j : Int)) ∧ ((∀ j, j < i → k ≠ keyG j) → c.get k = none)
theorem GotG.put {i : Nat} {c : Ch} (hi : i < 65536) (G : GotG i c) {N : Nat} (I : ChI N c) (M : ChM c) : (c.put (keyG i) i).1 = true ∧ ChM (c.put (keyG i) i).2 ∧ GotG (i + 1) (c.put (keyG i) i).2 := by
  obtain ⟨p1, p2, p3⟩ := put_map I M (key := keyG i) (by rw [keyG_size]; omega) (i : Int)
  have n0 := (G (keyG i)).2 fun j hj q => by have := keyG_inj hi (by omega) q; omega
  refine ⟨by rw [p1, n0]; rfl, p2, fun k => ⟨fun j hj q => ?_, fun q => ?_⟩⟩
  · rw [p3]
    by_cases h : j = i
    · subst h; rw [if_pos q]
    · rw [if_neg (fun z => h (keyG_inj (by omega) hi (q.symm.trans z)))]
      exact (G k).1 j (by omega) q
  · rw [p3, if_neg (q i (by omega))]
    exact (G k).2 fun j hj => q j (by omega)
end Go.Proofs.Ytdnjhipgfbhecaa
