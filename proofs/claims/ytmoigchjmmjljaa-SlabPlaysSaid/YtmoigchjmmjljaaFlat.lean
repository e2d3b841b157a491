/- Rows of things of so many cells each, as arguments have them. -/
import Derived.Test.YtmoigchjmmjljaaFacts
import Derived.Test.YtmoigchjmmjljaaAbsO2
namespace Go.Proofs.Ytmoigchjmmjljaa
open Go Go.YtmoigchjmmjljaaAbs
set_option linter.unusedSimpArgs false
set_option linter.unusedVariables false

/-- A thing's cells are told by it alone. -/
structure Flat {α : Type} (K : Kind α) (f : α → List AV) : Prop where
  eq : ∀ (h : Heap) (cs : List AV) (x : α), cs.length ≤ K.sz → K.rd h cs x → cs = f x
  len : ∀ x, (f x).length = K.sz
theorem flat_int (k : IntKind) : Flat (kInt k) fun n => [.int k n] := ⟨fun _ _ _ _ r => r.1, fun _ => rfl⟩
theorem flat_str : Flat kStr fun s => [.str s] := ⟨fun _ _ _ _ r => r.1, fun _ => rfl⟩
theorem flat_bool : Flat kBool fun b => [.bool b] := ⟨fun _ _ _ _ r => r, fun _ => rfl⟩
theorem flat_nil : Flat kNil fun _ => [] := ⟨fun _ _ _ _ r => r, fun _ => rfl⟩
theorem flat_pair {α β : Type} {K : Kind α} {L : Kind β} {f : α → List AV} {g : β → List AV} (hK : Flat K f) (hL : Flat L g) : Flat (kPair K L) fun x => f x.1 ++ g x.2 := by
  refine ⟨fun h cs x hl r => ?_, fun x => by rw [List.length_append, hK.len, hL.len]; rfl⟩
  have hl : cs.length ≤ K.sz + L.sz := hl
  have r1 := hK.eq h _ _ (by rw [List.length_take]; omega) r.1
  have r2 := hL.eq h _ _ (by rw [List.length_drop]; omega) r.2
  rw [← List.take_append_drop K.sz cs, r1, r2]
theorem sla_flat {α : Type} {K : Kind α} {f : α → List AV} (F : Flat K f) (h0 : 0 < K.sz) {h : Heap} {v : AV} {xs : List α} (r : SlA K h v xs) : Sl K.sz xs.length h v (cat f xs) ∧ ∀ x, x ∈ xs → ∃ h cs, K.rd h cs x := by
  obtain ⟨c, c1, c2⟩ := r.sl
  obtain ⟨c3, c4⟩ := c2
  have key : ∀ j x, xs[j]? = some x → (c.drop (j * K.sz)).take K.sz = f x := fun j x hx => F.eq _ _ _ (by rw [List.length_take]; omega) (c4 j x hx)
  have hc : c = cat f xs := by
    refine List.ext_getElem? fun i => ?_
    by_cases hi : i < xs.length * K.sz
    · have hj : i / K.sz < xs.length := Nat.div_lt_of_lt_mul (by rw [Nat.mul_comm]; exact hi)
      have hx : xs[i / K.sz]? = some xs[i / K.sz] := by simp [hj]
      have e1 := key _ _ hx
      have e2 := cat_at F.len hx
      have e3 : i = i / K.sz * K.sz + i % K.sz := by have := Nat.div_add_mod i K.sz; rw [Nat.mul_comm] at this; omega
      have g : ∀ l : List AV, l[i]? = ((l.drop (i / K.sz * K.sz)).take K.sz)[i % K.sz]? := fun l => by
        rw [List.getElem?_take, if_pos (Nat.mod_lt _ h0), List.getElem?_drop, ← e3]
      rw [g c, g (cat f xs), e1, e2]
    · rw [List.getElem?_eq_none (by omega), List.getElem?_eq_none (by rw [cat_len F.len]; omega)]
  refine ⟨by rw [← hc]; exact c1, fun x hx => ?_⟩
  obtain ⟨j, hj⟩ := List.getElem?_of_mem hx
  exact ⟨_, _, c4 j x hj⟩
end Go.Proofs.Ytmoigchjmmjljaa
