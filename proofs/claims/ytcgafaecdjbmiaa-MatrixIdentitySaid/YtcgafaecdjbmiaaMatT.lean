/- matrix.Times. (under way) -/
import Derived.Test.YtcgafaecdjbmiaaMatC
namespace Go.Proofs.Ytcgafaecdjbmiaa
open Go Go.YtcgafaecdjbmiaaAbs
set_option linter.unusedSimpArgs false
set_option linter.unusedVariables false
set_option maxRecDepth 4000

def timesP (A B : Mt) : Mt × Bool := if rightM A = true ∧ rightM B = true ∧ (rowA A 0).length = B.length then (mtT (rowA B 0).length A B, true) else ([], false)
/-- A column so far. -/
theorem colM_at {B : Mt} {j l : Nat} (hl : l < B.length) : (colM B j)[l]? = some (atA B l j) := by
  unfold colM atA
  rw [List.getElem?_map, (rowA_mem hl).1]; rfl
theorem mtT_row {n : Nat} {A B : Mt} {i : Nat} (hi : i < A.length) : rowA (mtT n A B) i = lc n (rowA A i) B := by
  unfold mtT rowA
  rw [List.getElem?_map, (rowA_mem hi).1]; rfl
theorem mtT_at {n : Nat} {A B : Mt} (hB : RowsN n B) {i : Nat} (hi : i < A.length) (j : Nat) : atA (mtT n A B) i j = dot (rowA A i) (colM B j) := by
  have : atA (mtT n A B) i j = (rowA (mtT n A B) i)[j]?.getD 0 := rfl
  rw [this, mtT_row hi, lc_get j hB]
/-- New rows, and a new row beside them. -/
structure Two (h h' : Heap) (v : AV) (M : Mt) (c : AV) (L : Vc) : Prop where
  rows : ∃ rs, RowsO fb 1 h' v rs M ∧ Apart (v :: rs) ∧ ∀ d, d ∈ blks (v :: rs) → h.next ≤ d ∧ ¬ Has c d
  row : Mine 1 L.length h' c (L.map bb)
  new : ∀ d, Has c d → h.next ≤ d
  kb : Keep h.next nob h h'
section
variable {h h' h1 : Heap} {v c : AV} {M : Mt} {L : Vc}
theorem Two.nw (T : Two h h' v M c L) : Nw h h' v M := by
  obtain ⟨rs, R, A, f⟩ := T.rows
  exact ⟨rs, R, A, fun d hd => (f d hd).1, T.kb⟩
/-- The row beside is written. -/
theorem Two.col (T : Two h h' v M c L) {j : Nat} (hj : j < L.length) (x : UInt8) : ∃ h2, alay h' c.blk (c.off + j) [.int .u8 (x.toNat : Nat)] = some h2 ∧ Two h h2 v M c (L.set j x) := by
  obtain ⟨rs, R, A, f⟩ := T.rows
  obtain ⟨h2, a1, a2, a3, a4⟩ := T.row.lay1 (j := j) (x := .int .u8 (x.toNat : Nat)) hj rfl
  have e2 : (L.map bb).set j (.int .u8 (x.toNat : Nat)) = (L.set j x).map bb := by rw [List.map_set]; rfl
  rw [e2] at a2
  exact ⟨h2, a1, ⟨rs, R.keep a3 fun d hd => (f d hd).2, A, f⟩, by rw [List.length_set]; exact a2, T.new, T.kb.trans ⟨a3.1, fun d hd _ => a3.2 d (Nat.lt_of_lt_of_le hd T.kb.1) fun q => by have := T.new d q; omega⟩⟩
/-- A new row is put into its place. -/
theorem Two.set (T : Two h h' v M c L) {j : Nat} (hj : j < M.length) {r' : AV} {L' : Vc} (K1 : Keep h'.next nob h' h1) (Mr : Mine 1 L'.length h1 r' (L'.map bb)) (Fr : ∀ d, Has r' d → h'.next ≤ d) : ∃ h2, alay h1 v.blk (v.off + j) [r'] = some h2 ∧ Two h h2 v (M.set j L') c L ∧ ∃ rs, RowsO fb 1 h2 v rs (M.set j L') ∧ rs[j]? = some r' := by
  obtain ⟨rs, R, A, f⟩ := T.rows
  have hjl : j < rs.length := by rw [R.len]; exact hj
  obtain ⟨r, hr⟩ : ∃ r, rs[j]? = some r := ⟨rs[j], by simp [hjl]⟩
  obtain ⟨h2, a1, a2, a3, a4, a5⟩ := R.set A (L' := L') hr (K1.weak (Nat.le_refl _) fun _ _ q => q.elim) (by rw [cat_fb]; exact Mr) (fun d hd => .inr (Fr d hd))
  have inF : ∀ d, (Has r d ∨ Has v d) → d ∈ blks (v :: rs) := fun d q => q.elim (fun q => mem_blks.2 ⟨r, List.mem_cons.2 (.inr (List.mem_of_getElem? hr)), q⟩) fun q => mem_blks.2 ⟨v, by simp, q⟩
  refine ⟨h2, a1, ⟨⟨rs.set j r', a2, ?_, fun d hd => ?_⟩, T.row.keep a3 fun d hd q => (f d (inF d q)).2 hd, T.new, T.kb.trans ⟨a3.1, fun d hd _ => a3.2 d (Nat.lt_of_lt_of_le hd T.kb.1) fun q => by have := (f d (inF d q)).1; omega⟩⟩, rs.set j r', a2, by rw [List.getElem?_set_self hjl]⟩
  · have := A.set (i := j + 1) (v := r) (v' := r') (by simpa using hr) fun c hc => .inr fun q => by
      have := R.lt q
      have := Fr c hc
      omega
    simpa using this
  · have hd' : Has r' d ∨ d ∈ blks (v :: rs) := by
      have := blks_set (l := v :: rs) (i := j + 1) (v' := r') (c := d) (by simpa using hd)
      exact this
    rcases hd' with q | q
    · have := Fr d q
      exact ⟨Nat.le_trans T.kb.1 this, fun z => by have := T.row.lt z; omega⟩
    · exact f d q
/-- An entry is written. -/
theorem Two.put (T : Two h h' v M c L) {j : Nat} (hj : j < M.length) {i : Nat} (hi : i < (rowA M j).length) (x : UInt8) : ∃ r h2, aload Try.prog h' 31 v.blk (v.off + j) = some r ∧ Sl 1 (rowA M j).length h' r ((rowA M j).map bb) ∧ alay h' r.blk (r.off + i) [.int .u8 (x.toNat : Nat)] = some h2 ∧ Two h h2 v (M.set j ((rowA M j).set i x)) c L := by
  obtain ⟨rs, R, A, f⟩ := T.rows
  obtain ⟨r, hr, Mr⟩ := R.row (rowA_mem hj).1
  rw [cat_fb] at Mr
  obtain ⟨h2, a1, a2, a3, a4⟩ := Mr.lay1 (j := i) (x := .int .u8 (x.toNat : Nat)) hi rfl
  have e2 : ((rowA M j).map bb).set i (.int .u8 (x.toNat : Nat)) = ((rowA M j).set i x).map bb := by rw [List.map_set]; rfl
  rw [e2] at a2
  have inF : ∀ d, Has r d → d ∈ blks (v :: rs) := fun d q => mem_blks.2 ⟨r, List.mem_cons.2 (.inr (List.mem_of_getElem? hr)), q⟩
  exact ⟨r, h2, R.own.sl.ld ta31 hr, Mr.sl, a1, ⟨rs, rows_put R A hr a3 (by rw [cat_fb, List.length_set]; exact a2), A, f⟩, T.row.keep a3 fun d hd q => (f d (inF d q)).2 hd, T.new, T.kb.trans ⟨a3.1, fun d hd _ => a3.2 d (Nat.lt_of_lt_of_le hd T.kb.1) fun q => by have := (f d (inF d q)).1; omega⟩⟩
end
end Go.Proofs.Ytcgafaecdjbmiaa
