/- Two fields' tables are compared. -/
import Derived.Test.YthcnehemnjongaaGf
import Derived.Test.YthcnehemnjongaaAbsQ
namespace Go.Proofs.Ythcnehemnjongaa
open Go Go.YthcnehemnjongaaAbs Go.RowKit
set_option linter.unusedSimpArgs false
set_option linter.unusedVariables false
set_option maxRecDepth 100000

def vv (n : Nat) : Value := .int .u8 (n : Nat)
theorem vals_bv : ∀ l : List Nat, vals? (l.map bv) = some (l.map vv)
  | [] => rfl
  | n :: l => by simp only [List.map_cons, vals?, vals_bv l, bv, AV.val?, vv]
theorem same_field : sameAV (.agg fieldC) (.agg fieldC) = true := by
  have : ∀ l : List Nat, sameAVs (l.map bv) (l.map bv) = true := fun l => by
    induction l with
    | nil => rfl
    | cons n l ih => simp only [List.map_cons, sameAVs, ih, bv, sameAV]; simp
  simp only [sameAV]
  exact this _
theorem same_fields : sameAVs fieldC fieldC = true := by have := same_field; simpa only [sameAV] using this
theorem arr_eq {t : TypeId} {n : Nat} (hu : Try.prog.underlying t = some (.array n 5)) (l : List Nat) (hl : n ≤ l.length) (d : Nat) : semPure Try.prog (Op.equalIn (d + 2) t (.agg ⟨l.map vv⟩) (.agg ⟨l.map vv⟩)) = some true := by
  rw [equal_array (p := fun _ => true) hu ts5 (fun i hi => ?_)]
  · simp
  · obtain ⟨x, hx⟩ : ∃ x, l[i]? = some x := ⟨l[i]'(by omega), by simp⟩
    have hp : semPure Try.prog (part 5 ⟨l.map vv⟩ (i * 1)) = some (vv x) := part_basic Try.underlying5 rfl (by simp [hx])
    exact ⟨vv x, vv x, hp, hp, (equal_basic Try.underlying5 rfl rfl _).trans (by simp [veq, vv])⟩
theorem field_eq : semPure Try.prog (Op.equal 25 (.agg ⟨(expL ++ logL).map vv⟩) (.agg ⟨(expL ++ logL).map vv⟩)) = some true := by
  unfold Op.equal Op.maxDepth
  have hall : ∀ (fs : List Field), (fs.all fun f => decide (f.name = "_") || true) = true := fun fs => by simp
  rw [equal_struct (p := fun _ => true) (d := 9999) Try.underlying25 (by kernel_rfl) (fun f hf _ => ?_), hall]
  simp only [List.mem_cons, List.not_mem_nil, or_false] at hf
  have l1 := expL_len
  have l2 := logL_len
  rcases hf with rfl | rfl
  · refine ⟨.agg ⟨expL.map vv⟩, .agg ⟨expL.map vv⟩, ?_, ?_, arr_eq Try.underlying22 expL (by omega) 9997⟩
    all_goals
      rw [part_agg Try.underlying22 rfl ts22]
      simp [l1]
  · refine ⟨.agg ⟨logL.map vv⟩, .agg ⟨logL.map vv⟩, ?_, ?_, arr_eq Try.underlying23 logL (by omega) 9997⟩
    all_goals
      rw [part_agg Try.underlying23 rfl ts23]
      simp [l1, l2]
      rw [List.take_of_length_le (by simp; omega)]
theorem aback_field {t : Tr AV} {d : Option Tmp} {tv v : TypeId} {pos : String} {af : Array Edge} {g : Option (Nat × Bool)} {i j : Nat} (hx : ev t (.tmp i) = .agg fieldC) (hy : ev t (.tmp j) = .agg fieldC) :
    aback0 Try.prog t ⟨d, .binOp .eql 25 (.tmp i) (.tmp j) tv, v, pos, af, g⟩ = some (.bool true) :=
  aback_eqS hx hy (vals_bv _) (vals_bv _) (by kernel_rfl) field_eq .eql (.inl rfl)
end Go.Proofs.Ythcnehemnjongaa
