/-
  No cell of these rows narrows 'for every input' (looked for: loops, veiled, ifaces, maps, wideKeys, modest, calm, conditions, laid).
  DERIVED. THE GIVEN ROWS OF THIS SEAT. 5 by the template 'for every input the law returns true; each argument reads behind the call as it read before'; 0 by the template 'total and deterministic' (their statements: YtmoigchjmmjljaaTotals.lean).
  GIVEN WITH THE SEED: the statements are not yours to turn. If you find one false, say at which input.
  Laid BY PROGRAM, IN A SANDBOX (cutbox-rows.mjs): the forced cells as the released guide's own fill.sh prints them over the translation ebe0232a50de80d3… (all of the seat's roots in one cut). By AI agents, Wed Nov 11 2026. No macro, syntax, notation, axiom, sorry.
-/
import Derived.Test.YtmoigchjmmjljaaChecked
import GoSem.Claim
import GoSem.ClaimJoined
import GoSem.ClaimMapViews
import Derived.JoinedTies
import Derived.KernelRfl
namespace Go.Proofs.Ytmoigchjmmjljaa
/- THE CELL 'sum', in the pinned program and in every row, IS THE sha256 OF THE DUMP (.gsa) THAT YtmoigchjmmjljaaProg.lean LOADS. Nothing in Lean hashes anything: it is a label: what it is worth is what the hold of that sum in a sandbox is worth. -/
noncomputable def Try.pinned : Pinned := { name := "ytmoigchjmmjljaa", sum := "ebe0232a50de80d3ee8b6cd83c4d8b689e3c7c940cd7612f7c669769dffd86fe", checked := Try.checked }
namespace Rows
def none {H : Type} : Left H := { results := [], args := [] }

/-- 'depotlaw5.SlabRuns': WHATEVER THE INPUT: true; the input reads as it did. -/
def slabRunsSpec : ChangeSpec := { name := "slabRuns", fn := fun _ => fun
  | [] => { results := [.lit (.bool true)], args := [] }
  | _ => none }
def slabRunsRow : OpenClaim := { program := "ytmoigchjmmjljaa", sum := "ebe0232a50de80d3ee8b6cd83c4d8b689e3c7c940cd7612f7c669769dffd86fe", func := "depot/depotlaw5.SlabRuns", spec := "slabRuns", apart := false }
def SlabRunsSaid : Prop := slabRunsRow.holds Try.pinned (OpenSpec.ofChange slabRunsSpec)

/-- ITS FALSE NEIGHBOUR: 'it returns false'. Refute it at one input. -/
def slabRunsWrong : ChangeSpec := { name := "slabRuns", fn := fun _ => fun
  | [] => { results := [.lit (.bool false)], args := [] }
  | _ => none }
def SlabRunsWrongFalsely : Prop := slabRunsRow.holds Try.pinned (OpenSpec.ofChange slabRunsWrong)

/-- 'depotlaw5.SlabClass': WHATEVER THE INPUT: true; the input reads as it did. -/
def slabClassSpec : ChangeSpec := { name := "slabClass", fn := fun _ => fun
  | [d1, d2] => { results := [.lit (.bool true)], args := [d1, d2] }
  | _ => none }
def slabClassRow : OpenClaim := { program := "ytmoigchjmmjljaa", sum := "ebe0232a50de80d3ee8b6cd83c4d8b689e3c7c940cd7612f7c669769dffd86fe", func := "depot/depotlaw5.SlabClass", spec := "slabClass", apart := false }
def SlabClassSaid : Prop := slabClassRow.holds Try.pinned (OpenSpec.ofChange slabClassSpec)

/-- ITS FALSE NEIGHBOUR: 'it returns false'. Refute it at one input. -/
def slabClassWrong : ChangeSpec := { name := "slabClass", fn := fun _ => fun
  | [d1, d2] => { results := [.lit (.bool false)], args := [d1, d2] }
  | _ => none }
def SlabClassWrongFalsely : Prop := slabClassRow.holds Try.pinned (OpenSpec.ofChange slabClassWrong)

/-- 'depotlaw5.SlabPlays': WHATEVER THE INPUT: true; the input reads as it did. -/
def slabPlaysSpec : ChangeSpec := { name := "slabPlays", fn := fun _ => fun
  | [d1, d2, d3] => { results := [.lit (.bool true)], args := [d1, d2, d3] }
  | _ => none }
def slabPlaysRow : OpenClaim := { program := "ytmoigchjmmjljaa", sum := "ebe0232a50de80d3ee8b6cd83c4d8b689e3c7c940cd7612f7c669769dffd86fe", func := "depot/depotlaw5.SlabPlays", spec := "slabPlays", apart := false }
def SlabPlaysSaid : Prop := slabPlaysRow.holds Try.pinned (OpenSpec.ofChange slabPlaysSpec)

/-- ITS FALSE NEIGHBOUR: 'it returns false'. Refute it at one input. -/
def slabPlaysWrong : ChangeSpec := { name := "slabPlays", fn := fun _ => fun
  | [d1, d2, d3] => { results := [.lit (.bool false)], args := [d1, d2, d3] }
  | _ => none }
def SlabPlaysWrongFalsely : Prop := slabPlaysRow.holds Try.pinned (OpenSpec.ofChange slabPlaysWrong)

/-- 'depotlaw5.SlabHolds': WHATEVER THE INPUT: true; the input reads as it did. -/
def slabHoldsSpec : ChangeSpec := { name := "slabHolds", fn := fun _ => fun
  | [d1, d2, d3] => { results := [.lit (.bool true)], args := [d1, d2, d3] }
  | _ => none }
def slabHoldsRow : OpenClaim := { program := "ytmoigchjmmjljaa", sum := "ebe0232a50de80d3ee8b6cd83c4d8b689e3c7c940cd7612f7c669769dffd86fe", func := "depot/depotlaw5.SlabHolds", spec := "slabHolds", apart := false }
def SlabHoldsSaid : Prop := slabHoldsRow.holds Try.pinned (OpenSpec.ofChange slabHoldsSpec)

/-- ITS FALSE NEIGHBOUR: 'it returns false'. Refute it at one input. -/
def slabHoldsWrong : ChangeSpec := { name := "slabHolds", fn := fun _ => fun
  | [d1, d2, d3] => { results := [.lit (.bool false)], args := [d1, d2, d3] }
  | _ => none }
def SlabHoldsWrongFalsely : Prop := slabHoldsRow.holds Try.pinned (OpenSpec.ofChange slabHoldsWrong)

/-- 'depotlaw5.SlabFills': WHATEVER THE INPUT: true; the input reads as it did. -/
def slabFillsSpec : ChangeSpec := { name := "slabFills", fn := fun _ => fun
  | [d1, d2, d3] => { results := [.lit (.bool true)], args := [d1, d2, d3] }
  | _ => none }
def slabFillsRow : OpenClaim := { program := "ytmoigchjmmjljaa", sum := "ebe0232a50de80d3ee8b6cd83c4d8b689e3c7c940cd7612f7c669769dffd86fe", func := "depot/depotlaw5.SlabFills", spec := "slabFills", apart := false }
def SlabFillsSaid : Prop := slabFillsRow.holds Try.pinned (OpenSpec.ofChange slabFillsSpec)

/-- ITS FALSE NEIGHBOUR: 'it returns false'. Refute it at one input. -/
def slabFillsWrong : ChangeSpec := { name := "slabFills", fn := fun _ => fun
  | [d1, d2, d3] => { results := [.lit (.bool false)], args := [d1, d2, d3] }
  | _ => none }
def SlabFillsWrongFalsely : Prop := slabFillsRow.holds Try.pinned (OpenSpec.ofChange slabFillsWrong)

/- THE SECOND FORM. 'bulk': how many values and letters a reading holds, each counted each time it is reached (what is shared counts as often as it is met; a slice's spare places count too). A statement '..UptoSaid' is the law's where the arguments, and the package variables that the reading takes, are together of bulk at most 1048576: NARROWER than '..Said'. Prove '..Said' where nothing that the law and all that it calls make is longer than what came in: it says more and counts as full. Else prove '..UptoSaid'. A law counts once. -/
mutual
def uptoBulk {H : Type} : DataW H → Nat
  | .lit (.string bytes) => bytes.length + 1
  | .lit _ => 1
  | .nil => 1
  | .ptr d => uptoBulk d + 1
  | .slice elems spare => uptoBulkAll elems + uptoBulkAll spare + 1
  | .agg parts => uptoBulkAll parts + 1
  | .iface _ d => uptoBulk d + 1
  | .map entries => uptoBulkEntries entries + 1
  | .held _ => 1
def uptoBulkAll {H : Type} : List (DataW H) → Nat
  | [] => 0
  | d :: r => uptoBulk d + uptoBulkAll r
def uptoBulkEntries {H : Type} : List (Lit × DataW H) → Nat
  | [] => 0
  | x :: r => uptoBulkEntry x + uptoBulkEntries r
def uptoBulkEntry {H : Type} : Lit × DataW H → Nat
  | (.string bytes, d) => bytes.length + uptoBulk d + 1
  | (_, d) => uptoBulk d + 1
 end
def uptoSmall : (H : Type) → List (DataW H) → Bool := fun _ ds => decide (uptoBulkAll ds ≤ 1048576)
def OpenSpec.upto (s : _root_.Go.ChangeSpec) : _root_.Go.OpenSpec := { _root_.Go.OpenSpec.ofChange s with cond := some uptoSmall }

/-- 'depotlaw5.SlabRuns', WHERE WHAT IT READS IS OF BULK AT MOST 1048576: true; the input reads as it did. -/
def slabRunsUptoRow : OpenClaim := { program := "ytmoigchjmmjljaa", sum := "ebe0232a50de80d3ee8b6cd83c4d8b689e3c7c940cd7612f7c669769dffd86fe", func := "depot/depotlaw5.SlabRuns", spec := "slabRuns", apart := false, narrowed := true }
def SlabRunsUptoSaid : Prop := slabRunsUptoRow.holds Try.pinned (OpenSpec.upto slabRunsSpec)

/-- 'depotlaw5.SlabClass', WHERE WHAT IT READS IS OF BULK AT MOST 1048576: true; the input reads as it did. -/
def slabClassUptoRow : OpenClaim := { program := "ytmoigchjmmjljaa", sum := "ebe0232a50de80d3ee8b6cd83c4d8b689e3c7c940cd7612f7c669769dffd86fe", func := "depot/depotlaw5.SlabClass", spec := "slabClass", apart := false, narrowed := true }
def SlabClassUptoSaid : Prop := slabClassUptoRow.holds Try.pinned (OpenSpec.upto slabClassSpec)

/-- 'depotlaw5.SlabPlays', WHERE WHAT IT READS IS OF BULK AT MOST 1048576: true; the input reads as it did. -/
def slabPlaysUptoRow : OpenClaim := { program := "ytmoigchjmmjljaa", sum := "ebe0232a50de80d3ee8b6cd83c4d8b689e3c7c940cd7612f7c669769dffd86fe", func := "depot/depotlaw5.SlabPlays", spec := "slabPlays", apart := false, narrowed := true }
def SlabPlaysUptoSaid : Prop := slabPlaysUptoRow.holds Try.pinned (OpenSpec.upto slabPlaysSpec)

/-- 'depotlaw5.SlabHolds', WHERE WHAT IT READS IS OF BULK AT MOST 1048576: true; the input reads as it did. -/
def slabHoldsUptoRow : OpenClaim := { program := "ytmoigchjmmjljaa", sum := "ebe0232a50de80d3ee8b6cd83c4d8b689e3c7c940cd7612f7c669769dffd86fe", func := "depot/depotlaw5.SlabHolds", spec := "slabHolds", apart := false, narrowed := true }
def SlabHoldsUptoSaid : Prop := slabHoldsUptoRow.holds Try.pinned (OpenSpec.upto slabHoldsSpec)

/-- 'depotlaw5.SlabFills', WHERE WHAT IT READS IS OF BULK AT MOST 1048576: true; the input reads as it did. -/
def slabFillsUptoRow : OpenClaim := { program := "ytmoigchjmmjljaa", sum := "ebe0232a50de80d3ee8b6cd83c4d8b689e3c7c940cd7612f7c669769dffd86fe", func := "depot/depotlaw5.SlabFills", spec := "slabFills", apart := false, narrowed := true }
def SlabFillsUptoSaid : Prop := slabFillsUptoRow.holds Try.pinned (OpenSpec.upto slabFillsSpec)

end Rows
end Go.Proofs.Ytmoigchjmmjljaa
