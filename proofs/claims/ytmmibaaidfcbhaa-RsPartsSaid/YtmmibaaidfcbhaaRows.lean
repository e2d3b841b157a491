/-
  No cell of these rows narrows 'for every input' (looked for: loops, veiled, ifaces, maps, wideKeys, modest, calm, conditions, laid).
  DERIVED. THE GIVEN ROWS OF THIS SEAT. 7 by the template 'for every input the law returns true; each argument reads behind the call as it read before'; 0 by the template 'total and deterministic' (their statements: YtmmibaaidfcbhaaTotals.lean).
  GIVEN WITH THE SEED: the statements are not yours to turn. If you find one false, say at which input.
  Laid BY PROGRAM, IN A SANDBOX (cutbox-rows.mjs): the forced cells as the released guide's own fill.sh prints them over the translation 27ccf39dc34e24fa… (all of the seat's roots in one cut). By AI agents, Wed Nov 11 2026. No macro, syntax, notation, axiom, sorry.
-/
import Derived.Test.YtmmibaaidfcbhaaChecked
import GoSem.Claim
import GoSem.ClaimJoined
import GoSem.ClaimMapViews
import Derived.JoinedTies
import Derived.KernelRfl
namespace Go.Proofs.Ytmmibaaidfcbhaa
/- THE CELL 'sum', in the pinned program and in every row, IS THE sha256 OF THE DUMP (.gsa) THAT YtmmibaaidfcbhaaProg.lean LOADS. Nothing in Lean hashes anything: it is a label: what it is worth is what the hold of that sum in a sandbox is worth. -/
noncomputable def Try.pinned : Pinned := { name := "ytmmibaaidfcbhaa", sum := "27ccf39dc34e24fae1e30d56ee11174c27803e1c7d739173c284c9f0c337b565", checked := Try.checked }
namespace Rows
def none {H : Type} : Left H := { results := [], args := [] }

/-- 'depotlaw3.RsRuns': WHATEVER THE INPUT: true; the input reads as it did. -/
def rsRunsSpec : ChangeSpec := { name := "rsRuns", fn := fun _ => fun
  | [] => { results := [.lit (.bool true)], args := [] }
  | _ => none }
def rsRunsRow : OpenClaim := { program := "ytmmibaaidfcbhaa", sum := "27ccf39dc34e24fae1e30d56ee11174c27803e1c7d739173c284c9f0c337b565", func := "depot/depotlaw3.RsRuns", spec := "rsRuns", apart := false }
def RsRunsSaid : Prop := rsRunsRow.holds Try.pinned (OpenSpec.ofChange rsRunsSpec)

/-- ITS FALSE NEIGHBOUR: 'it returns false'. Refute it at one input. -/
def rsRunsWrong : ChangeSpec := { name := "rsRuns", fn := fun _ => fun
  | [] => { results := [.lit (.bool false)], args := [] }
  | _ => none }
def RsRunsWrongFalsely : Prop := rsRunsRow.holds Try.pinned (OpenSpec.ofChange rsRunsWrong)

/-- 'depotlaw3.RsParts': WHATEVER THE INPUT: true; the input reads as it did. -/
def rsPartsSpec : ChangeSpec := { name := "rsParts", fn := fun _ => fun
  | [d1, d2, d3, d4, d5, d6, d7] => { results := [.lit (.bool true)], args := [d1, d2, d3, d4, d5, d6, d7] }
  | _ => none }
def rsPartsRow : OpenClaim := { program := "ytmmibaaidfcbhaa", sum := "27ccf39dc34e24fae1e30d56ee11174c27803e1c7d739173c284c9f0c337b565", func := "depot/depotlaw3.RsParts", spec := "rsParts", apart := false }
def RsPartsSaid : Prop := rsPartsRow.holds Try.pinned (OpenSpec.ofChange rsPartsSpec)

/-- ITS FALSE NEIGHBOUR: 'it returns false'. Refute it at one input. -/
def rsPartsWrong : ChangeSpec := { name := "rsParts", fn := fun _ => fun
  | [d1, d2, d3, d4, d5, d6, d7] => { results := [.lit (.bool false)], args := [d1, d2, d3, d4, d5, d6, d7] }
  | _ => none }
def RsPartsWrongFalsely : Prop := rsPartsRow.holds Try.pinned (OpenSpec.ofChange rsPartsWrong)

/-- 'depotlaw3.RsAny': WHATEVER THE INPUT: true; the input reads as it did. -/
def rsAnySpec : ChangeSpec := { name := "rsAny", fn := fun _ => fun
  | [d1, d2, d3, d4, d5] => { results := [.lit (.bool true)], args := [d1, d2, d3, d4, d5] }
  | _ => none }
def rsAnyRow : OpenClaim := { program := "ytmmibaaidfcbhaa", sum := "27ccf39dc34e24fae1e30d56ee11174c27803e1c7d739173c284c9f0c337b565", func := "depot/depotlaw3.RsAny", spec := "rsAny", apart := false }
def RsAnySaid : Prop := rsAnyRow.holds Try.pinned (OpenSpec.ofChange rsAnySpec)

/-- ITS FALSE NEIGHBOUR: 'it returns false'. Refute it at one input. -/
def rsAnyWrong : ChangeSpec := { name := "rsAny", fn := fun _ => fun
  | [d1, d2, d3, d4, d5] => { results := [.lit (.bool false)], args := [d1, d2, d3, d4, d5] }
  | _ => none }
def RsAnyWrongFalsely : Prop := rsAnyRow.holds Try.pinned (OpenSpec.ofChange rsAnyWrong)

/-- 'depotlaw3.RsDistance': WHATEVER THE INPUT: true; the input reads as it did. -/
def rsDistanceSpec : ChangeSpec := { name := "rsDistance", fn := fun _ => fun
  | [d1, d2, d3, d4, d5] => { results := [.lit (.bool true)], args := [d1, d2, d3, d4, d5] }
  | _ => none }
def rsDistanceRow : OpenClaim := { program := "ytmmibaaidfcbhaa", sum := "27ccf39dc34e24fae1e30d56ee11174c27803e1c7d739173c284c9f0c337b565", func := "depot/depotlaw3.RsDistance", spec := "rsDistance", apart := false }
def RsDistanceSaid : Prop := rsDistanceRow.holds Try.pinned (OpenSpec.ofChange rsDistanceSpec)

/-- ITS FALSE NEIGHBOUR: 'it returns false'. Refute it at one input. -/
def rsDistanceWrong : ChangeSpec := { name := "rsDistance", fn := fun _ => fun
  | [d1, d2, d3, d4, d5] => { results := [.lit (.bool false)], args := [d1, d2, d3, d4, d5] }
  | _ => none }
def RsDistanceWrongFalsely : Prop := rsDistanceRow.holds Try.pinned (OpenSpec.ofChange rsDistanceWrong)

/-- 'depotlaw3.RsLinear': WHATEVER THE INPUT: true; the input reads as it did. -/
def rsLinearSpec : ChangeSpec := { name := "rsLinear", fn := fun _ => fun
  | [d1, d2, d3, d4] => { results := [.lit (.bool true)], args := [d1, d2, d3, d4] }
  | _ => none }
def rsLinearRow : OpenClaim := { program := "ytmmibaaidfcbhaa", sum := "27ccf39dc34e24fae1e30d56ee11174c27803e1c7d739173c284c9f0c337b565", func := "depot/depotlaw3.RsLinear", spec := "rsLinear", apart := false }
def RsLinearSaid : Prop := rsLinearRow.holds Try.pinned (OpenSpec.ofChange rsLinearSpec)

/-- ITS FALSE NEIGHBOUR: 'it returns false'. Refute it at one input. -/
def rsLinearWrong : ChangeSpec := { name := "rsLinear", fn := fun _ => fun
  | [d1, d2, d3, d4] => { results := [.lit (.bool false)], args := [d1, d2, d3, d4] }
  | _ => none }
def RsLinearWrongFalsely : Prop := rsLinearRow.holds Try.pinned (OpenSpec.ofChange rsLinearWrong)

/-- 'depotlaw3.RsSizes': WHATEVER THE INPUT: true; the input reads as it did. -/
def rsSizesSpec : ChangeSpec := { name := "rsSizes", fn := fun _ => fun
  | [d1, d2, d3, d4] => { results := [.lit (.bool true)], args := [d1, d2, d3, d4] }
  | _ => none }
def rsSizesRow : OpenClaim := { program := "ytmmibaaidfcbhaa", sum := "27ccf39dc34e24fae1e30d56ee11174c27803e1c7d739173c284c9f0c337b565", func := "depot/depotlaw3.RsSizes", spec := "rsSizes", apart := false }
def RsSizesSaid : Prop := rsSizesRow.holds Try.pinned (OpenSpec.ofChange rsSizesSpec)

/-- ITS FALSE NEIGHBOUR: 'it returns false'. Refute it at one input. -/
def rsSizesWrong : ChangeSpec := { name := "rsSizes", fn := fun _ => fun
  | [d1, d2, d3, d4] => { results := [.lit (.bool false)], args := [d1, d2, d3, d4] }
  | _ => none }
def RsSizesWrongFalsely : Prop := rsSizesRow.holds Try.pinned (OpenSpec.ofChange rsSizesWrong)

/-- 'depotlaw3.RsTells': WHATEVER THE INPUT: true; the input reads as it did. -/
def rsTellsSpec : ChangeSpec := { name := "rsTells", fn := fun _ => fun
  | [d1, d2, d3, d4] => { results := [.lit (.bool true)], args := [d1, d2, d3, d4] }
  | _ => none }
def rsTellsRow : OpenClaim := { program := "ytmmibaaidfcbhaa", sum := "27ccf39dc34e24fae1e30d56ee11174c27803e1c7d739173c284c9f0c337b565", func := "depot/depotlaw3.RsTells", spec := "rsTells", apart := false }
def RsTellsSaid : Prop := rsTellsRow.holds Try.pinned (OpenSpec.ofChange rsTellsSpec)

/-- ITS FALSE NEIGHBOUR: 'it returns false'. Refute it at one input. -/
def rsTellsWrong : ChangeSpec := { name := "rsTells", fn := fun _ => fun
  | [d1, d2, d3, d4] => { results := [.lit (.bool false)], args := [d1, d2, d3, d4] }
  | _ => none }
def RsTellsWrongFalsely : Prop := rsTellsRow.holds Try.pinned (OpenSpec.ofChange rsTellsWrong)

/- THE SECOND FORM. 'bulk': how many values and letters a reading holds, each counted each time it is reached (what is shared counts as often as it is met; a slice's spare places count too). A statement '..UptoSaid' is the law's where the arguments, and the package variables that the reading takes, are together of bulk at most 1048576: NARROWER than '..Said'. Prove '..Said' where nothing that the law and all that it calls make is longer than what came in: it says more and counts as full. Else prove '..UptoSaid'. A law counts once. -/
mutual
def uptoBulk {H : Type} : DataW H → Nat
  | .lit (.string bytes) => bytes.length + 1
  | .lit _ => 1
  | .nil => 1
  | .ptr d => uptoBulk d + 1
  | .slice elems spare => uptoBulkAll elems + uptoBulkAll spare + 1
  | .agg parts => uptoBulkAll parts + 1
  | .iface _ d => uptoBulk d + 1
  | .map entries => uptoBulkEntries entries + 1
  | .held _ => 1
def uptoBulkAll {H : Type} : List (DataW H) → Nat
  | [] => 0
  | d :: r => uptoBulk d + uptoBulkAll r
def uptoBulkEntries {H : Type} : List (Lit × DataW H) → Nat
  | [] => 0
  | x :: r => uptoBulkEntry x + uptoBulkEntries r
def uptoBulkEntry {H : Type} : Lit × DataW H → Nat
  | (.string bytes, d) => bytes.length + uptoBulk d + 1
  | (_, d) => uptoBulk d + 1
 end
def uptoSmall : (H : Type) → List (DataW H) → Bool := fun _ ds => decide (uptoBulkAll ds ≤ 1048576)
def OpenSpec.upto (s : _root_.Go.ChangeSpec) : _root_.Go.OpenSpec := { _root_.Go.OpenSpec.ofChange s with cond := some uptoSmall }

/-- 'depotlaw3.RsRuns', WHERE WHAT IT READS IS OF BULK AT MOST 1048576: true; the input reads as it did. -/
def rsRunsUptoRow : OpenClaim := { program := "ytmmibaaidfcbhaa", sum := "27ccf39dc34e24fae1e30d56ee11174c27803e1c7d739173c284c9f0c337b565", func := "depot/depotlaw3.RsRuns", spec := "rsRuns", apart := false, narrowed := true }
def RsRunsUptoSaid : Prop := rsRunsUptoRow.holds Try.pinned (OpenSpec.upto rsRunsSpec)

/-- 'depotlaw3.RsParts', WHERE WHAT IT READS IS OF BULK AT MOST 1048576: true; the input reads as it did. -/
def rsPartsUptoRow : OpenClaim := { program := "ytmmibaaidfcbhaa", sum := "27ccf39dc34e24fae1e30d56ee11174c27803e1c7d739173c284c9f0c337b565", func := "depot/depotlaw3.RsParts", spec := "rsParts", apart := false, narrowed := true }
def RsPartsUptoSaid : Prop := rsPartsUptoRow.holds Try.pinned (OpenSpec.upto rsPartsSpec)

/-- 'depotlaw3.RsAny', WHERE WHAT IT READS IS OF BULK AT MOST 1048576: true; the input reads as it did. -/
def rsAnyUptoRow : OpenClaim := { program := "ytmmibaaidfcbhaa", sum := "27ccf39dc34e24fae1e30d56ee11174c27803e1c7d739173c284c9f0c337b565", func := "depot/depotlaw3.RsAny", spec := "rsAny", apart := false, narrowed := true }
def RsAnyUptoSaid : Prop := rsAnyUptoRow.holds Try.pinned (OpenSpec.upto rsAnySpec)

/-- 'depotlaw3.RsDistance', WHERE WHAT IT READS IS OF BULK AT MOST 1048576: true; the input reads as it did. -/
def rsDistanceUptoRow : OpenClaim := { program := "ytmmibaaidfcbhaa", sum := "27ccf39dc34e24fae1e30d56ee11174c27803e1c7d739173c284c9f0c337b565", func := "depot/depotlaw3.RsDistance", spec := "rsDistance", apart := false, narrowed := true }
def RsDistanceUptoSaid : Prop := rsDistanceUptoRow.holds Try.pinned (OpenSpec.upto rsDistanceSpec)

/-- 'depotlaw3.RsLinear', WHERE WHAT IT READS IS OF BULK AT MOST 1048576: true; the input reads as it did. -/
def rsLinearUptoRow : OpenClaim := { program := "ytmmibaaidfcbhaa", sum := "27ccf39dc34e24fae1e30d56ee11174c27803e1c7d739173c284c9f0c337b565", func := "depot/depotlaw3.RsLinear", spec := "rsLinear", apart := false, narrowed := true }
def RsLinearUptoSaid : Prop := rsLinearUptoRow.holds Try.pinned (OpenSpec.upto rsLinearSpec)

/-- 'depotlaw3.RsSizes', WHERE WHAT IT READS IS OF BULK AT MOST 1048576: true; the input reads as it did. -/
def rsSizesUptoRow : OpenClaim := { program := "ytmmibaaidfcbhaa", sum := "27ccf39dc34e24fae1e30d56ee11174c27803e1c7d739173c284c9f0c337b565", func := "depot/depotlaw3.RsSizes", spec := "rsSizes", apart := false, narrowed := true }
def RsSizesUptoSaid : Prop := rsSizesUptoRow.holds Try.pinned (OpenSpec.upto rsSizesSpec)

/-- 'depotlaw3.RsTells', WHERE WHAT IT READS IS OF BULK AT MOST 1048576: true; the input reads as it did. -/
def rsTellsUptoRow : OpenClaim := { program := "ytmmibaaidfcbhaa", sum := "27ccf39dc34e24fae1e30d56ee11174c27803e1c7d739173c284c9f0c337b565", func := "depot/depotlaw3.RsTells", spec := "rsTells", apart := false, narrowed := true }
def RsTellsUptoSaid : Prop := rsTellsUptoRow.holds Try.pinned (OpenSpec.upto rsTellsSpec)

end Rows
end Go.Proofs.Ytmmibaaidfcbhaa
