/-
  No cell of these rows narrows 'for every input' (looked for: loops, veiled, ifaces, maps, wideKeys, modest, calm, conditions, laid).
  DERIVED. THE GIVEN ROWS OF THIS SEAT. 6 by the template 'for every input the law returns true; each argument reads behind the call as it read before'; 0 by the template 'total and deterministic' (their statements: YtcgafaecdjbmiaaTotals.lean).
  GIVEN WITH THE SEED: the statements are not yours to turn. If you find one false, say at which input.
  Laid BY PROGRAM, IN A SANDBOX (cutbox-rows.mjs): the forced cells as the released guide's own fill.sh prints them over the translation b11240760a66c4c4… (all of the seat's roots in one cut). By AI agents, Wed Nov 11 2026. No macro, syntax, notation, axiom, sorry.
-/
import Derived.Test.YtcgafaecdjbmiaaChecked
import GoSem.Claim
import GoSem.ClaimJoined
import GoSem.ClaimMapViews
import Derived.JoinedTies
import Derived.KernelRfl
namespace Go.Proofs.Ytcgafaecdjbmiaa
/- THE CELL 'sum', in the pinned program and in every row, IS THE sha256 OF THE DUMP (.gsa) THAT YtcgafaecdjbmiaaProg.lean LOADS. Nothing in Lean hashes anything: it is a label: what it is worth is what the hold of that sum in a sandbox is worth. -/
noncomputable def Try.pinned : Pinned := { name := "ytcgafaecdjbmiaa", sum := "b11240760a66c4c43b20b2a1cd38704f516c6608de1ae14c75b4ed3ae3fbb467", checked := Try.checked }
namespace Rows
def none {H : Type} : Left H := { results := [], args := [] }

/-- 'depotlaw2.MatrixRuns': WHATEVER THE INPUT: true; the input reads as it did. -/
def matrixRunsSpec : ChangeSpec := { name := "matrixRuns", fn := fun _ => fun
  | [] => { results := [.lit (.bool true)], args := [] }
  | _ => none }
def matrixRunsRow : OpenClaim := { program := "ytcgafaecdjbmiaa", sum := "b11240760a66c4c43b20b2a1cd38704f516c6608de1ae14c75b4ed3ae3fbb467", func := "depot/depotlaw2.MatrixRuns", spec := "matrixRuns", apart := false }
def MatrixRunsSaid : Prop := matrixRunsRow.holds Try.pinned (OpenSpec.ofChange matrixRunsSpec)

/-- ITS FALSE NEIGHBOUR: 'it returns false'. Refute it at one input. -/
def matrixRunsWrong : ChangeSpec := { name := "matrixRuns", fn := fun _ => fun
  | [] => { results := [.lit (.bool false)], args := [] }
  | _ => none }
def MatrixRunsWrongFalsely : Prop := matrixRunsRow.holds Try.pinned (OpenSpec.ofChange matrixRunsWrong)

/-- 'depotlaw2.MatrixAny': WHATEVER THE INPUT: true; the input reads as it did. -/
def matrixAnySpec : ChangeSpec := { name := "matrixAny", fn := fun _ => fun
  | [d1, d2, d3] => { results := [.lit (.bool true)], args := [d1, d2, d3] }
  | _ => none }
def matrixAnyRow : OpenClaim := { program := "ytcgafaecdjbmiaa", sum := "b11240760a66c4c43b20b2a1cd38704f516c6608de1ae14c75b4ed3ae3fbb467", func := "depot/depotlaw2.MatrixAny", spec := "matrixAny", apart := false }
def MatrixAnySaid : Prop := matrixAnyRow.holds Try.pinned (OpenSpec.ofChange matrixAnySpec)

/-- ITS FALSE NEIGHBOUR: 'it returns false'. Refute it at one input. -/
def matrixAnyWrong : ChangeSpec := { name := "matrixAny", fn := fun _ => fun
  | [d1, d2, d3] => { results := [.lit (.bool false)], args := [d1, d2, d3] }
  | _ => none }
def MatrixAnyWrongFalsely : Prop := matrixAnyRow.holds Try.pinned (OpenSpec.ofChange matrixAnyWrong)

/-- 'depotlaw2.MatrixIdentity': WHATEVER THE INPUT: true; the input reads as it did. -/
def matrixIdentitySpec : ChangeSpec := { name := "matrixIdentity", fn := fun _ => fun
  | [d1, d2, d3] => { results := [.lit (.bool true)], args := [d1, d2, d3] }
  | _ => none }
def matrixIdentityRow : OpenClaim := { program := "ytcgafaecdjbmiaa", sum := "b11240760a66c4c43b20b2a1cd38704f516c6608de1ae14c75b4ed3ae3fbb467", func := "depot/depotlaw2.MatrixIdentity", spec := "matrixIdentity", apart := false }
def MatrixIdentitySaid : Prop := matrixIdentityRow.holds Try.pinned (OpenSpec.ofChange matrixIdentitySpec)

/-- ITS FALSE NEIGHBOUR: 'it returns false'. Refute it at one input. -/
def matrixIdentityWrong : ChangeSpec := { name := "matrixIdentity", fn := fun _ => fun
  | [d1, d2, d3] => { results := [.lit (.bool false)], args := [d1, d2, d3] }
  | _ => none }
def MatrixIdentityWrongFalsely : Prop := matrixIdentityRow.holds Try.pinned (OpenSpec.ofChange matrixIdentityWrong)

/-- 'depotlaw2.MatrixTells': WHATEVER THE INPUT: true; the input reads as it did. -/
def matrixTellsSpec : ChangeSpec := { name := "matrixTells", fn := fun _ => fun
  | [d1, d2, d3, d4] => { results := [.lit (.bool true)], args := [d1, d2, d3, d4] }
  | _ => none }
def matrixTellsRow : OpenClaim := { program := "ytcgafaecdjbmiaa", sum := "b11240760a66c4c43b20b2a1cd38704f516c6608de1ae14c75b4ed3ae3fbb467", func := "depot/depotlaw2.MatrixTells", spec := "matrixTells", apart := false }
def MatrixTellsSaid : Prop := matrixTellsRow.holds Try.pinned (OpenSpec.ofChange matrixTellsSpec)

/-- ITS FALSE NEIGHBOUR: 'it returns false'. Refute it at one input. -/
def matrixTellsWrong : ChangeSpec := { name := "matrixTells", fn := fun _ => fun
  | [d1, d2, d3, d4] => { results := [.lit (.bool false)], args := [d1, d2, d3, d4] }
  | _ => none }
def MatrixTellsWrongFalsely : Prop := matrixTellsRow.holds Try.pinned (OpenSpec.ofChange matrixTellsWrong)

/-- 'depotlaw2.MatrixInverse': WHATEVER THE INPUT: true; the input reads as it did. -/
def matrixInverseSpec : ChangeSpec := { name := "matrixInverse", fn := fun _ => fun
  | [d1, d2] => { results := [.lit (.bool true)], args := [d1, d2] }
  | _ => none }
def matrixInverseRow : OpenClaim := { program := "ytcgafaecdjbmiaa", sum := "b11240760a66c4c43b20b2a1cd38704f516c6608de1ae14c75b4ed3ae3fbb467", func := "depot/depotlaw2.MatrixInverse", spec := "matrixInverse", apart := false }
def MatrixInverseSaid : Prop := matrixInverseRow.holds Try.pinned (OpenSpec.ofChange matrixInverseSpec)

/-- ITS FALSE NEIGHBOUR: 'it returns false'. Refute it at one input. -/
def matrixInverseWrong : ChangeSpec := { name := "matrixInverse", fn := fun _ => fun
  | [d1, d2] => { results := [.lit (.bool false)], args := [d1, d2] }
  | _ => none }
def MatrixInverseWrongFalsely : Prop := matrixInverseRow.holds Try.pinned (OpenSpec.ofChange matrixInverseWrong)

/-- 'depotlaw2.MatrixTimes': WHATEVER THE INPUT: true; the input reads as it did. -/
def matrixTimesSpec : ChangeSpec := { name := "matrixTimes", fn := fun _ => fun
  | [d1, d2, d3, d4] => { results := [.lit (.bool true)], args := [d1, d2, d3, d4] }
  | _ => none }
def matrixTimesRow : OpenClaim := { program := "ytcgafaecdjbmiaa", sum := "b11240760a66c4c43b20b2a1cd38704f516c6608de1ae14c75b4ed3ae3fbb467", func := "depot/depotlaw2.MatrixTimes", spec := "matrixTimes", apart := false }
def MatrixTimesSaid : Prop := matrixTimesRow.holds Try.pinned (OpenSpec.ofChange matrixTimesSpec)

/-- ITS FALSE NEIGHBOUR: 'it returns false'. Refute it at one input. -/
def matrixTimesWrong : ChangeSpec := { name := "matrixTimes", fn := fun _ => fun
  | [d1, d2, d3, d4] => { results := [.lit (.bool false)], args := [d1, d2, d3, d4] }
  | _ => none }
def MatrixTimesWrongFalsely : Prop := matrixTimesRow.holds Try.pinned (OpenSpec.ofChange matrixTimesWrong)

/- THE SECOND FORM. 'bulk': how many values and letters a reading holds, each counted each time it is reached (what is shared counts as often as it is met; a slice's spare places count too). A statement '..UptoSaid' is the law's where the arguments, and the package variables that the reading takes, are together of bulk at most 1048576: NARROWER than '..Said'. Prove '..Said' where nothing that the law and all that it calls make is longer than what came in: it says more and counts as full. Else prove '..UptoSaid'. A law counts once. -/
mutual
def uptoBulk {H : Type} : DataW H → Nat
  | .lit (.string bytes) => bytes.length + 1
  | .lit _ => 1
  | .nil => 1
  | .ptr d => uptoBulk d + 1
  | .slice elems spare => uptoBulkAll elems + uptoBulkAll spare + 1
  | .agg parts => uptoBulkAll parts + 1
  | .iface _ d => uptoBulk d + 1
  | .map entries => uptoBulkEntries entries + 1
  | .held _ => 1
def uptoBulkAll {H : Type} : List (DataW H) → Nat
  | [] => 0
  | d :: r => uptoBulk d + uptoBulkAll r
def uptoBulkEntries {H : Type} : List (Lit × DataW H) → Nat
  | [] => 0
  | x :: r => uptoBulkEntry x + uptoBulkEntries r
def uptoBulkEntry {H : Type} : Lit × DataW H → Nat
  | (.string bytes, d) => bytes.length + uptoBulk d + 1
  | (_, d) => uptoBulk d + 1
 end
def uptoSmall : (H : Type) → List (DataW H) → Bool := fun _ ds => decide (uptoBulkAll ds ≤ 1048576)
def OpenSpec.upto (s : _root_.Go.ChangeSpec) : _root_.Go.OpenSpec := { _root_.Go.OpenSpec.ofChange s with cond := some uptoSmall }

/-- 'depotlaw2.MatrixRuns', WHERE WHAT IT READS IS OF BULK AT MOST 1048576: true; the input reads as it did. -/
def matrixRunsUptoRow : OpenClaim := { program := "ytcgafaecdjbmiaa", sum := "b11240760a66c4c43b20b2a1cd38704f516c6608de1ae14c75b4ed3ae3fbb467", func := "depot/depotlaw2.MatrixRuns", spec := "matrixRuns", apart := false, narrowed := true }
def MatrixRunsUptoSaid : Prop := matrixRunsUptoRow.holds Try.pinned (OpenSpec.upto matrixRunsSpec)

/-- 'depotlaw2.MatrixAny', WHERE WHAT IT READS IS OF BULK AT MOST 1048576: true; the input reads as it did. -/
def matrixAnyUptoRow : OpenClaim := { program := "ytcgafaecdjbmiaa", sum := "b11240760a66c4c43b20b2a1cd38704f516c6608de1ae14c75b4ed3ae3fbb467", func := "depot/depotlaw2.MatrixAny", spec := "matrixAny", apart := false, narrowed := true }
def MatrixAnyUptoSaid : Prop := matrixAnyUptoRow.holds Try.pinned (OpenSpec.upto matrixAnySpec)

/-- 'depotlaw2.MatrixIdentity', WHERE WHAT IT READS IS OF BULK AT MOST 1048576: true; the input reads as it did. -/
def matrixIdentityUptoRow : OpenClaim := { program := "ytcgafaecdjbmiaa", sum := "b11240760a66c4c43b20b2a1cd38704f516c6608de1ae14c75b4ed3ae3fbb467", func := "depot/depotlaw2.MatrixIdentity", spec := "matrixIdentity", apart := false, narrowed := true }
def MatrixIdentityUptoSaid : Prop := matrixIdentityUptoRow.holds Try.pinned (OpenSpec.upto matrixIdentitySpec)

/-- 'depotlaw2.MatrixTells', WHERE WHAT IT READS IS OF BULK AT MOST 1048576: true; the input reads as it did. -/
def matrixTellsUptoRow : OpenClaim := { program := "ytcgafaecdjbmiaa", sum := "b11240760a66c4c43b20b2a1cd38704f516c6608de1ae14c75b4ed3ae3fbb467", func := "depot/depotlaw2.MatrixTells", spec := "matrixTells", apart := false, narrowed := true }
def MatrixTellsUptoSaid : Prop := matrixTellsUptoRow.holds Try.pinned (OpenSpec.upto matrixTellsSpec)

/-- 'depotlaw2.MatrixInverse', WHERE WHAT IT READS IS OF BULK AT MOST 1048576: true; the input reads as it did. -/
def matrixInverseUptoRow : OpenClaim := { program := "ytcgafaecdjbmiaa", sum := "b11240760a66c4c43b20b2a1cd38704f516c6608de1ae14c75b4ed3ae3fbb467", func := "depot/depotlaw2.MatrixInverse", spec := "matrixInverse", apart := false, narrowed := true }
def MatrixInverseUptoSaid : Prop := matrixInverseUptoRow.holds Try.pinned (OpenSpec.upto matrixInverseSpec)

/-- 'depotlaw2.MatrixTimes', WHERE WHAT IT READS IS OF BULK AT MOST 1048576: true; the input reads as it did. -/
def matrixTimesUptoRow : OpenClaim := { program := "ytcgafaecdjbmiaa", sum := "b11240760a66c4c43b20b2a1cd38704f516c6608de1ae14c75b4ed3ae3fbb467", func := "depot/depotlaw2.MatrixTimes", spec := "matrixTimes", apart := false, narrowed := true }
def MatrixTimesUptoSaid : Prop := matrixTimesUptoRow.holds Try.pinned (OpenSpec.upto matrixTimesSpec)

end Rows
end Go.Proofs.Ytcgafaecdjbmiaa
