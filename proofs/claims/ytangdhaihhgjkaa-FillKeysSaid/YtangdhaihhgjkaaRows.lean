/-
  No cell of these rows narrows 'for every input' (looked for: loops, veiled, ifaces, maps, wideKeys, modest, calm, conditions, laid).
  DERIVED. THE GIVEN ROWS OF THIS SEAT. 4 by the template 'for every input the law returns true; each argument reads behind the call as it read before'; 0 by the template 'total and deterministic' (their statements: YtangdhaihhgjkaaTotals.lean).
  GIVEN WITH THE SEED: the statements are not yours to turn. If you find one false, say at which input.
  Laid BY PROGRAM, IN A SANDBOX (cutbox-rows.mjs): the forced cells as the released guide's own fill.sh prints them over the translation 8feb02568c005bb2… (all of the seat's roots in one cut). By AI agents, Wed Nov 11 2026. No macro, syntax, notation, axiom, sorry.
-/
import Derived.Test.YtangdhaihhgjkaaChecked
import GoSem.Claim
import GoSem.ClaimJoined
import GoSem.ClaimMapViews
import Derived.JoinedTies
import Derived.KernelRfl
namespace Go.Proofs.Ytangdhaihhgjkaa
/- THE CELL 'sum', in the pinned program and in every row, IS THE sha256 OF THE DUMP (.gsa) THAT YtangdhaihhgjkaaProg.lean LOADS. Nothing in Lean hashes anything: it is a label: what it is worth is what the hold of that sum in a sandbox is worth. -/
noncomputable def Try.pinned : Pinned := { name := "ytangdhaihhgjkaa", sum := "8feb02568c005bb21f848a72ca347884be3e38f51d04acc2de688a41227f5f25", checked := Try.checked }
namespace Rows
def none {H : Type} : Left H := { results := [], args := [] }

/-- 'depotlaw22.FillRuns': WHATEVER THE INPUT: true; the input reads as it did. -/
def fillRunsSpec : ChangeSpec := { name := "fillRuns", fn := fun _ => fun
  | [] => { results := [.lit (.bool true)], args := [] }
  | _ => none }
def fillRunsRow : OpenClaim := { program := "ytangdhaihhgjkaa", sum := "8feb02568c005bb21f848a72ca347884be3e38f51d04acc2de688a41227f5f25", func := "depot/depotlaw22.FillRuns", spec := "fillRuns", unfollowed := true, recurses := true, apart := false }
def FillRunsSaid : Prop := fillRunsRow.holds Try.pinned (OpenSpec.ofChange fillRunsSpec)

/-- ITS FALSE NEIGHBOUR: 'it returns false'. Refute it at one input. -/
def fillRunsWrong : ChangeSpec := { name := "fillRuns", fn := fun _ => fun
  | [] => { results := [.lit (.bool false)], args := [] }
  | _ => none }
def FillRunsWrongFalsely : Prop := fillRunsRow.holds Try.pinned (OpenSpec.ofChange fillRunsWrong)

/-- 'depotlaw22.FillAll': WHATEVER THE INPUT: true; the input reads as it did. -/
def fillAllSpec : ChangeSpec := { name := "fillAll", fn := fun _ => fun
  | [d1, d2, d3, d4, d5, d6] => { results := [.lit (.bool true)], args := [d1, d2, d3, d4, d5, d6] }
  | _ => none }
def fillAllRow : OpenClaim := { program := "ytangdhaihhgjkaa", sum := "8feb02568c005bb21f848a72ca347884be3e38f51d04acc2de688a41227f5f25", func := "depot/depotlaw22.FillAll", spec := "fillAll", unfollowed := true, recurses := true, apart := false }
def FillAllSaid : Prop := fillAllRow.holds Try.pinned (OpenSpec.ofChange fillAllSpec)

/-- ITS FALSE NEIGHBOUR: 'it returns false'. Refute it at one input. -/
def fillAllWrong : ChangeSpec := { name := "fillAll", fn := fun _ => fun
  | [d1, d2, d3, d4, d5, d6] => { results := [.lit (.bool false)], args := [d1, d2, d3, d4, d5, d6] }
  | _ => none }
def FillAllWrongFalsely : Prop := fillAllRow.holds Try.pinned (OpenSpec.ofChange fillAllWrong)

/-- 'depotlaw22.FillWaits': WHATEVER THE INPUT: true; the input reads as it did. -/
def fillWaitsSpec : ChangeSpec := { name := "fillWaits", fn := fun _ => fun
  | [d1, d2] => { results := [.lit (.bool true)], args := [d1, d2] }
  | _ => none }
def fillWaitsRow : OpenClaim := { program := "ytangdhaihhgjkaa", sum := "8feb02568c005bb21f848a72ca347884be3e38f51d04acc2de688a41227f5f25", func := "depot/depotlaw22.FillWaits", spec := "fillWaits", unfollowed := true, recurses := true, apart := false }
def FillWaitsSaid : Prop := fillWaitsRow.holds Try.pinned (OpenSpec.ofChange fillWaitsSpec)

/-- ITS FALSE NEIGHBOUR: 'it returns false'. Refute it at one input. -/
def fillWaitsWrong : ChangeSpec := { name := "fillWaits", fn := fun _ => fun
  | [d1, d2] => { results := [.lit (.bool false)], args := [d1, d2] }
  | _ => none }
def FillWaitsWrongFalsely : Prop := fillWaitsRow.holds Try.pinned (OpenSpec.ofChange fillWaitsWrong)

/-- 'depotlaw22.FillKeys': WHATEVER THE INPUT: true; the input reads as it did. -/
def fillKeysSpec : ChangeSpec := { name := "fillKeys", fn := fun _ => fun
  | [d1, d2] => { results := [.lit (.bool true)], args := [d1, d2] }
  | _ => none }
def fillKeysRow : OpenClaim := { program := "ytangdhaihhgjkaa", sum := "8feb02568c005bb21f848a72ca347884be3e38f51d04acc2de688a41227f5f25", func := "depot/depotlaw22.FillKeys", spec := "fillKeys", unfollowed := true, recurses := true, apart := false }
def FillKeysSaid : Prop := fillKeysRow.holds Try.pinned (OpenSpec.ofChange fillKeysSpec)

/-- ITS FALSE NEIGHBOUR: 'it returns false'. Refute it at one input. -/
def fillKeysWrong : ChangeSpec := { name := "fillKeys", fn := fun _ => fun
  | [d1, d2] => { results := [.lit (.bool false)], args := [d1, d2] }
  | _ => none }
def FillKeysWrongFalsely : Prop := fillKeysRow.holds Try.pinned (OpenSpec.ofChange fillKeysWrong)

/- THE SECOND FORM. 'bulk': how many values and letters a reading holds, each counted each time it is reached (what is shared counts as often as it is met; a slice's spare places count too). A statement '..UptoSaid' is the law's where the arguments, and the package variables that the reading takes, are together of bulk at most 1048576: NARROWER than '..Said'. Prove '..Said' where nothing that the law and all that it calls make is longer than what came in: it says more and counts as full. Else prove '..UptoSaid'. A law counts once. -/
mutual
def uptoBulk {H : Type} : DataW H → Nat
  | .lit (.string bytes) => bytes.length + 1
  | .lit _ => 1
  | .nil => 1
  | .ptr d => uptoBulk d + 1
  | .slice elems spare => uptoBulkAll elems + uptoBulkAll spare + 1
  | .agg parts => uptoBulkAll parts + 1
  | .iface _ d => uptoBulk d + 1
  | .map entries => uptoBulkEntries entries + 1
  | .held _ => 1
def uptoBulkAll {H : Type} : List (DataW H) → Nat
  | [] => 0
  | d :: r => uptoBulk d + uptoBulkAll r
def uptoBulkEntries {H : Type} : List (Lit × DataW H) → Nat
  | [] => 0
  | x :: r => uptoBulkEntry x + uptoBulkEntries r
def uptoBulkEntry {H : Type} : Lit × DataW H → Nat
  | (.string bytes, d) => bytes.length + uptoBulk d + 1
  | (_, d) => uptoBulk d + 1
 end
def uptoSmall : (H : Type) → List (DataW H) → Bool := fun _ ds => decide (uptoBulkAll ds ≤ 1048576)
def OpenSpec.upto (s : _root_.Go.ChangeSpec) : _root_.Go.OpenSpec := { _root_.Go.OpenSpec.ofChange s with cond := some uptoSmall }

/-- 'depotlaw22.FillRuns', WHERE WHAT IT READS IS OF BULK AT MOST 1048576: true; the input reads as it did. -/
def fillRunsUptoRow : OpenClaim := { program := "ytangdhaihhgjkaa", sum := "8feb02568c005bb21f848a72ca347884be3e38f51d04acc2de688a41227f5f25", func := "depot/depotlaw22.FillRuns", spec := "fillRuns", unfollowed := true, recurses := true, apart := false, narrowed := true }
def FillRunsUptoSaid : Prop := fillRunsUptoRow.holds Try.pinned (OpenSpec.upto fillRunsSpec)

/-- 'depotlaw22.FillAll', WHERE WHAT IT READS IS OF BULK AT MOST 1048576: true; the input reads as it did. -/
def fillAllUptoRow : OpenClaim := { program := "ytangdhaihhgjkaa", sum := "8feb02568c005bb21f848a72ca347884be3e38f51d04acc2de688a41227f5f25", func := "depot/depotlaw22.FillAll", spec := "fillAll", unfollowed := true, recurses := true, apart := false, narrowed := true }
def FillAllUptoSaid : Prop := fillAllUptoRow.holds Try.pinned (OpenSpec.upto fillAllSpec)

/-- 'depotlaw22.FillWaits', WHERE WHAT IT READS IS OF BULK AT MOST 1048576: true; the input reads as it did. -/
def fillWaitsUptoRow : OpenClaim := { program := "ytangdhaihhgjkaa", sum := "8feb02568c005bb21f848a72ca347884be3e38f51d04acc2de688a41227f5f25", func := "depot/depotlaw22.FillWaits", spec := "fillWaits", unfollowed := true, recurses := true, apart := false, narrowed := true }
def FillWaitsUptoSaid : Prop := fillWaitsUptoRow.holds Try.pinned (OpenSpec.upto fillWaitsSpec)

/-- 'depotlaw22.FillKeys', WHERE WHAT IT READS IS OF BULK AT MOST 1048576: true; the input reads as it did. -/
def fillKeysUptoRow : OpenClaim := { program := "ytangdhaihhgjkaa", sum := "8feb02568c005bb21f848a72ca347884be3e38f51d04acc2de688a41227f5f25", func := "depot/depotlaw22.FillKeys", spec := "fillKeys", unfollowed := true, recurses := true, apart := false, narrowed := true }
def FillKeysUptoSaid : Prop := fillKeysUptoRow.holds Try.pinned (OpenSpec.upto fillKeysSpec)

end Rows
end Go.Proofs.Ytangdhaihhgjkaa
