/-
  No cell of these rows narrows 'for every input' (looked for: loops, veiled, ifaces, maps, wideKeys, modest, calm, conditions, laid).
  DERIVED. THE GIVEN ROWS OF THIS SEAT. 4 by the template 'for every input the law returns true; each argument reads behind the call as it read before'; 0 by the template 'total and deterministic' (their statements: YtddlhjhjaggppaaTotals.lean).
  GIVEN WITH THE SEED: the statements are not yours to turn. If you find one false, say at which input.
  Laid BY PROGRAM, IN A SANDBOX (cutbox-rows.mjs): the forced cells as the released guide's own fill.sh prints them over the translation eb852285505cf3c9… (all of the seat's roots in one cut). By AI agents, Wed Nov 11 2026. No macro, syntax, notation, axiom, sorry.
-/
import Derived.Test.YtddlhjhjaggppaaChecked
import GoSem.Claim
import GoSem.ClaimJoined
import GoSem.ClaimMapViews
import Derived.JoinedTies
import Derived.KernelRfl
namespace Go.Proofs.Ytddlhjhjaggppaa
/- THE CELL 'sum', in the pinned program and in every row, IS THE sha256 OF THE DUMP (.gsa) THAT YtddlhjhjaggppaaProg.lean LOADS. Nothing in Lean hashes anything: it is a label: what it is worth is what the hold of that sum in a sandbox is worth. -/
noncomputable def Try.pinned : Pinned := { name := "ytddlhjhjaggppaa", sum := "eb852285505cf3c91de77b978f7f6109837f570a0a897ff0b65aea39f3469fad", checked := Try.checked }
namespace Rows
def none {H : Type} : Left H := { results := [], args := [] }

/-- 'depotlaw16.PlaceRuns': WHATEVER THE INPUT: true; the input reads as it did. -/
def placeRunsSpec : ChangeSpec := { name := "placeRuns", fn := fun _ => fun
  | [] => { results := [.lit (.bool true)], args := [] }
  | _ => none }
def placeRunsRow : OpenClaim := { program := "ytddlhjhjaggppaa", sum := "eb852285505cf3c91de77b978f7f6109837f570a0a897ff0b65aea39f3469fad", func := "depot/depotlaw16.PlaceRuns", spec := "placeRuns", apart := false }
def PlaceRunsSaid : Prop := placeRunsRow.holds Try.pinned (OpenSpec.ofChange placeRunsSpec)

/-- ITS FALSE NEIGHBOUR: 'it returns false'. Refute it at one input. -/
def placeRunsWrong : ChangeSpec := { name := "placeRuns", fn := fun _ => fun
  | [] => { results := [.lit (.bool false)], args := [] }
  | _ => none }
def PlaceRunsWrongFalsely : Prop := placeRunsRow.holds Try.pinned (OpenSpec.ofChange placeRunsWrong)

/-- 'depotlaw16.PlaceTells': WHATEVER THE INPUT: true; the input reads as it did. -/
def placeTellsSpec : ChangeSpec := { name := "placeTells", fn := fun _ => fun
  | [d1, d2, d3, d4, d5] => { results := [.lit (.bool true)], args := [d1, d2, d3, d4, d5] }
  | _ => none }
def placeTellsRow : OpenClaim := { program := "ytddlhjhjaggppaa", sum := "eb852285505cf3c91de77b978f7f6109837f570a0a897ff0b65aea39f3469fad", func := "depot/depotlaw16.PlaceTells", spec := "placeTells", apart := false }
def PlaceTellsSaid : Prop := placeTellsRow.holds Try.pinned (OpenSpec.ofChange placeTellsSpec)

/-- ITS FALSE NEIGHBOUR: 'it returns false'. Refute it at one input. -/
def placeTellsWrong : ChangeSpec := { name := "placeTells", fn := fun _ => fun
  | [d1, d2, d3, d4, d5] => { results := [.lit (.bool false)], args := [d1, d2, d3, d4, d5] }
  | _ => none }
def PlaceTellsWrongFalsely : Prop := placeTellsRow.holds Try.pinned (OpenSpec.ofChange placeTellsWrong)

/-- 'depotlaw16.PlaceOnce': WHATEVER THE INPUT: true; the input reads as it did. -/
def placeOnceSpec : ChangeSpec := { name := "placeOnce", fn := fun _ => fun
  | [d1, d2, d3] => { results := [.lit (.bool true)], args := [d1, d2, d3] }
  | _ => none }
def placeOnceRow : OpenClaim := { program := "ytddlhjhjaggppaa", sum := "eb852285505cf3c91de77b978f7f6109837f570a0a897ff0b65aea39f3469fad", func := "depot/depotlaw16.PlaceOnce", spec := "placeOnce", apart := false }
def PlaceOnceSaid : Prop := placeOnceRow.holds Try.pinned (OpenSpec.ofChange placeOnceSpec)

/-- ITS FALSE NEIGHBOUR: 'it returns false'. Refute it at one input. -/
def placeOnceWrong : ChangeSpec := { name := "placeOnce", fn := fun _ => fun
  | [d1, d2, d3] => { results := [.lit (.bool false)], args := [d1, d2, d3] }
  | _ => none }
def PlaceOnceWrongFalsely : Prop := placeOnceRow.holds Try.pinned (OpenSpec.ofChange placeOnceWrong)

/-- 'depotlaw16.PlaceMetas': WHATEVER THE INPUT: true; the input reads as it did. -/
def placeMetasSpec : ChangeSpec := { name := "placeMetas", fn := fun _ => fun
  | [d1, d2, d3, d4] => { results := [.lit (.bool true)], args := [d1, d2, d3, d4] }
  | _ => none }
def placeMetasRow : OpenClaim := { program := "ytddlhjhjaggppaa", sum := "eb852285505cf3c91de77b978f7f6109837f570a0a897ff0b65aea39f3469fad", func := "depot/depotlaw16.PlaceMetas", spec := "placeMetas", apart := false }
def PlaceMetasSaid : Prop := placeMetasRow.holds Try.pinned (OpenSpec.ofChange placeMetasSpec)

/-- ITS FALSE NEIGHBOUR: 'it returns false'. Refute it at one input. -/
def placeMetasWrong : ChangeSpec := { name := "placeMetas", fn := fun _ => fun
  | [d1, d2, d3, d4] => { results := [.lit (.bool false)], args := [d1, d2, d3, d4] }
  | _ => none }
def PlaceMetasWrongFalsely : Prop := placeMetasRow.holds Try.pinned (OpenSpec.ofChange placeMetasWrong)

/- THE SECOND FORM. 'bulk': how many values and letters a reading holds, each counted each time it is reached (what is shared counts as often as it is met; a slice's spare places count too). A statement '..UptoSaid' is the law's where the arguments, and the package variables that the reading takes, are together of bulk at most 1048576: NARROWER than '..Said'. Prove '..Said' where nothing that the law and all that it calls make is longer than what came in: it says more and counts as full. Else prove '..UptoSaid'. A law counts once. -/
mutual
def uptoBulk {H : Type} : DataW H → Nat
  | .lit (.string bytes) => bytes.length + 1
  | .lit _ => 1
  | .nil => 1
  | .ptr d => uptoBulk d + 1
  | .slice elems spare => uptoBulkAll elems + uptoBulkAll spare + 1
  | .agg parts => uptoBulkAll parts + 1
  | .iface _ d => uptoBulk d + 1
  | .map entries => uptoBulkEntries entries + 1
  | .held _ => 1
def uptoBulkAll {H : Type} : List (DataW H) → Nat
  | [] => 0
  | d :: r => uptoBulk d + uptoBulkAll r
def uptoBulkEntries {H : Type} : List (Lit × DataW H) → Nat
  | [] => 0
  | x :: r => uptoBulkEntry x + uptoBulkEntries r
def uptoBulkEntry {H : Type} : Lit × DataW H → Nat
  | (.string bytes, d) => bytes.length + uptoBulk d + 1
  | (_, d) => uptoBulk d + 1
 end
def uptoSmall : (H : Type) → List (DataW H) → Bool := fun _ ds => decide (uptoBulkAll ds ≤ 1048576)
def OpenSpec.upto (s : _root_.Go.ChangeSpec) : _root_.Go.OpenSpec := { _root_.Go.OpenSpec.ofChange s with cond := some uptoSmall }

/-- 'depotlaw16.PlaceRuns', WHERE WHAT IT READS IS OF BULK AT MOST 1048576: true; the input reads as it did. -/
def placeRunsUptoRow : OpenClaim := { program := "ytddlhjhjaggppaa", sum := "eb852285505cf3c91de77b978f7f6109837f570a0a897ff0b65aea39f3469fad", func := "depot/depotlaw16.PlaceRuns", spec := "placeRuns", apart := false, narrowed := true }
def PlaceRunsUptoSaid : Prop := placeRunsUptoRow.holds Try.pinned (OpenSpec.upto placeRunsSpec)

/-- 'depotlaw16.PlaceTells', WHERE WHAT IT READS IS OF BULK AT MOST 1048576: true; the input reads as it did. -/
def placeTellsUptoRow : OpenClaim := { program := "ytddlhjhjaggppaa", sum := "eb852285505cf3c91de77b978f7f6109837f570a0a897ff0b65aea39f3469fad", func := "depot/depotlaw16.PlaceTells", spec := "placeTells", apart := false, narrowed := true }
def PlaceTellsUptoSaid : Prop := placeTellsUptoRow.holds Try.pinned (OpenSpec.upto placeTellsSpec)

/-- 'depotlaw16.PlaceOnce', WHERE WHAT IT READS IS OF BULK AT MOST 1048576: true; the input reads as it did. -/
def placeOnceUptoRow : OpenClaim := { program := "ytddlhjhjaggppaa", sum := "eb852285505cf3c91de77b978f7f6109837f570a0a897ff0b65aea39f3469fad", func := "depot/depotlaw16.PlaceOnce", spec := "placeOnce", apart := false, narrowed := true }
def PlaceOnceUptoSaid : Prop := placeOnceUptoRow.holds Try.pinned (OpenSpec.upto placeOnceSpec)

/-- 'depotlaw16.PlaceMetas', WHERE WHAT IT READS IS OF BULK AT MOST 1048576: true; the input reads as it did. -/
def placeMetasUptoRow : OpenClaim := { program := "ytddlhjhjaggppaa", sum := "eb852285505cf3c91de77b978f7f6109837f570a0a897ff0b65aea39f3469fad", func := "depot/depotlaw16.PlaceMetas", spec := "placeMetas", apart := false, narrowed := true }
def PlaceMetasUptoSaid : Prop := placeMetasUptoRow.holds Try.pinned (OpenSpec.upto placeMetasSpec)

end Rows
end Go.Proofs.Ytddlhjhjaggppaa
