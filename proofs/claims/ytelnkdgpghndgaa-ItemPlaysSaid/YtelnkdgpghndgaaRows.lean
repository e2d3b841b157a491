/-
  No cell of these rows narrows 'for every input' (looked for: loops, veiled, ifaces, maps, wideKeys, modest, calm, conditions, laid).
  DERIVED. THE GIVEN ROWS OF THIS SEAT. 5 by the template 'for every input the law returns true; each argument reads behind the call as it read before'; 0 by the template 'total and deterministic' (their statements: YtelnkdgpghndgaaTotals.lean).
  GIVEN WITH THE SEED: the statements are not yours to turn. If you find one false, say at which input.
  Laid BY PROGRAM, IN A SANDBOX (cutbox-rows.mjs): the forced cells as the released guide's own fill.sh prints them over the translation a1743a6304f1feec… (all of the seat's roots in one cut). By AI agents, Wed Nov 11 2026. No macro, syntax, notation, axiom, sorry.
-/
import Derived.Test.YtelnkdgpghndgaaChecked
import GoSem.Claim
import GoSem.ClaimJoined
import GoSem.ClaimMapViews
import Derived.JoinedTies
import Derived.KernelRfl
namespace Go.Proofs.Ytelnkdgpghndgaa
/- THE CELL 'sum', in the pinned program and in every row, IS THE sha256 OF THE DUMP (.gsa) THAT YtelnkdgpghndgaaProg.lean LOADS. Nothing in Lean hashes anything: it is a label: what it is worth is what the hold of that sum in a sandbox is worth. -/
noncomputable def Try.pinned : Pinned := { name := "ytelnkdgpghndgaa", sum := "a1743a6304f1feec0a94e923b37c19aeb8c399014ce74b25c4bbe7a4864b723e", checked := Try.checked }
namespace Rows
def none {H : Type} : Left H := { results := [], args := [] }

/-- 'depotlaw7.ItemRuns': WHATEVER THE INPUT: true; the input reads as it did. -/
def itemRunsSpec : ChangeSpec := { name := "itemRuns", fn := fun _ => fun
  | [] => { results := [.lit (.bool true)], args := [] }
  | _ => none }
def itemRunsRow : OpenClaim := { program := "ytelnkdgpghndgaa", sum := "a1743a6304f1feec0a94e923b37c19aeb8c399014ce74b25c4bbe7a4864b723e", func := "depot/depotlaw7.ItemRuns", spec := "itemRuns", apart := false }
def ItemRunsSaid : Prop := itemRunsRow.holds Try.pinned (OpenSpec.ofChange itemRunsSpec)

/-- ITS FALSE NEIGHBOUR: 'it returns false'. Refute it at one input. -/
def itemRunsWrong : ChangeSpec := { name := "itemRuns", fn := fun _ => fun
  | [] => { results := [.lit (.bool false)], args := [] }
  | _ => none }
def ItemRunsWrongFalsely : Prop := itemRunsRow.holds Try.pinned (OpenSpec.ofChange itemRunsWrong)

/-- 'depotlaw7.ItemHolds': WHATEVER THE INPUT: true; the input reads as it did. -/
def itemHoldsSpec : ChangeSpec := { name := "itemHolds", fn := fun _ => fun
  | [d1, d2, d3] => { results := [.lit (.bool true)], args := [d1, d2, d3] }
  | _ => none }
def itemHoldsRow : OpenClaim := { program := "ytelnkdgpghndgaa", sum := "a1743a6304f1feec0a94e923b37c19aeb8c399014ce74b25c4bbe7a4864b723e", func := "depot/depotlaw7.ItemHolds", spec := "itemHolds", apart := false }
def ItemHoldsSaid : Prop := itemHoldsRow.holds Try.pinned (OpenSpec.ofChange itemHoldsSpec)

/-- ITS FALSE NEIGHBOUR: 'it returns false'. Refute it at one input. -/
def itemHoldsWrong : ChangeSpec := { name := "itemHolds", fn := fun _ => fun
  | [d1, d2, d3] => { results := [.lit (.bool false)], args := [d1, d2, d3] }
  | _ => none }
def ItemHoldsWrongFalsely : Prop := itemHoldsRow.holds Try.pinned (OpenSpec.ofChange itemHoldsWrong)

/-- 'depotlaw7.ItemOldest': WHATEVER THE INPUT: true; the input reads as it did. -/
def itemOldestSpec : ChangeSpec := { name := "itemOldest", fn := fun _ => fun
  | [d1, d2] => { results := [.lit (.bool true)], args := [d1, d2] }
  | _ => none }
def itemOldestRow : OpenClaim := { program := "ytelnkdgpghndgaa", sum := "a1743a6304f1feec0a94e923b37c19aeb8c399014ce74b25c4bbe7a4864b723e", func := "depot/depotlaw7.ItemOldest", spec := "itemOldest", apart := false }
def ItemOldestSaid : Prop := itemOldestRow.holds Try.pinned (OpenSpec.ofChange itemOldestSpec)

/-- ITS FALSE NEIGHBOUR: 'it returns false'. Refute it at one input. -/
def itemOldestWrong : ChangeSpec := { name := "itemOldest", fn := fun _ => fun
  | [d1, d2] => { results := [.lit (.bool false)], args := [d1, d2] }
  | _ => none }
def ItemOldestWrongFalsely : Prop := itemOldestRow.holds Try.pinned (OpenSpec.ofChange itemOldestWrong)

/-- 'depotlaw7.ItemPins': WHATEVER THE INPUT: true; the input reads as it did. -/
def itemPinsSpec : ChangeSpec := { name := "itemPins", fn := fun _ => fun
  | [d1, d2] => { results := [.lit (.bool true)], args := [d1, d2] }
  | _ => none }
def itemPinsRow : OpenClaim := { program := "ytelnkdgpghndgaa", sum := "a1743a6304f1feec0a94e923b37c19aeb8c399014ce74b25c4bbe7a4864b723e", func := "depot/depotlaw7.ItemPins", spec := "itemPins", apart := false }
def ItemPinsSaid : Prop := itemPinsRow.holds Try.pinned (OpenSpec.ofChange itemPinsSpec)

/-- ITS FALSE NEIGHBOUR: 'it returns false'. Refute it at one input. -/
def itemPinsWrong : ChangeSpec := { name := "itemPins", fn := fun _ => fun
  | [d1, d2] => { results := [.lit (.bool false)], args := [d1, d2] }
  | _ => none }
def ItemPinsWrongFalsely : Prop := itemPinsRow.holds Try.pinned (OpenSpec.ofChange itemPinsWrong)

/-- 'depotlaw7.ItemPlays': WHATEVER THE INPUT: true; the input reads as it did. -/
def itemPlaysSpec : ChangeSpec := { name := "itemPlays", fn := fun _ => fun
  | [d1, d2, d3] => { results := [.lit (.bool true)], args := [d1, d2, d3] }
  | _ => none }
def itemPlaysRow : OpenClaim := { program := "ytelnkdgpghndgaa", sum := "a1743a6304f1feec0a94e923b37c19aeb8c399014ce74b25c4bbe7a4864b723e", func := "depot/depotlaw7.ItemPlays", spec := "itemPlays", apart := false }
def ItemPlaysSaid : Prop := itemPlaysRow.holds Try.pinned (OpenSpec.ofChange itemPlaysSpec)

/-- ITS FALSE NEIGHBOUR: 'it returns false'. Refute it at one input. -/
def itemPlaysWrong : ChangeSpec := { name := "itemPlays", fn := fun _ => fun
  | [d1, d2, d3] => { results := [.lit (.bool false)], args := [d1, d2, d3] }
  | _ => none }
def ItemPlaysWrongFalsely : Prop := itemPlaysRow.holds Try.pinned (OpenSpec.ofChange itemPlaysWrong)

/- THE SECOND FORM. 'bulk': how many values and letters a reading holds, each counted each time it is reached (what is shared counts as often as it is met; a slice's spare places count too). A statement '..UptoSaid' is the law's where the arguments, and the package variables that the reading takes, are together of bulk at most 1048576: NARROWER than '..Said'. Prove '..Said' where nothing that the law and all that it calls make is longer than what came in: it says more and counts as full. Else prove '..UptoSaid'. A law counts once. -/
mutual
def uptoBulk {H : Type} : DataW H → Nat
  | .lit (.string bytes) => bytes.length + 1
  | .lit _ => 1
  | .nil => 1
  | .ptr d => uptoBulk d + 1
  | .slice elems spare => uptoBulkAll elems + uptoBulkAll spare + 1
  | .agg parts => uptoBulkAll parts + 1
  | .iface _ d => uptoBulk d + 1
  | .map entries => uptoBulkEntries entries + 1
  | .held _ => 1
def uptoBulkAll {H : Type} : List (DataW H) → Nat
  | [] => 0
  | d :: r => uptoBulk d + uptoBulkAll r
def uptoBulkEntries {H : Type} : List (Lit × DataW H) → Nat
  | [] => 0
  | x :: r => uptoBulkEntry x + uptoBulkEntries r
def uptoBulkEntry {H : Type} : Lit × DataW H → Nat
  | (.string bytes, d) => bytes.length + uptoBulk d + 1
  | (_, d) => uptoBulk d + 1
 end
def uptoSmall : (H : Type) → List (DataW H) → Bool := fun _ ds => decide (uptoBulkAll ds ≤ 1048576)
def OpenSpec.upto (s : _root_.Go.ChangeSpec) : _root_.Go.OpenSpec := { _root_.Go.OpenSpec.ofChange s with cond := some uptoSmall }

/-- 'depotlaw7.ItemRuns', WHERE WHAT IT READS IS OF BULK AT MOST 1048576: true; the input reads as it did. -/
def itemRunsUptoRow : OpenClaim := { program := "ytelnkdgpghndgaa", sum := "a1743a6304f1feec0a94e923b37c19aeb8c399014ce74b25c4bbe7a4864b723e", func := "depot/depotlaw7.ItemRuns", spec := "itemRuns", apart := false, narrowed := true }
def ItemRunsUptoSaid : Prop := itemRunsUptoRow.holds Try.pinned (OpenSpec.upto itemRunsSpec)

/-- 'depotlaw7.ItemHolds', WHERE WHAT IT READS IS OF BULK AT MOST 1048576: true; the input reads as it did. -/
def itemHoldsUptoRow : OpenClaim := { program := "ytelnkdgpghndgaa", sum := "a1743a6304f1feec0a94e923b37c19aeb8c399014ce74b25c4bbe7a4864b723e", func := "depot/depotlaw7.ItemHolds", spec := "itemHolds", apart := false, narrowed := true }
def ItemHoldsUptoSaid : Prop := itemHoldsUptoRow.holds Try.pinned (OpenSpec.upto itemHoldsSpec)

/-- 'depotlaw7.ItemOldest', WHERE WHAT IT READS IS OF BULK AT MOST 1048576: true; the input reads as it did. -/
def itemOldestUptoRow : OpenClaim := { program := "ytelnkdgpghndgaa", sum := "a1743a6304f1feec0a94e923b37c19aeb8c399014ce74b25c4bbe7a4864b723e", func := "depot/depotlaw7.ItemOldest", spec := "itemOldest", apart := false, narrowed := true }
def ItemOldestUptoSaid : Prop := itemOldestUptoRow.holds Try.pinned (OpenSpec.upto itemOldestSpec)

/-- 'depotlaw7.ItemPins', WHERE WHAT IT READS IS OF BULK AT MOST 1048576: true; the input reads as it did. -/
def itemPinsUptoRow : OpenClaim := { program := "ytelnkdgpghndgaa", sum := "a1743a6304f1feec0a94e923b37c19aeb8c399014ce74b25c4bbe7a4864b723e", func := "depot/depotlaw7.ItemPins", spec := "itemPins", apart := false, narrowed := true }
def ItemPinsUptoSaid : Prop := itemPinsUptoRow.holds Try.pinned (OpenSpec.upto itemPinsSpec)

/-- 'depotlaw7.ItemPlays', WHERE WHAT IT READS IS OF BULK AT MOST 1048576: true; the input reads as it did. -/
def itemPlaysUptoRow : OpenClaim := { program := "ytelnkdgpghndgaa", sum := "a1743a6304f1feec0a94e923b37c19aeb8c399014ce74b25c4bbe7a4864b723e", func := "depot/depotlaw7.ItemPlays", spec := "itemPlays", apart := false, narrowed := true }
def ItemPlaysUptoSaid : Prop := itemPlaysUptoRow.holds Try.pinned (OpenSpec.upto itemPlaysSpec)

end Rows
end Go.Proofs.Ytelnkdgpghndgaa
