/-
  No cell of these rows narrows 'for every input' (looked for: loops, veiled, ifaces, maps, wideKeys, modest, calm, conditions, laid).
  DERIVED. THE GIVEN ROWS OF THIS SEAT. 6 by the template 'for every input the law returns true; each argument reads behind the call as it read before'; 0 by the template 'total and deterministic' (their statements: YtdnjhipgfbhecaaTotals.lean).
  GIVEN WITH THE SEED: the statements are not yours to turn. If you find one false, say at which input.
  Laid BY PROGRAM, IN A SANDBOX (cutbox-rows.mjs): the forced cells as the released guide's own fill.sh prints them over the translation 3e7e3a1a18a9af21… (all of the seat's roots in one cut). By AI agents, Wed Nov 11 2026. No macro, syntax, notation, axiom, sorry.
-/
import Derived.Test.YtdnjhipgfbhecaaChecked
import GoSem.Claim
import GoSem.ClaimJoined
import GoSem.ClaimMapViews
import Derived.JoinedTies
import Derived.KernelRfl
namespace Go.Proofs.Ytdnjhipgfbhecaa
/- THE CELL 'sum', in the pinned program and in every row, IS THE sha256 OF THE DUMP (.gsa) THAT YtdnjhipgfbhecaaProg.lean LOADS. Nothing in Lean hashes anything: it is a label: what it is worth is what the hold of that sum in a sandbox is worth. -/
noncomputable def Try.pinned : Pinned := { name := "ytdnjhipgfbhecaa", sum := "3e7e3a1a18a9af21fc10448c2022784c4135f0ebd1d72e794a38eac5ecd99ff2", checked := Try.checked }
namespace Rows
def none {H : Type} : Left H := { results := [], args := [] }

/-- 'depotlaw6.ChainRuns': WHATEVER THE INPUT: true; the input reads as it did. -/
def chainRunsSpec : ChangeSpec := { name := "chainRuns", fn := fun _ => fun
  | [] => { results := [.lit (.bool true)], args := [] }
  | _ => none }
def chainRunsRow : OpenClaim := { program := "ytdnjhipgfbhecaa", sum := "3e7e3a1a18a9af21fc10448c2022784c4135f0ebd1d72e794a38eac5ecd99ff2", func := "depot/depotlaw6.ChainRuns", spec := "chainRuns", apart := false }
def ChainRunsSaid : Prop := chainRunsRow.holds Try.pinned (OpenSpec.ofChange chainRunsSpec)

/-- ITS FALSE NEIGHBOUR: 'it returns false'. Refute it at one input. -/
def chainRunsWrong : ChangeSpec := { name := "chainRuns", fn := fun _ => fun
  | [] => { results := [.lit (.bool false)], args := [] }
  | _ => none }
def ChainRunsWrongFalsely : Prop := chainRunsRow.holds Try.pinned (OpenSpec.ofChange chainRunsWrong)

/-- 'depotlaw6.ChainHashes': WHATEVER THE INPUT: true; the input reads as it did. -/
def chainHashesSpec : ChangeSpec := { name := "chainHashes", fn := fun _ => fun
  | [d1, d2] => { results := [.lit (.bool true)], args := [d1, d2] }
  | _ => none }
def chainHashesRow : OpenClaim := { program := "ytdnjhipgfbhecaa", sum := "3e7e3a1a18a9af21fc10448c2022784c4135f0ebd1d72e794a38eac5ecd99ff2", func := "depot/depotlaw6.ChainHashes", spec := "chainHashes", apart := false }
def ChainHashesSaid : Prop := chainHashesRow.holds Try.pinned (OpenSpec.ofChange chainHashesSpec)

/-- ITS FALSE NEIGHBOUR: 'it returns false'. Refute it at one input. -/
def chainHashesWrong : ChangeSpec := { name := "chainHashes", fn := fun _ => fun
  | [d1, d2] => { results := [.lit (.bool false)], args := [d1, d2] }
  | _ => none }
def ChainHashesWrongFalsely : Prop := chainHashesRow.holds Try.pinned (OpenSpec.ofChange chainHashesWrong)

/-- 'depotlaw6.ChainGrows': WHATEVER THE INPUT: true; the input reads as it did. -/
def chainGrowsSpec : ChangeSpec := { name := "chainGrows", fn := fun _ => fun
  | [d] => { results := [.lit (.bool true)], args := [d] }
  | _ => none }
def chainGrowsRow : OpenClaim := { program := "ytdnjhipgfbhecaa", sum := "3e7e3a1a18a9af21fc10448c2022784c4135f0ebd1d72e794a38eac5ecd99ff2", func := "depot/depotlaw6.ChainGrows", spec := "chainGrows", apart := false }
def ChainGrowsSaid : Prop := chainGrowsRow.holds Try.pinned (OpenSpec.ofChange chainGrowsSpec)

/-- ITS FALSE NEIGHBOUR: 'it returns false'. Refute it at one input. -/
def chainGrowsWrong : ChangeSpec := { name := "chainGrows", fn := fun _ => fun
  | [d] => { results := [.lit (.bool false)], args := [d] }
  | _ => none }
def ChainGrowsWrongFalsely : Prop := chainGrowsRow.holds Try.pinned (OpenSpec.ofChange chainGrowsWrong)

/-- 'depotlaw6.ChainPlays': WHATEVER THE INPUT: true; the input reads as it did. -/
def chainPlaysSpec : ChangeSpec := { name := "chainPlays", fn := fun _ => fun
  | [d] => { results := [.lit (.bool true)], args := [d] }
  | _ => none }
def chainPlaysRow : OpenClaim := { program := "ytdnjhipgfbhecaa", sum := "3e7e3a1a18a9af21fc10448c2022784c4135f0ebd1d72e794a38eac5ecd99ff2", func := "depot/depotlaw6.ChainPlays", spec := "chainPlays", apart := false }
def ChainPlaysSaid : Prop := chainPlaysRow.holds Try.pinned (OpenSpec.ofChange chainPlaysSpec)

/-- ITS FALSE NEIGHBOUR: 'it returns false'. Refute it at one input. -/
def chainPlaysWrong : ChangeSpec := { name := "chainPlays", fn := fun _ => fun
  | [d] => { results := [.lit (.bool false)], args := [d] }
  | _ => none }
def ChainPlaysWrongFalsely : Prop := chainPlaysRow.holds Try.pinned (OpenSpec.ofChange chainPlaysWrong)

/-- 'depotlaw6.ChainMap': WHATEVER THE INPUT: true; the input reads as it did. -/
def chainMapSpec : ChangeSpec := { name := "chainMap", fn := fun _ => fun
  | [d1, d2] => { results := [.lit (.bool true)], args := [d1, d2] }
  | _ => none }
def chainMapRow : OpenClaim := { program := "ytdnjhipgfbhecaa", sum := "3e7e3a1a18a9af21fc10448c2022784c4135f0ebd1d72e794a38eac5ecd99ff2", func := "depot/depotlaw6.ChainMap", spec := "chainMap", apart := false }
def ChainMapSaid : Prop := chainMapRow.holds Try.pinned (OpenSpec.ofChange chainMapSpec)

/-- ITS FALSE NEIGHBOUR: 'it returns false'. Refute it at one input. -/
def chainMapWrong : ChangeSpec := { name := "chainMap", fn := fun _ => fun
  | [d1, d2] => { results := [.lit (.bool false)], args := [d1, d2] }
  | _ => none }
def ChainMapWrongFalsely : Prop := chainMapRow.holds Try.pinned (OpenSpec.ofChange chainMapWrong)

/-- 'depotlaw6.ChainTwins': WHATEVER THE INPUT: true; the input reads as it did. -/
def chainTwinsSpec : ChangeSpec := { name := "chainTwins", fn := fun _ => fun
  | [d1, d2] => { results := [.lit (.bool true)], args := [d1, d2] }
  | _ => none }
def chainTwinsRow : OpenClaim := { program := "ytdnjhipgfbhecaa", sum := "3e7e3a1a18a9af21fc10448c2022784c4135f0ebd1d72e794a38eac5ecd99ff2", func := "depot/depotlaw6.ChainTwins", spec := "chainTwins", unfollowed := true, recurses := true, apart := false }
def ChainTwinsSaid : Prop := chainTwinsRow.holds Try.pinned (OpenSpec.ofChange chainTwinsSpec)

/-- ITS FALSE NEIGHBOUR: 'it returns false'. Refute it at one input. -/
def chainTwinsWrong : ChangeSpec := { name := "chainTwins", fn := fun _ => fun
  | [d1, d2] => { results := [.lit (.bool false)], args := [d1, d2] }
  | _ => none }
def ChainTwinsWrongFalsely : Prop := chainTwinsRow.holds Try.pinned (OpenSpec.ofChange chainTwinsWrong)

/- THE SECOND FORM. 'bulk': how many values and letters a reading holds, each counted each time it is reached (what is shared counts as often as it is met; a slice's spare places count too). A statement '..UptoSaid' is the law's where the arguments, and the package variables that the reading takes, are together of bulk at most 1048576: NARROWER than '..Said'. Prove '..Said' where nothing that the law and all that it calls make is longer than what came in: it says more and counts as full. Else prove '..UptoSaid'. A law counts once. -/
mutual
def uptoBulk {H : Type} : DataW H → Nat
  | .lit (.string bytes) => bytes.length + 1
  | .lit _ => 1
  | .nil => 1
  | .ptr d => uptoBulk d + 1
  | .slice elems spare => uptoBulkAll elems + uptoBulkAll spare + 1
  | .agg parts => uptoBulkAll parts + 1
  | .iface _ d => uptoBulk d + 1
  | .map entries => uptoBulkEntries entries + 1
  | .held _ => 1
def uptoBulkAll {H : Type} : List (DataW H) → Nat
  | [] => 0
  | d :: r => uptoBulk d + uptoBulkAll r
def uptoBulkEntries {H : Type} : List (Lit × DataW H) → Nat
  | [] => 0
  | x :: r => uptoBulkEntry x + uptoBulkEntries r
def uptoBulkEntry {H : Type} : Lit × DataW H → Nat
  | (.string bytes, d) => bytes.length + uptoBulk d + 1
  | (_, d) => uptoBulk d + 1
 end
def uptoSmall : (H : Type) → List (DataW H) → Bool := fun _ ds => decide (uptoBulkAll ds ≤ 1048576)
def OpenSpec.upto (s : _root_.Go.ChangeSpec) : _root_.Go.OpenSpec := { _root_.Go.OpenSpec.ofChange s with cond := some uptoSmall }

/-- 'depotlaw6.ChainRuns', WHERE WHAT IT READS IS OF BULK AT MOST 1048576: true; the input reads as it did. -/
def chainRunsUptoRow : OpenClaim := { program := "ytdnjhipgfbhecaa", sum := "3e7e3a1a18a9af21fc10448c2022784c4135f0ebd1d72e794a38eac5ecd99ff2", func := "depot/depotlaw6.ChainRuns", spec := "chainRuns", apart := false, narrowed := true }
def ChainRunsUptoSaid : Prop := chainRunsUptoRow.holds Try.pinned (OpenSpec.upto chainRunsSpec)

/-- 'depotlaw6.ChainHashes', WHERE WHAT IT READS IS OF BULK AT MOST 1048576: true; the input reads as it did. -/
def chainHashesUptoRow : OpenClaim := { program := "ytdnjhipgfbhecaa", sum := "3e7e3a1a18a9af21fc10448c2022784c4135f0ebd1d72e794a38eac5ecd99ff2", func := "depot/depotlaw6.ChainHashes", spec := "chainHashes", apart := false, narrowed := true }
def ChainHashesUptoSaid : Prop := chainHashesUptoRow.holds Try.pinned (OpenSpec.upto chainHashesSpec)

/-- 'depotlaw6.ChainGrows', WHERE WHAT IT READS IS OF BULK AT MOST 1048576: true; the input reads as it did. -/
def chainGrowsUptoRow : OpenClaim := { program := "ytdnjhipgfbhecaa", sum := "3e7e3a1a18a9af21fc10448c2022784c4135f0ebd1d72e794a38eac5ecd99ff2", func := "depot/depotlaw6.ChainGrows", spec := "chainGrows", apart := false, narrowed := true }
def ChainGrowsUptoSaid : Prop := chainGrowsUptoRow.holds Try.pinned (OpenSpec.upto chainGrowsSpec)

/-- 'depotlaw6.ChainPlays', WHERE WHAT IT READS IS OF BULK AT MOST 1048576: true; the input reads as it did. -/
def chainPlaysUptoRow : OpenClaim := { program := "ytdnjhipgfbhecaa", sum := "3e7e3a1a18a9af21fc10448c2022784c4135f0ebd1d72e794a38eac5ecd99ff2", func := "depot/depotlaw6.ChainPlays", spec := "chainPlays", apart := false, narrowed := true }
def ChainPlaysUptoSaid : Prop := chainPlaysUptoRow.holds Try.pinned (OpenSpec.upto chainPlaysSpec)

/-- 'depotlaw6.ChainMap', WHERE WHAT IT READS IS OF BULK AT MOST 1048576: true; the input reads as it did. -/
def chainMapUptoRow : OpenClaim := { program := "ytdnjhipgfbhecaa", sum := "3e7e3a1a18a9af21fc10448c2022784c4135f0ebd1d72e794a38eac5ecd99ff2", func := "depot/depotlaw6.ChainMap", spec := "chainMap", apart := false, narrowed := true }
def ChainMapUptoSaid : Prop := chainMapUptoRow.holds Try.pinned (OpenSpec.upto chainMapSpec)

/-- 'depotlaw6.ChainTwins', WHERE WHAT IT READS IS OF BULK AT MOST 1048576: true; the input reads as it did. -/
def chainTwinsUptoRow : OpenClaim := { program := "ytdnjhipgfbhecaa", sum := "3e7e3a1a18a9af21fc10448c2022784c4135f0ebd1d72e794a38eac5ecd99ff2", func := "depot/depotlaw6.ChainTwins", spec := "chainTwins", unfollowed := true, recurses := true, apart := false, narrowed := true }
def ChainTwinsUptoSaid : Prop := chainTwinsUptoRow.holds Try.pinned (OpenSpec.upto chainTwinsSpec)

end Rows
end Go.Proofs.Ytdnjhipgfbhecaa
