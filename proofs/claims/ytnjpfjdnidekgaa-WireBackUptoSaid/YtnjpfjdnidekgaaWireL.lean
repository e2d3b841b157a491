/- depotlaw9: frames as arguments, frames compared, light. -/
import Derived.Test.YtnjpfjdnidekgaaWireG
import Derived.Test.YtnjpfjdnidekgaaRoomy
import Derived.Test.YtnjpfjdnidekgaaBook
import Derived.Test.YtnjpfjdnidekgaaAbsQ
namespace Go.Proofs.Ytnjpfjdnidekgaa
open Go Go.YtnjpfjdnidekgaaAbs Go.RowKit
set_option linter.unusedSimpArgs false
set_option linter.unusedVariables false
set_option maxRecDepth 100000

deriving instance DecidableEq for Fr
abbrev FrT := Int × (Int × (Int × (Int × (Int × (Int × (ByteArray × (Int × (ByteArray × Unit))))))))
abbrev kFr : Kind FrT := kPair (kInt .i64) (kPair (kInt .i64) (kPair (kInt .i64) (kPair (kInt .i64) (kPair (kInt .i64) (kPair (kInt .i64) (kPair kStr (kPair (kInt .i64) (kPair kStr kNil))))))))
def frOf (x : FrT) : Fr := ⟨x.1, x.2.1, x.2.2.1, x.2.2.2.1, x.2.2.2.2.1, x.2.2.2.2.2.1, x.2.2.2.2.2.2.1, x.2.2.2.2.2.2.2.1, x.2.2.2.2.2.2.2.2.1⟩
theorem fr_arg {h : Heap} {c : List AV} {x : FrT} (l : c.length = kFr.sz) (w : kFr.rd h c x) : c = (frOf x).c ∧ (frOf x).key.size ≤ maxLen ∧ (frOf x).data.size ≤ maxLen := by
  have l : c.length = 9 := l
  match c, l with
  | [x0, x1, x2, x3, x4, x5, x6, x7, x8], _ =>
    obtain ⟨⟨e0, _⟩, ⟨e1, _⟩, ⟨e2, _⟩, ⟨e3, _⟩, ⟨e4, _⟩, ⟨e5, _⟩, ⟨e6, s6⟩, ⟨e7, _⟩, ⟨e8, s8⟩, _⟩ := w
    have e0 : [x0] = _ := e0
    have e1 : [x1] = _ := e1
    have e2 : [x2] = _ := e2
    have e3 : [x3] = _ := e3
    have e4 : [x4] = _ := e4
    have e5 : [x5] = _ := e5
    have e6 : [x6] = _ := e6
    have e7 : [x7] = _ := e7
    have e8 : [x8] = _ := e8
    rw [(List.cons.inj e0).1, (List.cons.inj e1).1, (List.cons.inj e2).1, (List.cons.inj e3).1, (List.cons.inj e4).1, (List.cons.inj e5).1, (List.cons.inj e6).1, (List.cons.inj e7).1, (List.cons.inj e8).1]
    exact ⟨rfl, s6, s8⟩
/-- Two frames are compared. -/
def Fr.vs (f : Fr) : List Value := [.int .i64 f.kind, .int .i64 f.slot, .int .i64 f.inc, .int .i64 f.rid, .int .i64 f.floor, .int .i64 f.role, .string f.key, .int .i64 f.ver, .string f.data]
theorem vals_fr (f : Fr) : vals? f.c = some f.vs := rfl
theorem same_fr (f : Fr) : sameAV (.agg f.c) (.agg f.c) = true := by simp [sameAV, sameAVs, Fr.c]
def Fr.eqp (f g : Fr) (o : Nat) : Bool := match o with
  | 0 => f.kind == g.kind
  | 1 => f.slot == g.slot
  | 2 => f.inc == g.inc
  | 3 => f.rid == g.rid
  | 4 => f.floor == g.floor
  | 5 => f.role == g.role
  | 6 => f.key == g.key
  | 7 => f.ver == g.ver
  | _ => f.data == g.data
theorem beqB (a b : ByteArray) : (a == b) = decide (a = b) := by
  obtain ⟨a⟩ := a
  obtain ⟨b⟩ := b
  have e : ((⟨a⟩ : ByteArray) == ⟨b⟩) = (a == b) := rfl
  rw [e]
  by_cases q : a = b
  · subst q; simp
  · have : ¬ (⟨a⟩ : ByteArray) = ⟨b⟩ := fun z => q (by injection z)
    rw [decide_eq_false this]
    simpa using q
theorem frame_eq (f g : Fr) : semPure Try.prog (Op.equal 25 (.agg ⟨f.vs⟩) (.agg ⟨g.vs⟩)) = some (decide (f = g)) := by
  unfold Op.equal Op.maxDepth
  rw [equal_struct (p := fun fl => Fr.eqp f g fl.offset) (d := 9999) Try.underlying25 (by kernel_rfl) (fun fl hf _ => ?_)]
  · congr 1
    obtain ⟨a0, a1, a2, a3, a4, a5, a6, a7, a8⟩ := f
    obtain ⟨b0, b1, b2, b3, b4, b5, b6, b7, b8⟩ := g
    have hi : ∀ a b : Int, (a == b) = decide (a = b) := fun a b => rfl
    simp [Fr.eqp, hi, beqB]
  simp only [List.mem_cons, List.not_mem_nil, or_false] at hf
  rcases hf with rfl | rfl | rfl | rfl | rfl | rfl | rfl | rfl | rfl
  all_goals first
    | exact ⟨_, _, part_basic (u := .int .i64) Try.underlying3 rfl rfl, part_basic (u := .int .i64) Try.underlying3 rfl rfl, equal_basic (u := .int .i64) Try.underlying3 rfl rfl _⟩
    | exact ⟨_, _, part_basic (u := .string) Try.underlying9 rfl rfl, part_basic (u := .string) Try.underlying9 rfl rfl, equal_basic (u := .string) Try.underlying9 rfl rfl _⟩
theorem aback_fr (f g : Fr) {t : Tr AV} {d : Option Tmp} {tv v : TypeId} {pos : String} {af : Array Edge} {gd : Option (Nat × Bool)} {i j : Nat} (hx : ev t (.tmp i) = .agg f.c) (hy : ev t (.tmp j) = .agg g.c) :
    aback0 Try.prog t ⟨d, .binOp .eql 25 (.tmp i) (.tmp j) tv, v, pos, af, gd⟩ = some (.bool (decide (f = g))) :=
  aback_eqS hx hy (vals_fr _) (vals_fr _) (by kernel_rfl) (frame_eq f g) .eql (.inl rfl)
theorem fr_new (h : Heap) (g : Fr) : ∃ h', alay (h.new (.cells [.int .i64 0, .int .i64 0, .int .i64 0, .int .i64 0, .int .i64 0, .int .i64 0, .str .empty, .int .i64 0, .str .empty] false)) h.next 0 g.c = some h' ∧ h'.get h.next = some (.cells g.c false) ∧ h.next < h'.next ∧ Keep h.next nob h h' :=
  ⟨(h.new (.cells [.int .i64 0, .int .i64 0, .int .i64 0, .int .i64 0, .int .i64 0, .int .i64 0, .str .empty, .int .i64 0, .str .empty] false)).set h.next (.cells g.c false), by unfold alay; rw [get_new_self]; rfl, get_set_self _ _ _, Nat.lt_succ_self _, (Keep.new (Nat.le_refl _) _).trans (Keep.set (.inr (Nat.le_refl _)) _)⟩
theorem light_ok (k : Nat) (h : Heap) (f : Fr) : ∃ v' h', acall Try.prog (k + 1) 9 [.agg f.c] h = some (v', h') ∧ (∃ B, v' = .bool B) ∧ Keep h.next nob h h' := by
  have rw1 : (AV.agg f.c).row1 = some f.c := rfl
  have g1 : (h.new (.cells f.c false)).get h.next = some (.cells f.c false) := get_new_self _ _
  have L := fr_ld g1
  have K1 : Keep h.next nob h (h.new (.cells f.c false)) := Keep.new (Nat.le_refl _) _
  rw [acall_text [] Try.func9 (by kernel_rfl)]
  refine afuncT_ex rfl (by simp [Try.f9]) ?_
  simp [Try.f9, rw1]
  generalize h.new (.cells f.c false) = h1 at *
  simp [L]
  exact ⟨by omega, K1⟩
end Go.Proofs.Ytnjpfjdnidekgaa
