/- Contracts of chapter 9: what may be a frame. -/
import Derived.Test.YtnjpfjdnidekgaaBack
import Derived.Test.YtnjpfjdnidekgaaAbsR
namespace Go.Proofs.Ytnjpfjdnidekgaa
open Go Go.YtnjpfjdnidekgaaAbs
set_option linter.unusedSimpArgs false
set_option linter.unusedVariables false
set_option maxRecDepth 4000

structure Fr where
  kind : Int
  slot : Int
  inc : Int
  rid : Int
  floor : Int
  role : Int
  key : ByteArray
  ver : Int
  data : ByteArray
/-- A frame's cells. -/
def Fr.c (f : Fr) : List AV := [.int .i64 f.kind, .int .i64 f.slot, .int .i64 f.inc, .int .i64 f.rid, .int .i64 f.floor, .int .i64 f.role, .str f.key, .int .i64 f.ver, .str f.data]
def roleR (kd r : Int) : Prop := ((kd = 4 ∨ kd = 5 ∨ kd = 7) ∧ r = 0) ∨ (kd = 6 ∧ (r = 0 ∨ r = 1 ∨ r = 2)) ∨ (¬ (kd = 4 ∨ kd = 5 ∨ kd = 6 ∨ kd = 7) ∧ (r = 1 ∨ r = 2))
instance (kd r : Int) : Decidable (roleR kd r) := by unfold roleR; infer_instance
abbrev maxR : Int := 1099511627776
def Fr.nums (f : Fr) : Prop := (0 ≤ f.inc ∧ f.inc ≤ 1099511627776) ∧ (0 ≤ f.rid ∧ f.rid ≤ 1099511627776) ∧ (0 ≤ f.floor ∧ f.floor ≤ 1099511627776) ∧ (0 ≤ f.ver ∧ f.ver ≤ 1099511627776)
def Fr.R (f : Fr) : Prop := (1 ≤ f.kind ∧ f.kind ≤ 7) ∧ (0 ≤ f.slot ∧ f.slot ≤ 11) ∧ roleR f.kind f.role ∧ f.nums ∧ f.key.size ≤ 250 ∧ f.data.size ≤ 1049600
instance (f : Fr) : Decidable f.nums := by unfold Fr.nums; infer_instance
instance (f : Fr) : Decidable f.R := by unfold Fr.R; infer_instance

theorem wWithin_ok (k : Nat) (a m : Int) (h : Heap) : acall Try.prog (k + 1) 28 [.int .i64 a, .int .i64 m] h = some (.bool (decide (0 ≤ a ∧ a ≤ m)), h) := by
  rw [acall_text [] Try.func28 (by kernel_rfl)]
  refine afuncT_of rfl (by simp [Try.f28]) ?_
  by_cases h0 : 0 ≤ a
  · by_cases h1 : a ≤ m
    · simp [Try.f28, isLe h0, isLe h1, h0, h1]
    · simp [Try.f28, isLe h0, isLt (show m < a by omega), h0, h1]
  · simp [Try.f28, isLt (show a < 0 by omega), h0]
theorem wRole_ok (k : Nat) (a r : Int) (h : Heap) : acall Try.prog (k + 1) 29 [.int .i64 a, .int .i64 r] h = some (.bool (decide (roleR a r)), h) := by
  rw [acall_text [] Try.func29 (by kernel_rfl)]
  refine afuncT_of rfl (by simp [Try.f29]) ?_
  by_cases h4 : a = 4
  · simp [Try.f29, h4, roleR]
  · by_cases h5 : a = 5
    · simp [Try.f29, h5, roleR]
    · by_cases h7 : a = 7
      · simp [Try.f29, h7, roleR]
      · by_cases r1 : r = 1
        · by_cases h6 : a = 6
          · simp [Try.f29, h6, roleR, r1]
          · simp [Try.f29, h4, h5, h6, h7, roleR, r1]
        · by_cases r2 : r = 2
          · by_cases h6 : a = 6
            · simp [Try.f29, h6, roleR, r2]
            · simp [Try.f29, h4, h5, h6, h7, roleR, r2]
          · by_cases h6 : a = 6
            · by_cases r0 : r = 0
              · simp [Try.f29, h6, roleR, r0]
              · simp [Try.f29, h6, roleR, r0, r1, r2]
            · simp [Try.f29, h4, h5, h6, h7, roleR, r1, r2]
/-- What stands in a frame's block. -/
theorem fr_ld {h : Heap} {b : Nat} {f : Fr} {ro : Bool} (g : h.get b = some (.cells f.c ro)) :
    aload Try.prog h 3 b 0 = some (.int .i64 f.kind) ∧ aload Try.prog h 3 b 1 = some (.int .i64 f.slot) ∧ aload Try.prog h 3 b 2 = some (.int .i64 f.inc) ∧
    aload Try.prog h 3 b 3 = some (.int .i64 f.rid) ∧ aload Try.prog h 3 b 4 = some (.int .i64 f.floor) ∧ aload Try.prog h 3 b 5 = some (.int .i64 f.role) ∧
    aload Try.prog h 9 b 6 = some (.str f.key) ∧ aload Try.prog h 3 b 7 = some (.int .i64 f.ver) ∧ aload Try.prog h 9 b 8 = some (.str f.data) ∧ aload Try.prog h 25 b 0 = some (.agg f.c) :=
  ⟨ldc g ta3 rfl, ldc g ta3 rfl, ldc g ta3 rfl, ldc g ta3 rfl, ldc g ta3 rfl, ldc g ta3 rfl, ldc g ta9 rfl, ldc g ta3 rfl, ldc g ta9 rfl,
    by simp [aload, Heap.row, g, ta25, ts25, Fr.c]⟩
theorem wRight_ok (k : Nat) (h : Heap) (f : Fr) (hk : f.key.size ≤ maxLen) (hd : f.data.size ≤ maxLen) :
    ∃ v' h', acall Try.prog (k + 2) 15 [.agg f.c] h = some (v', h') ∧ v' = .bool (decide f.R) ∧ Keep h.next nob h h' := by
  have rw1 : (AV.agg f.c).row1 = some f.c := rfl
  have g1 : (h.new (.cells f.c false)).get h.next = some (.cells f.c false) := get_new_self _ _
  have L := fr_ld g1
  have K1 : Keep h.next nob h (h.new (.cells f.c false)) := Keep.new (Nat.le_refl _) _
  have wiT := fun a m (q : 0 ≤ a ∧ a ≤ m) => (wWithin_ok k a m (h.new (.cells f.c false))).trans (by rw [decide_eq_true q])
  have wiF := fun a m (q : ¬ (0 ≤ a ∧ a ≤ m)) => (wWithin_ok k a m (h.new (.cells f.c false))).trans (by rw [decide_eq_false q])
  have wrT := fun (q : roleR f.kind f.role) => (wRole_ok k f.kind f.role (h.new (.cells f.c false))).trans (by rw [decide_eq_true q])
  have wrF := fun (q : ¬ roleR f.kind f.role) => (wRole_ok k f.kind f.role (h.new (.cells f.c false))).trans (by rw [decide_eq_false q])
  rw [acall_text [] Try.func15 (by kernel_rfl)]
  refine afuncT_ex rfl (by simp [Try.f15]) ?_
  simp [Try.f15, rw1]
  generalize h.new (.cells f.c false) = h1 at *
  by_cases c1 : f.kind < 1
  · have hR : decide f.R = false := decide_eq_false fun q => by unfold Fr.R Fr.nums at q; omega
    simp [L, isLt c1, hR]
    exact K1
  by_cases c2 : 7 < f.kind
  · have hR : decide f.R = false := decide_eq_false fun q => by unfold Fr.R Fr.nums at q; omega
    simp [L, isLe (show 1 ≤ f.kind by omega), isLt c2, hR]
    exact K1
  by_cases c3 : 0 ≤ f.slot ∧ f.slot ≤ 11
  rotate_left
  · have hR : decide f.R = false := decide_eq_false fun q => by unfold Fr.R Fr.nums at q; omega
    simp [L, isLe (show 1 ≤ f.kind by omega), isLe (show f.kind ≤ 7 by omega), wiF _ _ c3, hR]
    exact K1
  by_cases c4 : roleR f.kind f.role
  rotate_left
  · have hR : decide f.R = false := decide_eq_false fun q => c4 q.2.2.1
    simp [L, isLe (show 1 ≤ f.kind by omega), isLe (show f.kind ≤ 7 by omega), wiT _ _ c3, wrF c4, hR]
    exact K1
  by_cases c5 : 0 ≤ f.inc ∧ f.inc ≤ 1099511627776
  rotate_left
  · have hR : decide f.R = false := decide_eq_false fun q => by unfold Fr.R Fr.nums at q; omega
    simp [L, isLe (show 1 ≤ f.kind by omega), isLe (show f.kind ≤ 7 by omega), wiT _ _ c3, wrT c4, wiF _ _ c5, hR]
    exact K1
  by_cases c6 : 0 ≤ f.rid ∧ f.rid ≤ 1099511627776
  rotate_left
  · have hR : decide f.R = false := decide_eq_false fun q => by unfold Fr.R Fr.nums at q; omega
    simp [L, isLe (show 1 ≤ f.kind by omega), isLe (show f.kind ≤ 7 by omega), wiT _ _ c3, wrT c4, wiT _ _ c5, wiF _ _ c6, hR]
    exact K1
  by_cases c7 : 0 ≤ f.floor ∧ f.floor ≤ 1099511627776
  rotate_left
  · have hR : decide f.R = false := decide_eq_false fun q => by unfold Fr.R Fr.nums at q; omega
    simp [L, isLe (show 1 ≤ f.kind by omega), isLe (show f.kind ≤ 7 by omega), wiT _ _ c3, wrT c4, wiT _ _ c5, wiT _ _ c6, wiF _ _ c7, hR]
    exact K1
  by_cases c8 : 0 ≤ f.ver ∧ f.ver ≤ 1099511627776
  rotate_left
  · have hR : decide f.R = false := decide_eq_false fun q => by unfold Fr.R Fr.nums at q; omega
    simp [L, isLe (show 1 ≤ f.kind by omega), isLe (show f.kind ≤ 7 by omega), wiT _ _ c3, wrT c4, wiT _ _ c5, wiT _ _ c6, wiT _ _ c7, wiF _ _ c8, hR]
    exact K1
  by_cases c9 : f.key.size ≤ 250
  rotate_left
  · have hR : decide f.R = false := decide_eq_false fun q => by unfold Fr.R Fr.nums at q; omega
    simp [L, isLe (show 1 ≤ f.kind by omega), isLe (show f.kind ≤ 7 by omega), wiT _ _ c3, wrT c4, wiT _ _ c5, wiT _ _ c6, wiT _ _ c7, wiT _ _ c8, isLt (show (250 : Int) < (f.key.size : Int) by omega), hR]
    exact K1
  by_cases c10 : f.data.size ≤ 1049600
  rotate_left
  · have hR : decide f.R = false := decide_eq_false fun q => by unfold Fr.R Fr.nums at q; omega
    simp [L, isLe (show 1 ≤ f.kind by omega), isLe (show f.kind ≤ 7 by omega), wiT _ _ c3, wrT c4, wiT _ _ c5, wiT _ _ c6, wiT _ _ c7, wiT _ _ c8, isLe (show (f.key.size : Int) ≤ 250 by omega), isLt (show (1049600 : Int) < (f.data.size : Int) by omega), hR]
    exact K1
  have hR : decide f.R = true := decide_eq_true ⟨⟨by omega, by omega⟩, c3, c4, ⟨c5, c6, c7, c8⟩, c9, c10⟩
  simp [L, isLe (show 1 ≤ f.kind by omega), isLe (show f.kind ≤ 7 by omega), wiT _ _ c3, wrT c4, wiT _ _ c5, wiT _ _ c6, wiT _ _ c7, wiT _ _ c8, isLe (show (f.key.size : Int) ≤ 250 by omega), isLe (show (f.data.size : Int) ≤ 1049600 by omega), hR]
  exact K1
theorem rRight_ok (k : Nat) (h : Heap) (f : Fr) (hk : f.key.size ≤ maxLen) (hd : f.data.size ≤ maxLen) :
    ∃ v' h', acall Try.prog (k + 1) 10 [.agg f.c] h = some (v', h') ∧ v' = .bool (decide f.R) ∧ Keep h.next nob h h' := by
  have rw1 : (AV.agg f.c).row1 = some f.c := rfl
  have g1 : (h.new (.cells f.c false)).get h.next = some (.cells f.c false) := get_new_self _ _
  have L := fr_ld g1
  have K1 : Keep h.next nob h (h.new (.cells f.c false)) := Keep.new (Nat.le_refl _) _
  rw [acall_text [] Try.func10 (by kernel_rfl)]
  refine afuncT_ex rfl (by simp [Try.f10]) ?_
  simp [Try.f10, rw1]
  generalize h.new (.cells f.c false) = h1 at *
  by_cases c1 : f.kind < 1
  · have hR : decide f.R = false := decide_eq_false fun q => by unfold Fr.R Fr.nums at q; omega
    simp [L, isLt (show f.kind < 1 by omega), hR]
    exact K1
  by_cases c2 : 7 < f.kind
  · have hR : decide f.R = false := decide_eq_false fun q => by unfold Fr.R Fr.nums at q; omega
    simp [L, isLe (show 1 ≤ f.kind by omega), isLt (show 7 < f.kind by omega), hR]
    exact K1
  by_cases c3 : f.slot < 0
  · have hR : decide f.R = false := decide_eq_false fun q => by unfold Fr.R Fr.nums at q; omega
    simp [L, isLe (show 1 ≤ f.kind by omega), isLe (show f.kind ≤ 7 by omega), isLt (show f.slot < 0 by omega), hR]
    exact K1
  by_cases c4 : 12 ≤ f.slot
  · have hR : decide f.R = false := decide_eq_false fun q => by unfold Fr.R Fr.nums at q; omega
    simp [L, isLe (show 1 ≤ f.kind by omega), isLe (show f.kind ≤ 7 by omega), isLe (show 0 ≤ f.slot by omega), isLe (show 12 ≤ f.slot by omega), hR]
    exact K1
  by_cases c5 : f.inc < 0
  · have hR : decide f.R = false := decide_eq_false fun q => by unfold Fr.R Fr.nums at q; omega
    simp [L, isLe (show 1 ≤ f.kind by omega), isLe (show f.kind ≤ 7 by omega), isLe (show 0 ≤ f.slot by omega), isLt (show f.slot < 12 by omega), isLt (show f.inc < 0 by omega), hR]
    exact K1
  by_cases c6 : 1099511627776 < f.inc
  · have hR : decide f.R = false := decide_eq_false fun q => by unfold Fr.R Fr.nums at q; omega
    simp [L, isLe (show 1 ≤ f.kind by omega), isLe (show f.kind ≤ 7 by omega), isLe (show 0 ≤ f.slot by omega), isLt (show f.slot < 12 by omega), isLe (show 0 ≤ f.inc by omega), isLt (show 1099511627776 < f.inc by omega), hR]
    exact K1
  by_cases c7 : f.rid < 0
  · have hR : decide f.R = false := decide_eq_false fun q => by unfold Fr.R Fr.nums at q; omega
    simp [L, isLe (show 1 ≤ f.kind by omega), isLe (show f.kind ≤ 7 by omega), isLe (show 0 ≤ f.slot by omega), isLt (show f.slot < 12 by omega), isLe (show 0 ≤ f.inc by omega), isLe (show f.inc ≤ 1099511627776 by omega), isLt (show f.rid < 0 by omega), hR]
    exact K1
  by_cases c8 : 1099511627776 < f.rid
  · have hR : decide f.R = false := decide_eq_false fun q => by unfold Fr.R Fr.nums at q; omega
    simp [L, isLe (show 1 ≤ f.kind by omega), isLe (show f.kind ≤ 7 by omega), isLe (show 0 ≤ f.slot by omega), isLt (show f.slot < 12 by omega), isLe (show 0 ≤ f.inc by omega), isLe (show f.inc ≤ 1099511627776 by omega), isLe (show 0 ≤ f.rid by omega), isLt (show 1099511627776 < f.rid by omega), hR]
    exact K1
  by_cases c9 : f.floor < 0
  · have hR : decide f.R = false := decide_eq_false fun q => by unfold Fr.R Fr.nums at q; omega
    simp [L, isLe (show 1 ≤ f.kind by omega), isLe (show f.kind ≤ 7 by omega), isLe (show 0 ≤ f.slot by omega), isLt (show f.slot < 12 by omega), isLe (show 0 ≤ f.inc by omega), isLe (show f.inc ≤ 1099511627776 by omega), isLe (show 0 ≤ f.rid by omega), isLe (show f.rid ≤ 1099511627776 by omega), isLt (show f.floor < 0 by omega), hR]
    exact K1
  by_cases c10 : 1099511627776 < f.floor
  · have hR : decide f.R = false := decide_eq_false fun q => by unfold Fr.R Fr.nums at q; omega
    simp [L, isLe (show 1 ≤ f.kind by omega), isLe (show f.kind ≤ 7 by omega), isLe (show 0 ≤ f.slot by omega), isLt (show f.slot < 12 by omega), isLe (show 0 ≤ f.inc by omega), isLe (show f.inc ≤ 1099511627776 by omega), isLe (show 0 ≤ f.rid by omega), isLe (show f.rid ≤ 1099511627776 by omega), isLe (show 0 ≤ f.floor by omega), isLt (show 1099511627776 < f.floor by omega), hR]
    exact K1
  by_cases c11 : 250 < (f.key.size : Int)
  · have hR : decide f.R = false := decide_eq_false fun q => by unfold Fr.R Fr.nums at q; omega
    simp [L, isLe (show 1 ≤ f.kind by omega), isLe (show f.kind ≤ 7 by omega), isLe (show 0 ≤ f.slot by omega), isLt (show f.slot < 12 by omega), isLe (show 0 ≤ f.inc by omega), isLe (show f.inc ≤ 1099511627776 by omega), isLe (show 0 ≤ f.rid by omega), isLe (show f.rid ≤ 1099511627776 by omega), isLe (show 0 ≤ f.floor by omega), isLe (show f.floor ≤ 1099511627776 by omega), isLt (show 250 < (f.key.size : Int) by omega), hR]
    exact K1
  by_cases c12 : 1049600 < (f.data.size : Int)
  · have hR : decide f.R = false := decide_eq_false fun q => by unfold Fr.R Fr.nums at q; omega
    simp [L, isLe (show 1 ≤ f.kind by omega), isLe (show f.kind ≤ 7 by omega), isLe (show 0 ≤ f.slot by omega), isLt (show f.slot < 12 by omega), isLe (show 0 ≤ f.inc by omega), isLe (show f.inc ≤ 1099511627776 by omega), isLe (show 0 ≤ f.rid by omega), isLe (show f.rid ≤ 1099511627776 by omega), isLe (show 0 ≤ f.floor by omega), isLe (show f.floor ≤ 1099511627776 by omega), isLe (show (f.key.size : Int) ≤ 250 by omega), isLt (show 1049600 < (f.data.size : Int) by omega), hR]
    exact K1
  by_cases c13 : f.ver < 0
  · have hR : decide f.R = false := decide_eq_false fun q => by unfold Fr.R Fr.nums at q; omega
    simp [L, isLe (show 1 ≤ f.kind by omega), isLe (show f.kind ≤ 7 by omega), isLe (show 0 ≤ f.slot by omega), isLt (show f.slot < 12 by omega), isLe (show 0 ≤ f.inc by omega), isLe (show f.inc ≤ 1099511627776 by omega), isLe (show 0 ≤ f.rid by omega), isLe (show f.rid ≤ 1099511627776 by omega), isLe (show 0 ≤ f.floor by omega), isLe (show f.floor ≤ 1099511627776 by omega), isLe (show (f.key.size : Int) ≤ 250 by omega), isLe (show (f.data.size : Int) ≤ 1049600 by omega), isLt (show f.ver < 0 by omega), hR]
    exact K1
  by_cases c14 : 1099511627776 < f.ver
  · have hR : decide f.R = false := decide_eq_false fun q => by unfold Fr.R Fr.nums at q; omega
    simp [L, isLe (show 1 ≤ f.kind by omega), isLe (show f.kind ≤ 7 by omega), isLe (show 0 ≤ f.slot by omega), isLt (show f.slot < 12 by omega), isLe (show 0 ≤ f.inc by omega), isLe (show f.inc ≤ 1099511627776 by omega), isLe (show 0 ≤ f.rid by omega), isLe (show f.rid ≤ 1099511627776 by omega), isLe (show 0 ≤ f.floor by omega), isLe (show f.floor ≤ 1099511627776 by omega), isLe (show (f.key.size : Int) ≤ 250 by omega), isLe (show (f.data.size : Int) ≤ 1049600 by omega), isLe (show 0 ≤ f.ver by omega), isLt (show 1099511627776 < f.ver by omega), hR]
    exact K1
  have hR : decide f.R = decide (roleR f.kind f.role) := by
    by_cases q : roleR f.kind f.role
    · rw [decide_eq_true q]
      exact decide_eq_true ⟨⟨by omega, by omega⟩, ⟨by omega, by omega⟩, q, ⟨⟨by omega, by omega⟩, ⟨by omega, by omega⟩, ⟨by omega, by omega⟩, ⟨by omega, by omega⟩⟩, by omega, by omega⟩
    · rw [decide_eq_false q]
      exact decide_eq_false fun z => q z.2.2.1
  rw [hR]
  simp [L, isLe (show 1 ≤ f.kind by omega), isLe (show f.kind ≤ 7 by omega), isLe (show 0 ≤ f.slot by omega), isLt (show f.slot < 12 by omega), isLe (show 0 ≤ f.inc by omega), isLe (show f.inc ≤ 1099511627776 by omega), isLe (show 0 ≤ f.rid by omega), isLe (show f.rid ≤ 1099511627776 by omega), isLe (show 0 ≤ f.floor by omega), isLe (show f.floor ≤ 1099511627776 by omega), isLe (show (f.key.size : Int) ≤ 250 by omega), isLe (show (f.data.size : Int) ≤ 1049600 by omega), isLe (show 0 ≤ f.ver by omega), isLe (show f.ver ≤ 1099511627776 by omega)]
  unfold roleR
  by_cases h4 : f.kind = 4
  · simp [h4, L]; exact K1
  · by_cases h5 : f.kind = 5
    · simp [h5, L]; exact K1
    · by_cases h7 : f.kind = 7
      · simp [h7, L]; exact K1
      · by_cases r1 : f.role = 1
        · simp [h4, h5, h7, L, r1]; exact K1
        · by_cases r2 : f.role = 2
          · simp [h4, h5, h7, L, r2]; exact K1
          · by_cases h6 : f.kind = 6
            · simp [h6, L, r1, r2]; exact K1
            · simp [h4, h5, h6, h7, L, r1, r2]; exact K1
end Go.Proofs.Ytnjpfjdnidekgaa
