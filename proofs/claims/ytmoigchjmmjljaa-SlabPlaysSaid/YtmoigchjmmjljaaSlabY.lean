/- Contracts of slab: Alloc of too much, Free of what isn't live. -/
import Derived.Test.YtmoigchjmmjljaaSlabX
namespace Go.Proofs.Ytmoigchjmmjljaa
open Go Go.YtmoigchjmmjljaaAbs
set_option linter.unusedSimpArgs false
set_option linter.unusedVariables false
set_option maxRecDepth 4000

theorem alloc_long (k : Nat) (hk : 70000 < k) (h : Heap) (b : Nat) (s : Sb) (vc : AV) (O : SlO h b s vc) (hl : s.cls.length ≤ 20) (d : ByteArray) (hc : clsE (d.size : Nat) s.cls = none) :
    ∃ v' h', acall Try.prog (k + 2) 13 [.ptr b 0, .str d] h = some (v', h') ∧ v' = .tup [.agg [.int .i64 0, .int .i64 0], .int .i64 2] ∧ Keep h.next nob h h' := by
  obtain ⟨h1, e1⟩ : ∃ h1, h.new (.cells [.int .i64 0, .int .i64 0] false) = h1 := ⟨_, rfl⟩
  have k1 : Keep h.next nob h h1 := by rw [← e1]; exact Keep.new (Nat.le_refl _) _
  have n1 : h.next < h1.next := by rw [← e1]; exact Nat.lt_succ_self _
  have g1 : h1.get h.next = some (.cells [.int .i64 0, .int .i64 0] false) := by rw [← e1]; exact get_new_self _ _
  obtain ⟨_, h2, E2, rfl, k2⟩ := class_ok k (by omega) h1 b s vc (O.ext k1) hl (d.size : Nat)
  have ecz : (if ((d.size : Nat) : Int) < 0 then (-1 : Int) else clsZ (d.size : Nat) s.cls) = -1 := by
    rw [if_neg (by omega)]; unfold clsZ; rw [hc]
  rw [ecz] at E2
  have K2 := k1.trans (k2.weak k1.1 fun _ _ q => q)
  have g2 : h2.get h.next = some (.cells [.int .i64 0, .int .i64 0] false) := (k2.2 _ n1 id).trans g1
  have rwH : (AV.agg [.int .i64 0, .int .i64 0]).row1 = some [.int .i64 0, .int .i64 0] := rfl
  have A8 : alay h2 h.next 0 [.int .i64 0, .int .i64 0] = some (h2.set h.next (.cells [.int .i64 0, .int .i64 0] false)) := by unfold alay; rw [g2]; rfl
  have g8 : (h2.set h.next (.cells [.int .i64 0, .int .i64 0] false)).get h.next = some (.cells [.int .i64 0, .int .i64 0] false) := get_set_self _ _ _
  have K8 : Keep h.next nob h (h2.set h.next (.cells [.int .i64 0, .int .i64 0] false)) := K2.trans (Keep.set (.inr (Nat.le_refl _)) _)
  generalize h2.set h.next (.cells [.int .i64 0, .int .i64 0] false) = h8 at *
  have l8 : aload Try.prog h8 34 h.next 0 = some (.agg [.int .i64 0, .int .i64 0]) := by simp [aload, Heap.row, g8, ta34, ts34]
  rw [acall_text [14] Try.func13 (by kernel_rfl)]
  refine afuncT_ex rfl (by simp [Try.f13]) ?_
  simp [Try.f13, e1, E2, afill, rwH, A8, l8]
  exact K8
theorem free_no (k : Nat) (hk : 70000 < k) (h : Heap) (b : Nat) (s : Sb) (vc : AV) (O : SlO h b s vc) (hl : s.cls.length ≤ 20) (ci ch : Int) (hr : readS s ci ch = none) :
    ∃ v' h', acall Try.prog (k + 2) 14 [.ptr b 0, .agg [.int .i64 ci, .int .i64 ch]] h = some (v', h') ∧ v' = .bool false ∧ Keep h.next nob h h' := by
  have rwH : (AV.agg [.int .i64 ci, .int .i64 ch]).row1 = some [.int .i64 ci, .int .i64 ch] := rfl
  obtain ⟨h1, e1⟩ : ∃ h1, h.new (.cells [.int .i64 ci, .int .i64 ch] false) = h1 := ⟨_, rfl⟩
  have k1 : Keep h.next nob h h1 := by rw [← e1]; exact Keep.new (Nat.le_refl _) _
  have g1 : h1.get h.next = some (.cells [.int .i64 ci, .int .i64 ch] false) := by rw [← e1]; exact get_new_self _ _
  have lH : aload Try.prog h1 34 h.next 0 = some (.agg [.int .i64 ci, .int .i64 ch]) := by simp [aload, Heap.row, g1, ta34, ts34]
  obtain ⟨_, h2, E2, rfl, k2⟩ := read_ok k h1 b s vc hk (O.ext k1) hl ci ch
  rw [hr] at E2
  have K2 := k1.trans (k2.weak k1.1 fun _ _ q => q)
  rw [acall_text [6] Try.func14 (by kernel_rfl)]
  refine afuncT_ex rfl (by simp [Try.f14]) ?_
  simp [Try.f14, rwH, e1, lH, E2]
  exact K2
end Go.Proofs.Ytmoigchjmmjljaa
