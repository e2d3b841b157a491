/- Contracts of slab: Free. -/
import Derived.Test.YtmoigchjmmjljaaSlabF
namespace Go.Proofs.Ytmoigchjmmjljaa
open Go Go.YtmoigchjmmjljaaAbs
set_option linter.unusedSimpArgs false
set_option linter.unusedVariables false
set_option maxRecDepth 4000

set_option maxHeartbeats 1000000 in
theorem free_ok (k : Nat) (hk : 70000 < k) (h : Heap) (b : Nat) (s : Sb) (vc : AV) (O : SlO h b s vc) (hl : s.cls.length ≤ 20) {i K : Nat} {c : Cl} (hi : s.cls[i]? = some c) {y : Nat × ByteArray × Nat} (hy : lk K c.live = some y) (hfl : c.free.length ≤ 100000000) :
    ∃ v' h', acall Try.prog (k + 2) 14 [.ptr b 0, .agg [.int .i64 (i : Nat), .int .i64 (K : Nat)]] h = some (v', h') ∧ v' = .bool true ∧ ∃ (c2 : Cl), c2.size = c.size ∧ c2.free = c.free ++ [K] ∧ c2.count = c.count ∧ c2.live = c.live.eraseIdx y.1 ∧ c2.cl = c.cl ∧
      SlO h' b { s with cls := s.cls.set i c2 } vc ∧ (∀ e, e ∈ fpS b { s with cls := s.cls.set i c2 } vc → e ∈ fpS b s vc ∨ h.next ≤ e) ∧ Keep h.next (fun e => e ∈ fpS b s vc) h h' := by
  have hil := (List.getElem?_eq_some_iff.1 hi).1
  have rwH : (AV.agg [.int .i64 (i : Nat), .int .i64 (K : Nat)]).row1 = some [.int .i64 (i : Nat), .int .i64 (K : Nat)] := rfl
  obtain ⟨h1, e1⟩ : ∃ h1, h.new (.cells [.int .i64 (i : Nat), .int .i64 (K : Nat)] false) = h1 := ⟨_, rfl⟩
  have k1 : Keep h.next nob h h1 := by rw [← e1]; exact Keep.new (Nat.le_refl _) _
  have n1 : h.next < h1.next := by rw [← e1]; exact Nat.lt_succ_self _
  have g1 : h1.get h.next = some (.cells [.int .i64 (i : Nat), .int .i64 (K : Nat)] false) := by rw [← e1]; exact get_new_self _ _
  have lA := fun (h' : Heap) (g : h'.get h.next = some (.cells [.int .i64 (i : Nat), .int .i64 (K : Nat)] false)) => ldc (P := Try.prog) (ty := 3) g ta3 (i := 0) (x := .int .i64 (i : Nat)) rfl
  have lB := fun (h' : Heap) (g : h'.get h.next = some (.cells [.int .i64 (i : Nat), .int .i64 (K : Nat)] false)) => ldc (P := Try.prog) (ty := 3) g ta3 (i := 1) (x := .int .i64 (K : Nat)) rfl
  have lH : aload Try.prog h1 34 h.next 0 = some (.agg [.int .i64 (i : Nat), .int .i64 (K : Nat)]) := by simp [aload, Heap.row, g1, ta34, ts34]
  have O1 := O.ext k1
  have hyI : lkI (K : Int) c.live = some y := by unfold lkI; rw [if_pos (by omega), Int.toNat_natCast]; exact hy
  obtain ⟨_, h2, E2, rfl, k2⟩ := read_ok k h1 b s vc hk O1 hl (i : Nat) (K : Nat)
  have hr : readS s (i : Nat) (K : Nat) = some y := by unfold readS; rw [if_neg (by omega), Int.toNat_natCast, hi]; exact hyI
  rw [hr] at E2
  have O2 := O1.ext k2
  have K2 := k1.trans (k2.weak k1.1 fun _ _ q => q)
  have n2 : h.next < h2.next := Nat.lt_of_lt_of_le n1 k2.1
  have g2 := (k2.2 _ n1 id).trans g1
  have lA2 := lA h2 g2
  have lB2 := lB h2 g2
  have l32 := O2.ld3 (ty := 61) ta61
  have ix2 := O2.own.sl.idx (P := Try.prog) Try.underlying61 ts66 (j := i) hil .i64
  have lm2 := O2.ldc hi (o := 2) (x := .mp c.mb) (by omega) rfl (ty := 64) ta64
  have E3 := mapDel_me (O2.live c (List.mem_of_getElem? hi)).1 hyI
  obtain ⟨O3, fp3, K3⟩ := O2.updM hi (c.live.eraseIdx y.1) c.cl
  obtain ⟨h3, e3⟩ : ∃ h3, h2.set c.mb (.map ((c.live.eraseIdx y.1).map me) c.cl) = h3 := ⟨_, rfl⟩
  rw [e3] at E3 O3 K3
  have hfn : h.next ∉ fpS b s vc := fun q => by have := O.fp_lt q; omega
  have g3 := (K3.2 _ n2 hfn).trans g2
  have n3 : h.next < h3.next := Nat.lt_of_lt_of_le n2 K3.1
  have lB3 := lB h3 g3
  have gi : (s.cls.set i { c with live := c.live.eraseIdx y.1, cl := c.cl })[i]? = some { c with live := c.live.eraseIdx y.1, cl := c.cl } := by simp [hil]
  have lf3 := O3.ldc gi (o := 1) (x := c.fv) (by omega) rfl (ty := 27) ta27
  have vb := O3.at_lt gi
  have M3 := O3.free _ (List.mem_of_getElem? gi)
  obtain ⟨h4, e4⟩ : ∃ h4, h3.new (.cells [.int .i64 (K : Nat)] false) = h4 := ⟨_, rfl⟩
  have k4 : Keep h3.next nob h3 h4 := by rw [← e4]; exact Keep.new (Nat.le_refl _) _
  obtain ⟨v5, h5, E5, M5, Fr5, K5⟩ := M3.push (P := Try.prog) el27 (a := [.int .i64 (K : Nat)]) (ex := true) rfl rfl (by simp only; omega)
  rw [e4] at E5
  obtain ⟨h6, E6, O6, f6, K6⟩ := O3.upd gi { c with live := c.live.eraseIdx y.1, free := c.free ++ [K], fv := v5 } (o := 1) (by omega) (a := v5) rfl rfl M5.oneV ⟨rfl, rfl⟩ K5 (by simp only [List.length_append, List.length_singleton, List.map_append]; exact M5) Fr5
  rw [← Nat.add_assoc] at E6
  simp only [List.set_set] at O6 f6
  have sfv : sameAV c.fv c.fv = true := M3.sl.same
  have ro := row1_one M5.oneV
  have A4 : Agree h3.next h3 h4 := fun e he => k4.2 e he id
  have h23 := K3.1
  have h36 := K6.1
  have fin : ∃ (c2 : Cl), c2.size = c.size ∧ c2.free = c.free ++ [K] ∧ c2.count = c.count ∧ c2.live = c.live.eraseIdx y.1 ∧ c2.cl = c.cl ∧
      SlO h6 b { s with cls := s.cls.set i c2 } vc ∧ (∀ e, e ∈ fpS b { s with cls := s.cls.set i c2 } vc → e ∈ fpS b s vc ∨ h.next ≤ e) ∧ Keep h.next (fun e => e ∈ fpS b s vc) h h6 := by
    refine ⟨{ c with live := c.live.eraseIdx y.1, free := c.free ++ [K], fv := v5 }, rfl, rfl, rfl, rfl, rfl, O6, fun e he => ?_, ⟨by omega, fun e he hn => ?_⟩⟩
    · rcases f6 e he with z | z
      · exact .inl (fp3 ▸ z)
      · exact .inr (by omega)
    · rw [K6.2 e (by omega) (fun q => hn (fp3 ▸ q)), K3.2 e (by omega) hn, K2.2 e he id]
  rw [acall_text [6] Try.func14 (by kernel_rfl)]
  refine afuncT_ex rfl (by simp [Try.f14]) ?_
  simp [Try.f14, rwH, e1, lH, E2, l32, lA2, lB2, ix2, lm2, E3]
  refine W_split 8 h3.next (by rfl) (by kernel_rfl) (by rfl) ?_
  dsimp only [List.take, List.drop]
  simp [obl, mayEff, mayRead, sameAV, vb, n3, lf3, sfv, lB3, aalloc, afill, e4, A4, E5, ro, E6]
  exact fin
end Go.Proofs.Ytmoigchjmmjljaa
