/- The law PackOne returns true for every input of bulk at most 1048576, and its input reads behind the call as it did; no conditions. The kit's model is followed by an abstract machine that is shown to tell what the model does; the contracts of the functions are proved over that machine. -/
import Derived.Test.YtadopcddagkhbaaRows
import Derived.Test.YtadopcddagkhbaaRuns
import Derived.Test.YtadopcddagkhbaaRead
import Derived.WalkKit
import Derived.ProofKit
import Derived.OpenShut
import Derived.JoinedCond
namespace Go.Proofs.Ytadopcddagkhbaa.cPackOne
open Go Go.ChangeShapes Go.WideShapes Go.ChangeAt Go.RowKit Go.YtadopcddagkhbaaAbs
set_option linter.unusedSimpArgs false
set_option linter.unusedVariables false

set_option maxRecDepth 4000
theorem vint_inj : ∀ (f u v : Nat), u < 256 * 128 ^ f → v < 256 * 128 ^ f → vint f u = vint f v → u = v
  | 0, u, v, hu, hv, h => by
    simp only [vint, List.cons.injEq, and_true] at h
    have := congrArg UInt8.toNat h
    rw [ofNat_b (by omega), ofNat_b (by omega)] at this
    exact this
  | f + 1, u, v, hu, hv, h => by
    rw [Nat.pow_succ] at hu hv
    have ih := vint_inj f (u / 128) (v / 128) (by omega) (by omega)
    simp only [vint] at h
    have key : ∀ a b : Nat, a < 256 → b < 256 → UInt8.ofNat a = UInt8.ofNat b → a = b := fun a b ha hb e => by
      have := congrArg UInt8.toNat e
      rw [ofNat_b ha, ofNat_b hb] at this
      exact this
    split at h <;> split at h
    · simp only [List.cons.injEq, and_true] at h
      exact key _ _ (by omega) (by omega) h
    · simp only [List.cons.injEq] at h
      have := key _ _ (by omega) (by omega) h.1
      omega
    · simp only [List.cons.injEq] at h
      have := key _ _ (by omega) (by omega) h.1
      omega
    · simp only [List.cons.injEq] at h
      have := key _ _ (by omega) (by omega) h.1
      have := ih h.2
      omega
theorem packN_inj {a b : Int} (h1 : -9223372036854775808 ≤ a) (h2 : a ≤ 9223372036854775807) (h3 : -9223372036854775808 ≤ b) (h4 : b ≤ 9223372036854775807) : packN a = packN b ↔ a = b := by
  refine ⟨fun h => ?_, fun h => by rw [h]⟩
  have z1 := zig_lt h1 h2
  have z2 := zig_lt h3 h4
  have := vint_inj 10 (zig a) (zig b) (Nat.lt_of_lt_of_le z1 (by decide)) (Nat.lt_of_lt_of_le z2 (by decide)) h
  unfold zig at this
  split at this <;> split at this <;> omega

theorem rdN_err : ∀ (l : List UInt8) (i u : Nat) (e : Int), rdN i u l = .inl e → e = 3 ∨ e = 4
  | [], i, u, e, h => by simp [rdN] at h; exact .inl h.symm
  | x :: r, i, u, e, h => by
    simp only [rdN] at h
    split at h
    · cases h; exact .inr rfl
    · split at h
      · cases h
      · exact rdN_err r _ _ e h
set_option maxHeartbeats 2000000 in
theorem law_run (k : Nat) (hk : 2000000 < k) (h : Heap) (v0 : AV) (a0 : (List UInt8)) (w0 : SlA kByte h v0 a0) (a1 : Int) (w1 : (Lit.int .i64 a1).wf = true) (a2 : Int) (w2 : (Lit.int .i64 a2).wf = true) (hb : (kSlice kByte).bulk a0 + ((kInt .i64).bulk a1 + ((kInt .i64).bulk a2 + (0))) ≤ 1048576) :
    ∃ v h', afuncT Try.prog [] (orRuns 3 (acall Try.prog (k + 10))) (k + 10) Try.f5 [v0, .int .i64 a1, .int .i64 a2] h = some (v, h') ∧ v = .bool true := by
  have l0 : a0.length + 1 ≤ (kSlice kByte).bulk a0 := by
    have := len_sumL (f := kByte.bulk) (fun _ => Nat.le_refl 1) a0
    show a0.length + 1 ≤ sumL kByte.bulk a0 + 1
    omega
  have l1 : a0.length < 1048576 := by omega
  have r1 : -9223372036854775808 ≤ a1 ∧ a1 ≤ 9223372036854775807 := by
    simp [Lit.wf, IntKind.min, IntKind.max, IntKind.signed, IntKind.bits] at w1
    exact w1
  have r2 : -9223372036854775808 ≤ a2 ∧ a2 ≤ 9223372036854775807 := by
    simp [Lit.wf, IntKind.min, IntKind.max, IntKind.signed, IntKind.bits] at w2
    exact w2
  clear hb l0
  have S0 := sla_bytes w0
  refine afuncT_ex rfl (by simp [Try.f5]) ?_
  simp [Try.f5]
  refine use (read_ok (k + 8) h v0 a0 S0 (by omega)) ?_
  intro x h2 hh
  obtain ⟨b, w, rfl, hb1, hb2, R, k2⟩ := hh
  simp [aeql]
  refine use (rdNum_ok (k + 8) (by omega) h2 b 0 w a0 R (by omega) (by omega)) ?_
  intro y h3 hh
  have N := hh.1
  have k3 := hh.2
  clear hh
  rw [List.drop_zero] at N
  have inj := packN_inj r1.1 r1.2 r2.1 r2.2
  cases hW : rdN 0 0 a0 with
  | inl e =>
    rw [hW] at N
    obtain ⟨rfl, R3⟩ := N
    have E1 : acall Try.prog (k + 10) 18 [.ptr b 0] h3 = _ := wrong_ok (k + 9) h3 b 0 w a0 e R3
    have he : ¬ (e = 0) := by
      have := rdN_err _ _ _ _ hW
      omega
    have kk := k2.2
    simp [E1, he]
    refine use (packNum_ok (k + 8) (by omega) h3 .nils [] a1 (.inl ⟨rfl, rfl, rfl⟩) (by simp) r1.1 r1.2) ?_
    intro z1 h4 hh
    have Z1 := hh.1.sl
    have k4 := hh.2
    clear hh
    simp
    refine use (packNum_ok (k + 8) (by omega) h4 .nils [] a2 (.inl ⟨rfl, rfl, rfl⟩) (by simp) r2.1 r2.2) ?_
    intro z2 h5 hh
    have Z2 := hh.1.sl
    have k5 := hh.2
    clear hh
    have E2 : acall Try.prog (k + 10) 8 [z1, z2] h5 = _ := sameB_ok (k + 9) ([] ++ packN a1) ([] ++ packN a2) z1 z2 h5 (Z1.ext k5) Z2 (by have := vint_len 10 (zig a1); unfold packN; simp; omega) (by have := vint_len 10 (zig a1); unfold packN; simp; omega)
    simp [E2, inj]
  | inr uc =>
    obtain ⟨u, c⟩ := uc
    rw [hW] at N
    obtain ⟨rfl, R3⟩ := N
    obtain ⟨g1, g2, g3, g4⟩ := rdN_pack hW
    have E1 : acall Try.prog (k + 10) 18 [.ptr b 0] h3 = _ := wrong_ok (k + 9) h3 b (0 + c) w a0 0 R3
    simp [E1]
    refine use (packNum_ok (k + 8) (by omega) h3 .nils [] (unzig u) (.inl ⟨rfl, rfl, rfl⟩) (by simp) g3 g4) ?_
    intro z0 h4 hh
    have Z0 := hh.1.sl
    have k4 := hh.2
    clear hh
    have R4 : Rdr h4 b w a0 (0 + c) 0 := ⟨by rw [k4.2 b R3.2.1 id]; exact R3.1, Nat.lt_of_lt_of_le R3.2.1 k4.1, R3.2.2.1.ext k4, R3.2.2.2⟩
    have E3 : acall Try.prog (k + 10) 19 [.ptr b 0] h4 = _ := at_ok (k + 9) h4 b (0 + c) w a0 0 R4
    rw [Nat.zero_add] at E3
    have kk : Keep h.next nob h h4 := (k2.trans (k3.weak k2.1 fun q hq e => absurd e (by omega))).trans (k4.weak (Nat.le_trans k2.1 k3.1) fun _ _ q => q)
    obtain ⟨x', g0, u0⟩ := (S0.ext kk).to (P := Try.prog) (ty := 23) Try.underlying23 ts5 (k := .i64) (j := c) (by omega)
    rw [Nat.mul_one, ← List.map_take, ← g1] at u0
    have lc : (packN (unzig u)).length = c := by rw [g1, List.length_take]; omega
    have E4 : acall Try.prog (k + 10) 8 [z0, x'] h4 = _ := sameB_ok (k + 9) (packN (unzig u)) (packN (unzig u)) z0 x' h4 Z0 (by rw [lc]; exact u0) (by omega) (by omega)
    simp [E3, g0, E4]
    refine use (packNum_ok (k + 8) (by omega) h4 .nils [] a1 (.inl ⟨rfl, rfl, rfl⟩) (by simp) r1.1 r1.2) ?_
    intro z1 h5 hh
    have Z1 := hh.1.sl
    have k5 := hh.2
    clear hh
    simp
    refine use (packNum_ok (k + 8) (by omega) h5 .nils [] a2 (.inl ⟨rfl, rfl, rfl⟩) (by simp) r2.1 r2.2) ?_
    intro z2 h6 hh
    have Z2 := hh.1.sl
    have k6 := hh.2
    clear hh
    have E2 : acall Try.prog (k + 10) 8 [z1, z2] h6 = _ := sameB_ok (k + 9) ([] ++ packN a1) ([] ++ packN a2) z1 z2 h6 (Z1.ext k6) Z2 (by have := vint_len 10 (zig a1); unfold packN; simp; omega) (by have := vint_len 10 (zig a1); unfold packN; simp; omega)
    simp [E2, inj]


mutual
theorem up1 {H : Type} : ∀ d : DataW H, Rows.uptoBulk d = bulkD d
  | .lit (.string b) => rfl
  | .lit .nil => rfl
  | .lit (.bool _) => rfl
  | .lit (.int ..) => rfl
  | .lit (.float ..) => rfl
  | .nil => rfl
  | .ptr d => by simp only [Rows.uptoBulk, bulkD, up1 d]
  | .slice e r => by simp only [Rows.uptoBulk, bulkD, up2 e, up2 r]
  | .agg p => by simp only [Rows.uptoBulk, bulkD, up2 p]
  | .iface _ d => by simp only [Rows.uptoBulk, bulkD, up1 d]
  | .map e => by simp only [Rows.uptoBulk, bulkD, up3 e]
  | .held _ => rfl
theorem up2 {H : Type} : ∀ l : List (DataW H), Rows.uptoBulkAll l = bulkDs l
  | [] => rfl
  | d :: r => by simp only [Rows.uptoBulkAll, bulkDs, up1 d, up2 r]
theorem up3 {H : Type} : ∀ l : List (Lit × DataW H), Rows.uptoBulkEntries l = bulkDe l
  | [] => rfl
  | x :: r => by simp only [Rows.uptoBulkEntries, bulkDe, up4 x, up3 r]
theorem up4 {H : Type} : ∀ x : Lit × DataW H, Rows.uptoBulkEntry x = bulkDx x
  | (.string b, d) => by simp only [Rows.uptoBulkEntry, bulkDx, up1 d]
  | (.nil, d) => by simp only [Rows.uptoBulkEntry, bulkDx, up1 d]
  | (.bool _, d) => by simp only [Rows.uptoBulkEntry, bulkDx, up1 d]
  | (.int .., d) => by simp only [Rows.uptoBulkEntry, bulkDx, up1 d]
  | (.float .., d) => by simp only [Rows.uptoBulkEntry, bulkDx, up1 d]
end
theorem own : ownKnob Try.prog.godebug = none := by kernel_rfl
theorem laid : laidOutB Try.prog = true := by kernel_rfl

set_option maxRecDepth 100000 in
theorem lifted (os : Os) (started : os.Started) (H : Type) (enc : TypeId × Value → H) (F0 : Stop.Interp) :
    ReturnsInHanded {} Try.checked os 5 .any ((Rows.OpenSpec.upto Rows.packOneSpec).pre6 enc Try.prog Try.f5 Rows.packOneUptoRow.domain false) (((Rows.OpenSpec.upto Rows.packOneSpec).at F0).post enc Try.prog Try.f5 false true false false) := by
  refine returnsInHanded_of_cond (C := Try.checked) (s := Rows.OpenSpec.upto Rows.packOneSpec) (k := Rows.uptoSmall) rfl own started (by kernel_rfl) Try.func5
    (OpenSpec.witness (enc := enc) (C := Try.checked) (s := Rows.OpenSpec.upto Rows.packOneSpec) (k := Rows.uptoSmall) rfl false ⟨#[], #[.slice none 0 0, .int .i64 0, .int .i64 0], []⟩ 8 (by kernel_rfl) (by kernel_rfl) (by kernel_rfl)
      (x := ([.nil, .lit (.int .i64 0), .lit (.int .i64 0)], [], [])) (by kernel_rfl) (by kernel_rfl) (by kernel_rfl)) ?_
  intro W base args ds gs before hval0 hW _ hk _
  have hval : ∀ (j : Nat) t v, Try.f5.params.toList[j]? = some t → args.toList[j]? = some v → Value.okWide Try.prog W .any base t v := fun j t v h1 h2 => hval0 j t v (by simpa using h1) (by simpa using h2)
  have hW' := hW
  obtain ⟨p, q, hA0, hV, rfl, hfz, hnd⟩ := hW
  have hA : DataW.TrodAll enc Try.prog W 0 (fun _ => true) true Try.f5.params.toList args.toList ds p := hA0
  obtain ⟨rfl, rfl⟩ := trodVars_none hV
  have hlt : ∀ x ∈ p, x.block < W.heap.size := fun x hx => hW'.lt x (by simp [hx])
  have hps : Try.f5.params.toList = [23, 3, 3] := by rw [Try.params5]
  rw [hps] at hA hval
  obtain ⟨m, h, avs, x, g1, _, _, g2, g3, g4⟩ := (good_as1 (good_slice Try.underlying23 (by kernel_rfl) (by decide) (good_byte Try.underlying5 (by kernel_rfl))) rfl (by kernel_rfl) (good_as1 (good_int Try.underlying3 (by kernel_rfl)) rfl (by kernel_rfl) (good_as1 (good_int Try.underlying3 (by kernel_rfl)) rfl (by kernel_rfl) good_as0))) H enc W base args.toList ds p hval hA _ _ (HRo.start W)
  obtain ⟨a0, a1, a2, _⟩ := x
  obtain ⟨v0, _, rfl, ⟨u0, e0, w0⟩, ⟨_, _, rfl, ⟨e1, w1⟩, ⟨_, _, rfl, ⟨e2, w2⟩, rfl⟩⟩⟩ := g3
  obtain rfl := (List.cons.inj e0).1
  obtain rfl := (List.cons.inj e1).1
  obtain rfl := (List.cons.inj e2).1
  have hb0 := Nat.le_trans g4 (show bulkDs ds ≤ 1048576 by
    have h1 : decide (Rows.uptoBulkAll (ds ++ []) ≤ 1048576) = true := hk
    rw [List.append_nil] at h1
    rw [← up2]
    exact of_decide_eq_true h1)
  have hcall := law_any mixed (k := 3000000 + 10) Try.func5 (by kernel_rfl) runs_ok g1 g2 (law_run 3000000 (by decide) h v0 a0 w0 a1 w1 a2 w2 hb0)
  refine hcall.mono fun e W' ⟨he, hg⟩ => ?_
  subst he
  simp only [List.append_nil] at hW' hA0 ⊢
  have hlen : ds.length = 3 := trodAll_len hA
  have hvars : (((Rows.OpenSpec.upto Rows.packOneSpec).at F0).fn H (ds ++ [])).vars = [] ∧ (((Rows.OpenSpec.upto Rows.packOneSpec).at F0).fn H (ds ++ [])).args = ds ∧ (((Rows.OpenSpec.upto Rows.packOneSpec).at F0).fn H (ds ++ [])).results = [.lit (.bool true)] := by
    rw [List.append_nil]
    match ds, hlen with
    | [d0, d1, d2], _ => exact ⟨rfl, rfl, rfl⟩
  obtain ⟨hv1, hv2, hv3⟩ := hvars
  refine ⟨_, rfl, law_post hW' rfl hg (fun _ _ _ => ?_) (fun sp hsp => ?_) hv1
    (ok_one (by kernel_rfl) rfl (okWide_bool_mk Try.underlying4 _))⟩
  · rw [hv3]
    exact (trodAll_cons_mk (shut_bool Try.underlying4 _) trodAll_mk0)
  · have hA1 := trodAll_below laid hg sp (ts := [23, 3, 3]) (by decide +kernel) hlt hsp hA
    rw [hv2, hps]
    exact hA1

theorem over : Rows.packOneUptoRow.holds Try.pinned (Rows.OpenSpec.upto Rows.packOneSpec) :=
  OpenClaim.holds_of_cond 5 Try.f5 rfl rfl rfl rfl rfl rfl rfl ⟨rfl, rfl, rfl, rfl, rfl⟩ rfl rfl rfl rfl rfl (by kernel_rfl) Try.func5 (by kernel_rfl)
    (of_decide_eq_true (by kernel_rfl)) (by unfold Func.isWrapper; first | (rw [if_pos (by decide +kernel)]; kernel_rfl) | (rw [if_neg (by decide +kernel)]; exact ⟨rfl, rfl⟩))
    (fun os started H enc _ F0 => lifted os started H enc F0)

/-- The statement. -/
theorem proved : Rows.PackOneUptoSaid :=
  over
#print axioms proved
end Go.Proofs.Ytadopcddagkhbaa.cPackOne
