/- The law RsTells returns true for every input, and its input reads behind the call as it did; no conditions. The kit's model is followed by an abstract machine that is shown to tell what the model does; the contracts of the functions are proved over that machine. -/
import Derived.Test.YtmmibaaidfcbhaaRows
import Derived.Test.YtmmibaaidfcbhaaRsTellsA
import Derived.Test.YtmmibaaidfcbhaaRsTellsB
import Derived.WalkKit
import Derived.ProofKit
import Derived.OpenShut
import Derived.JoinedCond
namespace Go.Proofs.Ytmmibaaidfcbhaa.cRsTells
open Go Go.ChangeShapes Go.WideShapes Go.ChangeAt Go.RowKit Go.YtmmibaaidfcbhaaAbs
set_option linter.unusedSimpArgs false
set_option linter.unusedVariables false

set_option maxRecDepth 4000
set_option maxHeartbeats 4000000 in
theorem law_run (k : Nat) (hk : 3000 < k) (h : Heap) (a0 : Int) (w0 : (Lit.int .i64 a0).wf = true) (a1 : Int) (w1 : (Lit.int .i64 a1).wf = true) (a2 : ByteArray) (w2 : a2.size ≤ maxLen) (a3 : Int) (w3 : (Lit.int .i64 a3).wf = true) :
    ∃ v h', afuncT Try.prog [] (orRuns 3 (acall Try.prog (k + 10))) (k + 10) Try.f9 [.int .i64 a0, .int .i64 a1, .str a2, .int .i64 a3] h = some (v, h') ∧ v = .bool true := by
  by_cases q : cauIn a0 a1
  rotate_left
  · have E1 := new_no (k + 9) h a0 a1 q
    have E2 := rcauchy_no (k + 9) h a0 a1 q
    refine afuncT_ex rfl (by simp [Try.f9]) ?_
    simp [Try.f9, E1, E2, nil_rows, nil_code]
  unfold cauIn at q
  obtain ⟨n, rfl⟩ : ∃ N : Nat, a0 = (N : Int) := ⟨a0.toNat, by omega⟩
  obtain ⟨m, rfl⟩ : ∃ M : Nat, a1 = (M : Int) := ⟨a1.toNat, by omega⟩
  obtain ⟨_, h1, E1, b, rv, rfl, C, K1⟩ := new_ok (k + 7) (by omega) h n m (by omega) (by omega) (by omega)
  obtain ⟨cv, h2, E2, N2⟩ := rcauchy_ok (k + 7) (by omega) h1 n m (by omega) (by omega) (by omega)
  obtain ⟨_, R2⟩ := N2.rd
  have nn := nn_sl R2.sl (by simp [cauM]; omega)
  have C2 := C.ext N2.kb
  have E3 : acall Try.prog (k + 10) 15 [.str a2, .int .i64 200] h2 = _ := short3_ok (k + 9) a2 200 h2
  have hs := shortN_le 200 a2
  generalize shortN 200 a2 = s at *
  have W4 : acall Try.prog (k + 10) 14 [.int .i64 a3, .int .i64 (-9), .int .i64 1073741824] h2 = _ := within_ok (k + 9) a3 (-9) 1073741824 (by omega) (by omega) (by omega) h2
  have m1 : 0 ≤ a3 % (1073741824 - (-9) + 1) := Int.emod_nonneg _ (by omega)
  have m2 : a3 % (1073741824 - (-9) + 1) < 1073741824 - (-9) + 1 := Int.emod_lt_of_pos _ (by omega)
  obtain ⟨x, hx⟩ : ∃ x : Int, -9 + a3 % (1073741824 - (-9) + 1) = x := ⟨_, rfl⟩
  rw [hx] at W4
  have hx9 : -9 ≤ x ∧ x ≤ 1073741824 := by omega
  clear hx m1 m2
  have E5 := k_ok (k + 9) C2
  have E6 := n_ok (k + 9) C2
  have sz : ∃ z : Nat, acall Try.prog (k + 10) 23 [.ptr b 0, .int .i64 x] h2 = some (.int .i64 (z : Nat), h2) ∧ acall Try.prog (k + 10) 26 [.int .i64 (n : Nat), .int .i64 x] h2 = some (.int .i64 (z : Nat), h2) := by
    by_cases hx0 : x < 0
    · exact ⟨0, size_no (k + 9) C2 x hx0, rsize_no (k + 9) h2 n (by omega) x hx0⟩
    · obtain ⟨y, rfl⟩ : ∃ y : Nat, x = (y : Int) := ⟨x.toNat, by omega⟩
      exact ⟨szN n y, size_ok (k + 9) C2 y (by omega), rsize_ok (k + 9) h2 n y (by omega) (by omega) (by omega)⟩
  obtain ⟨z, E7, E8⟩ := sz
  obtain ⟨v3, h3, E9, M3, F3, K3⟩ := enc_ok (k + 7) h2 b n m rv C2 s (by omega) (by omega)
  obtain ⟨v4, h4, E10, M4, F4, K4⟩ := renc_ok (k + 6) h3 n m (by omega) (by omega) (by omega) s (by omega) (by omega)
  have E11 := sameT_ok (k + 9) h4 v3 v4 _ (n + m) (M3.ext K4).sl M4.sl (by omega) (by omega)
  obtain ⟨t, ht⟩ : ∃ t, n + m = t := ⟨_, rfl⟩
  rw [ht] at E6
  have s1 : fwrap .i64 ((n : Int) + (m : Int)) = (t : Nat) := by rw [i64w _ (by omega) (by omega)]; omega
  refine afuncT_ex rfl (by simp [Try.f9]) ?_
  simp [Try.f9, E1, E2, nn, E3, W4, E5, E6, s1, E7, E8, E9, E10, E11]


theorem own : ownKnob Try.prog.godebug = none := by kernel_rfl
theorem laid : laidOutB Try.prog = true := by kernel_rfl

set_option maxRecDepth 100000 in
theorem lifted (os : Os) (started : os.Started) (H : Type) (enc : TypeId × Value → H) :
    ReturnsInHanded {} Try.checked os 9 .any (Rows.rsTellsSpec.pre6 enc Try.prog Try.f9 Rows.rsTellsRow.domain false) (Rows.rsTellsSpec.post enc Try.prog Try.f9 false true false false) := by
  refine returnsInHanded_of_change (C := Try.checked) own started (by kernel_rfl) Try.func9
    (ChangeSpec.witness6 (enc := enc) (C := Try.checked) false ⟨#[], #[.int .i64 0, .int .i64 0, .string ByteArray.empty, .int .i64 0], []⟩ 8 (by kernel_rfl) (by kernel_rfl) (by kernel_rfl) (by kernel_rfl)) ?_
  intro W base args ds gs before hval0 hW hcnd _
  have hval : ∀ (j : Nat) t v, Try.f9.params.toList[j]? = some t → args.toList[j]? = some v → Value.okWide Try.prog W .any base t v := fun j t v h1 h2 => hval0 j t v (by simpa using h1) (by simpa using h2)
  have hW' := hW
  obtain ⟨p, q, hA0, hV, rfl, hfz, hnd⟩ := hW
  have hA : DataW.TrodAll enc Try.prog W 0 (fun _ => true) true Try.f9.params.toList args.toList ds p := hA0
  obtain ⟨rfl, rfl⟩ := trodVars_none hV
  have hlt : ∀ x ∈ p, x.block < W.heap.size := fun x hx => hW'.lt x (by simp [hx])
  have hps : Try.f9.params.toList = [3, 3, 9, 3] := by rw [Try.params9]
  rw [hps] at hA hval
  obtain ⟨m, h, avs, x, g1, _, _, g2, g3, g4⟩ := (good_as1 (good_int Try.underlying3 (by kernel_rfl)) rfl (by kernel_rfl) (good_as1 (good_int Try.underlying3 (by kernel_rfl)) rfl (by kernel_rfl) (good_as1 (good_str Try.underlying9 (by kernel_rfl)) rfl (by kernel_rfl) (good_as1 (good_int Try.underlying3 (by kernel_rfl)) rfl (by kernel_rfl) good_as0)))) H enc W base args.toList ds p hval hA _ _ (HRo.start W)
  obtain ⟨a0, a1, a2, a3, _⟩ := x
  obtain ⟨_, _, rfl, ⟨e0, w0⟩, ⟨_, _, rfl, ⟨e1, w1⟩, ⟨_, _, rfl, ⟨e2, w2⟩, ⟨_, _, rfl, ⟨e3, w3⟩, rfl⟩⟩⟩⟩ := g3
  obtain rfl := (List.cons.inj e0).1
  obtain rfl := (List.cons.inj e1).1
  obtain rfl := (List.cons.inj e2).1
  obtain rfl := (List.cons.inj e3).1
  have hcall := law_any mixed (k := 3000000 + 10) Try.func9 (by kernel_rfl) runs_ok g1 g2 (law_run 3000000 (by decide) h a0 w0 a1 w1 a2 w2 a3 w3)
  refine hcall.mono fun e W' ⟨he, hg⟩ => ?_
  subst he
  simp only [List.append_nil] at hW' hA0 ⊢
  have hlen : ds.length = 4 := trodAll_len hA
  have hvars : (Rows.rsTellsSpec.fn H (ds ++ [])).vars = [] ∧ (Rows.rsTellsSpec.fn H (ds ++ [])).args = ds ∧ (Rows.rsTellsSpec.fn H (ds ++ [])).results = [.lit (.bool true)] := by
    rw [List.append_nil]
    match ds, hlen with
    | [d0, d1, d2, d3], _ => exact ⟨rfl, rfl, rfl⟩
  obtain ⟨hv1, hv2, hv3⟩ := hvars
  refine ⟨_, rfl, law_post hW' rfl hg (fun _ _ _ => ?_) (fun sp hsp => ?_) hv1
    (ok_one (by kernel_rfl) rfl (okWide_bool_mk Try.underlying4 _))⟩
  · rw [hv3]
    exact (trodAll_cons_mk (shut_bool Try.underlying4 _) trodAll_mk0)
  · have hA1 := trodAll_below laid hg sp (ts := [3, 3, 9, 3]) (by decide +kernel) hlt hsp hA
    rw [hv2, hps]
    exact hA1

theorem over : Rows.rsTellsRow.holds Try.pinned (OpenSpec.ofChange Rows.rsTellsSpec) :=
  OpenClaim.holds_of_wide 9 Try.f9 rfl rfl rfl rfl rfl rfl rfl ⟨rfl, rfl, rfl, rfl, rfl⟩ rfl rfl rfl rfl rfl (by kernel_rfl) Try.func9 (by kernel_rfl)
    (of_decide_eq_true (by kernel_rfl)) (by unfold Func.isWrapper; first | (rw [if_pos (by decide +kernel)]; kernel_rfl) | (rw [if_neg (by decide +kernel)]; exact ⟨rfl, rfl⟩))
    (fun os started H enc _ => lifted os started H enc)

/-- The statement. -/
theorem proved : Rows.RsTellsSaid :=
  over
#print axioms proved
end Go.Proofs.Ytmmibaaidfcbhaa.cRsTells
