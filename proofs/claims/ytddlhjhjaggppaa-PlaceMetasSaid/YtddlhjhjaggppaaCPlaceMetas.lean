/- The law PlaceMetas returns true for every input, and its input reads behind the call as it did; no conditions. The kit's model is followed by an abstract machine that is shown to tell what the model does; the contracts of the functions are proved over that machine. -/
import Derived.Test.YtddlhjhjaggppaaRows
import Derived.Test.YtddlhjhjaggppaaRuns16
import Derived.Test.YtddlhjhjaggppaaPlace
import Derived.WalkKit
import Derived.ProofKit
import Derived.OpenShut
namespace Go.Proofs.Ytddlhjhjaggppaa.cPlaceMetas
open Go Go.ChangeShapes Go.WideShapes Go.ChangeAt Go.RowKit Go.YtddlhjhjaggppaaAbs
set_option linter.unusedSimpArgs false
set_option linter.unusedVariables false

set_option maxHeartbeats 1000000 in
theorem law_run (k : Nat) (hk : 3000 < k) (h : Heap) (a0 : ByteArray) (w0 : a0.size ≤ maxLen) (a1 : Int) (w1 : (Lit.int .i64 a1).wf = true) (a2 : Int) (w2 : (Lit.int .i64 a2).wf = true) (a3 : Int) (w3 : (Lit.int .i64 a3).wf = true) :
    ∃ v h', afuncT Try.prog [] (orRuns 3 (acall Try.prog (k + 10))) (k + 10) Try.f6 [.str a0, .int .i64 a1, .int .i64 a2, .int .i64 a3] h = some (v, h') ∧ v = .bool true := by
  refine afuncT_ex rfl (by simp [Try.f6]) ?_
  simp [Try.f6, -W_cond]
  refine W_mono (Q := fun e s => e = .normal ∧ s.h = h ∧ s.t.get 1 = some (.int .i64 a1) ∧ s.t.get 2 = some (.int .i64 a2) ∧ s.t.get 3 = some (.int .i64 a3) ∧ 
    ∃ key : ByteArray, key.size ≤ 500 ∧ s.t.get 0 = some (.str key)) ?_ ?_
  · by_cases hbig : (a0.size : Int) ≤ 500
    · simp [hbig]
      omega
    · simp [hbig, aslice_strTo Try.underlying9 (s := a0) (k := .i64) (n := 500) (by omega) (by omega)]
      omega
  rintro e ⟨t, h0⟩ ⟨rfl, rfl, q1, q2, q3, key, hkey, q0⟩
  simp only at q0 q1 q2 q3
  have e1 : acall Try.prog (k + 10) 12 [.int .i64 a3, .int .i64 1, .int .i64 12] h0 = _ := within_ok (k + 9) a3 1 12 (by omega) (by omega) (by omega) h0
  have b1 : 0 ≤ a3 % (12 - 1 + 1) := Int.emod_nonneg _ (by omega)
  have b2 : a3 % (12 - 1 + 1) < 12 - 1 + 1 := Int.emod_lt_of_pos _ (by omega)
  generalize a3 % (12 - 1 + 1) = z at e1 b1 b2
  obtain ⟨s, hs⟩ := Int.eq_ofNat_of_zero_le (show 0 ≤ 1 + z by omega)
  rw [hs] at e1
  have e2 : acall Try.prog (k + 10) 12 [.int .i64 a1, .int .i64 1, .int .i64 (s : Nat)] h0 = _ := within_ok (k + 9) a1 1 (s : Nat) (by omega) (by omega) (by omega) h0
  have b3 : 0 ≤ a1 % ((s : Nat) - 1 + 1) := Int.emod_nonneg _ (by omega)
  have b4 : a1 % ((s : Nat) - 1 + 1) < (s : Nat) - 1 + 1 := Int.emod_lt_of_pos _ (by omega)
  generalize a1 % ((s : Nat) - 1 + 1) = y at e2 b3 b4
  obtain ⟨a, ha⟩ := Int.eq_ofNat_of_zero_le (show 0 ≤ 1 + y by omega)
  rw [ha] at e2
  have e3 : acall Try.prog (k + 10) 12 [.int .i64 a2, .int .i64 0, .int .i64 ((s : Nat) - (a : Nat))] h0 = _ := within_ok (k + 9) a2 0 ((s : Nat) - (a : Nat)) (by omega) (by omega) (by omega) h0
  have b5 : 0 ≤ a2 % ((s : Nat) - (a : Nat) - 0 + 1) := Int.emod_nonneg _ (by omega)
  have b6 : a2 % ((s : Nat) - (a : Nat) - 0 + 1) < (s : Nat) - (a : Nat) - 0 + 1 := Int.emod_lt_of_pos _ (by omega)
  generalize a2 % ((s : Nat) - (a : Nat) - 0 + 1) = x at e3 b5 b6
  obtain ⟨b, hb⟩ := Int.eq_ofNat_of_zero_le (show 0 ≤ 0 + x by omega)
  rw [hb] at e3
  simp [q0, q1, q2, q3, e1, e2, i64w ((s : Int) - (a : Int)) (by omega) (by omega), e3]
  refine use (metas_ok (k + 7) key (by omega) (by omega) (b : Nat) (s : Nat) h0 (by omega)) ?_
  intro v h1 hh
  have hv := hh.1
  have k1 := hh.2
  clear hh
  rw [if_pos (by omega), show ((b : Nat) : Int) + 1 = ((b + 1 : Nat) : Int) by omega, stripeL_ok (by omega) (by omega) (by omega)] at hv
  simp [q0, i64w ((a : Int) + (b : Int)) (by omega) (by omega)]
  refine use (stripe_ok (k + 8) key (by omega) (by omega) ((a : Int) + (b : Int)) (s : Nat) h1) ?_
  intro v2 h2 hh
  have hv2 := hh.1
  have k2 := hh.2
  clear hh
  rw [show ((a : Nat) : Int) + ((b : Nat) : Int) = ((a + b : Nat) : Int) by omega, stripeL_ok (by omega) (by omega) (by omega)] at hv2
  have sl1 := (hv.sl).ext k2
  have sl2 := hv2.sl
  rw [stripe_len] at sl1 sl2
  obtain ⟨v3, f1, sl3⟩ := sl2.to (P := Try.prog) (ty := 22) Try.underlying22 ts3 (k := .i64) (j := b + 1) (by omega)
  rw [Nat.mul_one, ← List.map_take, stripe_take (by omega)] at sl3
  have e4 : acall Try.prog (k + 10) 11 [v3, v] h2 = _ := same_ok (k + 9) (stripe (hash key.data.toList % s) (b + 1) s) (stripe (hash key.data.toList % s) (b + 1) s) v3 v h2 (by rw [stripe_len]; exact sl3) (by rw [stripe_len]; exact sl1) (by rw [stripe_len]; omega) (by rw [stripe_len]; omega)
  have f1' : aslice Try.prog 22 v2 none (some (.int .i64 ((b : Int) + 1))) none = some v3 := f1
  simp [q0, sl1.len', sl2.len', i64w ((a : Int) + (b : Int)) (by omega) (by omega), i64w ((b : Int) + 1) (by omega) (by omega), f1', e4]
  refine use (metas_ok (k + 7) key (by omega) (by omega) (b : Nat) (s : Nat) h2 (by omega)) ?_
  intro v4 h4 hh
  have hv4 := hh.1
  have k4 := hh.2
  clear hh
  rw [if_pos (by omega), show ((b : Nat) : Int) + 1 = ((b + 1 : Nat) : Int) by omega, stripeL_ok (by omega) (by omega) (by omega)] at hv4
  have e5 : acall Try.prog (k + 10) 11 [v4, v] h4 = _ := same_ok (k + 9) (stripe (hash key.data.toList % s) (b + 1) s) (stripe (hash key.data.toList % s) (b + 1) s) v4 v h4 hv4.sl (by rw [stripe_len]; exact sl1.ext k4) (by rw [stripe_len]; omega) (by rw [stripe_len]; omega)
  simp [e5]


theorem own : ownKnob Try.prog.godebug = none := by kernel_rfl
theorem laid : laidOutB Try.prog = true := by kernel_rfl

set_option maxRecDepth 100000 in
theorem lifted (os : Os) (started : os.Started) (H : Type) (enc : TypeId × Value → H) :
    ReturnsInHanded {} Try.checked os 6 .any (Rows.placeMetasSpec.pre6 enc Try.prog Try.f6 Rows.placeMetasRow.domain false) (Rows.placeMetasSpec.post enc Try.prog Try.f6 false true false false) := by
  refine returnsInHanded_of_change (C := Try.checked) own started (by kernel_rfl) Try.func6
    (ChangeSpec.witness6 (enc := enc) (C := Try.checked) false ⟨#[], #[.string ByteArray.empty, .int .i64 0, .int .i64 0, .int .i64 0], []⟩ 8 (by kernel_rfl) (by kernel_rfl) (by kernel_rfl) (by kernel_rfl)) ?_
  intro W base args ds gs before hval0 hW hcnd _
  have hval : ∀ (j : Nat) t v, Try.f6.params.toList[j]? = some t → args.toList[j]? = some v → Value.okWide Try.prog W .any base t v := fun j t v h1 h2 => hval0 j t v (by simpa using h1) (by simpa using h2)
  have hW' := hW
  obtain ⟨p, q, hA0, hV, rfl, hfz, hnd⟩ := hW
  have hA : DataW.TrodAll enc Try.prog W 0 (fun _ => true) true Try.f6.params.toList args.toList ds p := hA0
  obtain ⟨rfl, rfl⟩ := trodVars_none hV
  have hlt : ∀ x ∈ p, x.block < W.heap.size := fun x hx => hW'.lt x (by simp [hx])
  have hps : Try.f6.params.toList = [9, 3, 3, 3] := by rw [Try.params6]
  rw [hps] at hA hval
  obtain ⟨m, h, avs, x, g1, _, _, g2, g3⟩ := (good_as1 (good_str Try.underlying9 (by kernel_rfl)) rfl (by kernel_rfl) (good_as1 (good_int Try.underlying3 (by kernel_rfl)) rfl (by kernel_rfl) (good_as1 (good_int Try.underlying3 (by kernel_rfl)) rfl (by kernel_rfl) (good_as1 (good_int Try.underlying3 (by kernel_rfl)) rfl (by kernel_rfl) good_as0)))) H enc W base args.toList ds p hval hA _ _ (HRo.start W)
  obtain ⟨a0, a1, a2, a3, _⟩ := x
  obtain ⟨_, _, rfl, ⟨e0, w0⟩, ⟨_, _, rfl, ⟨e1, w1⟩, ⟨_, _, rfl, ⟨e2, w2⟩, ⟨_, _, rfl, ⟨e3, w3⟩, rfl⟩⟩⟩⟩ := g3
  obtain rfl := (List.cons.inj e0).1
  obtain rfl := (List.cons.inj e1).1
  obtain rfl := (List.cons.inj e2).1
  obtain rfl := (List.cons.inj e3).1
  have hcall := law_any mixed (k := 5000 + 10) Try.func6 (by kernel_rfl) runs_ok g1 g2 (law_run 5000 (by decide) h a0 w0 a1 w1 a2 w2 a3 w3)
  refine hcall.mono fun e W' ⟨he, hg⟩ => ?_
  subst he
  simp only [List.append_nil] at hW' hA0 ⊢
  have hlen : ds.length = 4 := trodAll_len hA
  have hvars : (Rows.placeMetasSpec.fn H (ds ++ [])).vars = [] ∧ (Rows.placeMetasSpec.fn H (ds ++ [])).args = ds ∧ (Rows.placeMetasSpec.fn H (ds ++ [])).results = [.lit (.bool true)] := by
    rw [List.append_nil]
    match ds, hlen with
    | [d0, d1, d2, d3], _ => exact ⟨rfl, rfl, rfl⟩
  obtain ⟨hv1, hv2, hv3⟩ := hvars
  refine ⟨_, rfl, law_post hW' rfl hg (fun _ _ _ => ?_) (fun sp hsp => ?_) hv1
    (ok_one (by kernel_rfl) rfl (okWide_bool_mk Try.underlying4 _))⟩
  · rw [hv3]
    exact (trodAll_cons_mk (shut_bool Try.underlying4 _) trodAll_mk0)
  · have hA1 := trodAll_below laid hg sp (ts := [9, 3, 3, 3]) (by decide +kernel) hlt hsp hA
    rw [hv2, hps]
    exact hA1

theorem over : Rows.placeMetasRow.holds Try.pinned (OpenSpec.ofChange Rows.placeMetasSpec) :=
  OpenClaim.holds_of_wide 6 Try.f6 rfl rfl rfl rfl rfl rfl rfl ⟨rfl, rfl, rfl, rfl, rfl⟩ rfl rfl rfl rfl rfl (by kernel_rfl) Try.func6 (by kernel_rfl)
    (of_decide_eq_true (by kernel_rfl)) (by unfold Func.isWrapper; first | (rw [if_pos (by decide +kernel)]; kernel_rfl) | (rw [if_neg (by decide +kernel)]; exact ⟨rfl, rfl⟩))
    (fun os started H enc _ => lifted os started H enc)

/-- The statement. -/
theorem proved : Rows.PlaceMetasSaid :=
  over
#print axioms proved
end Go.Proofs.Ytddlhjhjaggppaa.cPlaceMetas
