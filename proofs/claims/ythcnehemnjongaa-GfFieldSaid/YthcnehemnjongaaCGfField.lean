/- The law GfField returns true for every input, and its input reads behind the call as it did; no conditions. The kit's model is followed by an abstract machine that is shown to tell what the model does; the contracts of the functions are proved over that machine. -/
import Derived.Test.YthcnehemnjongaaRows
import Derived.Test.YthcnehemnjongaaRuns
import Derived.Test.YthcnehemnjongaaRefGf
import Derived.WalkKit
import Derived.ProofKit
import Derived.OpenShut
namespace Go.Proofs.Ythcnehemnjongaa.cGfField
open Go Go.ChangeShapes Go.WideShapes Go.ChangeAt Go.RowKit Go.YthcnehemnjongaaAbs
set_option linter.unusedSimpArgs false
set_option linter.unusedVariables false

set_option maxRecDepth 4000
set_option maxHeartbeats 4000000 in
theorem law_run (k : Nat) (hk : 3000 < k) (h : Heap) (a0 : UInt8) (a1 : UInt8) (a2 : UInt8) :
    ∃ v h', afuncT Try.prog [] (orRuns 3 (acall Try.prog (k + 10))) (k + 10) Try.f6 [.int .u8 (a0.toNat : Nat), .int .u8 (a1.toNat : Nat), .int .u8 (a2.toNat : Nat)] h = some (v, h') ∧ v = .bool true := by
  refine afuncT_ex rfl (by simp [Try.f6]) ?_
  simp [Try.f6]
  refine use (make_ok (k + 9) (by omega) h) ?_
  intro v h1 hh
  rw [hh.1]
  clear hh
  have row : (AV.agg fieldC).row1 = some fieldC := by simp [AV.row1, AV.row, fieldC_one]
  have one0 : AV.one (.int .u8 0) = true := rfl
  have lay : alay (h1.new (.cells zz25 false)) h1.next 0 fieldC = some (h1.new (.cells fieldC false)) := alay_new (by rw [fieldC_len, zz25_len])
  have f : Fld (h1.new (.cells fieldC false)) (.ptr h1.next 0) := ⟨_, _, _, _, rfl, Nat.lt_succ_self _, get_new_self _ _, fun j _ => by rw [Nat.zero_add]⟩
  generalize h1.new (.cells fieldC false) = h2 at lay f
  have M : ∀ x y : UInt8, acall Try.prog (k + 10) 11 [.ptr h1.next 0, .int .u8 (x.toNat : Nat), .int .u8 (y.toNat : Nat)] h2 = some (.int .u8 ((gm x y).toNat : Nat), h2) := fun x y => mulB_ok (k + 9) h2 _ f x y
  have M1 : ∀ x : UInt8, acall Try.prog (k + 10) 11 [.ptr h1.next 0, .int .u8 (x.toNat : Nat), .int .u8 1] h2 = some (.int .u8 ((gm x 1).toNat : Nat), h2) := fun x => mulB_ok (k + 9) h2 _ f x 1
  have M0 : ∀ x : UInt8, acall Try.prog (k + 10) 11 [.ptr h1.next 0, .int .u8 (x.toNat : Nat), .int .u8 0] h2 = some (.int .u8 ((gm x 0).toNat : Nat), h2) := fun x => mulB_ok (k + 9) h2 _ f x 0
  have I : ∀ x : UInt8, acall Try.prog (k + 10) 12 [.ptr h1.next 0, .int .u8 (x.toNat : Nat)] h2 = some (.int .u8 ((gi x).toNat : Nat), h2) := fun x => invB_ok (k + 9) h2 _ f x
  have D : ∀ x y : UInt8, acall Try.prog (k + 10) 14 [.ptr h1.next 0, .int .u8 (x.toNat : Nat), .int .u8 (y.toNat : Nat)] h2 = some (.int .u8 ((gm x (gi y)).toNat : Nat), h2) := fun x y => divB_ok (k + 8) h2 _ f x y
  have E1 := b_same (gm_comm a0 a1)
  have E2 := b_same (gm_assoc a0 a1 a2)
  have E3 := b_same (gm_xor a0 a1 a2)
  have E4 := b_same (gm_one a0)
  have E5 := b_is0 (gm_zero a0)
  by_cases c0 : a0 = 0
  · have n0 := b_is0 c0
    have n2 := b_is0 ((gm_eq_zero a0 a1).2 (.inl c0))
    simp (maxSteps := 1000000) [row, fieldC_len, lay, M, M1, M0, I, D, E1, E2, E3, E4, E5, xor_u8, n0, n2, -UInt8.toNat_xor]
  · have n0 := b_not0 c0
    have g1 := b_is1 (gm_gi c0)
    have g2 := b_same (show gm (gm a0 a1) (gi a0) = a1 by rw [gm_comm a0 a1, gm_assoc, gm_gi c0, gm_one])
    by_cases c1 : a1 = 0
    · have n1 := b_is0 c1
      have n2 := b_is0 ((gm_eq_zero a0 a1).2 (.inr c1))
      simp (maxSteps := 1000000) [row, fieldC_len, lay, M, M1, M0, I, D, E1, E2, E3, E4, E5, xor_u8, n0, n1, n2, g1, g2, -UInt8.toNat_xor]
    · have n1 := b_not0 c1
      have n2 := b_not0 (show gm a0 a1 ≠ 0 from fun q => by
        rcases (gm_eq_zero a0 a1).1 q with e | e
        · exact c0 e
        · exact c1 e)
      simp (maxSteps := 1000000) [row, fieldC_len, lay, M, M1, M0, I, D, E1, E2, E3, E4, E5, xor_u8, n0, n1, n2, g1, g2, -UInt8.toNat_xor]


theorem own : ownKnob Try.prog.godebug = none := by kernel_rfl
theorem laid : laidOutB Try.prog = true := by kernel_rfl

set_option maxRecDepth 100000 in
theorem lifted (os : Os) (started : os.Started) (H : Type) (enc : TypeId × Value → H) :
    ReturnsInHanded {} Try.checked os 6 .any (Rows.gfFieldSpec.pre6 enc Try.prog Try.f6 Rows.gfFieldRow.domain false) (Rows.gfFieldSpec.post enc Try.prog Try.f6 false true false false) := by
  refine returnsInHanded_of_change (C := Try.checked) own started (by kernel_rfl) Try.func6
    (ChangeSpec.witness6 (enc := enc) (C := Try.checked) false ⟨#[], #[.int .u8 0, .int .u8 0, .int .u8 0], []⟩ 8 (by kernel_rfl) (by kernel_rfl) (by kernel_rfl) (by kernel_rfl)) ?_
  intro W base args ds gs before hval0 hW hcnd _
  have hval : ∀ (j : Nat) t v, Try.f6.params.toList[j]? = some t → args.toList[j]? = some v → Value.okWide Try.prog W .any base t v := fun j t v h1 h2 => hval0 j t v (by simpa using h1) (by simpa using h2)
  have hW' := hW
  obtain ⟨p, q, hA0, hV, rfl, hfz, hnd⟩ := hW
  have hA : DataW.TrodAll enc Try.prog W 0 (fun _ => true) true Try.f6.params.toList args.toList ds p := hA0
  obtain ⟨rfl, rfl⟩ := trodVars_none hV
  have hlt : ∀ x ∈ p, x.block < W.heap.size := fun x hx => hW'.lt x (by simp [hx])
  have hps : Try.f6.params.toList = [5, 5, 5] := by rw [Try.params6]
  rw [hps] at hA hval
  obtain ⟨m, h, avs, x, g1, _, _, g2, g3⟩ := (good_as1 (good_byte Try.underlying5 (by kernel_rfl)) rfl (by kernel_rfl) (good_as1 (good_byte Try.underlying5 (by kernel_rfl)) rfl (by kernel_rfl) (good_as1 (good_byte Try.underlying5 (by kernel_rfl)) rfl (by kernel_rfl) good_as0))) H enc W base args.toList ds p hval hA _ _ (HRo.start W)
  obtain ⟨a0, a1, a2, _⟩ := x
  obtain ⟨_, _, rfl, e0, ⟨_, _, rfl, e1, ⟨_, _, rfl, e2, rfl⟩⟩⟩ := g3
  obtain rfl := (List.cons.inj e0).1
  obtain rfl := (List.cons.inj e1).1
  obtain rfl := (List.cons.inj e2).1
  have hcall := law_any mixed (k := 5000 + 10) Try.func6 (by kernel_rfl) runs_ok g1 g2 (law_run 5000 (by decide) h a0 a1 a2)
  refine hcall.mono fun e W' ⟨he, hg⟩ => ?_
  subst he
  simp only [List.append_nil] at hW' hA0 ⊢
  have hlen : ds.length = 3 := trodAll_len hA
  have hvars : (Rows.gfFieldSpec.fn H (ds ++ [])).vars = [] ∧ (Rows.gfFieldSpec.fn H (ds ++ [])).args = ds ∧ (Rows.gfFieldSpec.fn H (ds ++ [])).results = [.lit (.bool true)] := by
    rw [List.append_nil]
    match ds, hlen with
    | [d0, d1, d2], _ => exact ⟨rfl, rfl, rfl⟩
  obtain ⟨hv1, hv2, hv3⟩ := hvars
  refine ⟨_, rfl, law_post hW' rfl hg (fun _ _ _ => ?_) (fun sp hsp => ?_) hv1
    (ok_one (by kernel_rfl) rfl (okWide_bool_mk Try.underlying4 _))⟩
  · rw [hv3]
    exact (trodAll_cons_mk (shut_bool Try.underlying4 _) trodAll_mk0)
  · have hA1 := trodAll_below laid hg sp (ts := [5, 5, 5]) (by decide +kernel) hlt hsp hA
    rw [hv2, hps]
    exact hA1

theorem over : Rows.gfFieldRow.holds Try.pinned (OpenSpec.ofChange Rows.gfFieldSpec) :=
  OpenClaim.holds_of_wide 6 Try.f6 rfl rfl rfl rfl rfl rfl rfl ⟨rfl, rfl, rfl, rfl, rfl⟩ rfl rfl rfl rfl rfl (by kernel_rfl) Try.func6 (by kernel_rfl)
    (of_decide_eq_true (by kernel_rfl)) (by unfold Func.isWrapper; first | (rw [if_pos (by decide +kernel)]; kernel_rfl) | (rw [if_neg (by decide +kernel)]; exact ⟨rfl, rfl⟩))
    (fun os started H enc _ => lifted os started H enc)

/-- The statement. -/
theorem proved : Rows.GfFieldSaid :=
  over
#print axioms proved
end Go.Proofs.Ythcnehemnjongaa.cGfField
