/- The law MatrixInverse returns true for every input, and its input reads behind the call as it did; no conditions. The kit's model is followed by an abstract machine that is shown to tell what the model does; the contracts of the functions are proved over that machine. -/
import Derived.Test.YtcgafaecdjbmiaaRows
import Derived.Test.YtcgafaecdjbmiaaRuns
import Derived.Test.YtcgafaecdjbmiaaMatX
import Derived.Test.YtcgafaecdjbmiaaArgs
import Derived.Test.YtcgafaecdjbmiaaBook
import Derived.WalkKit
import Derived.ProofKit
import Derived.OpenShut
import Derived.JoinedCond
namespace Go.Proofs.Ytcgafaecdjbmiaa.cMatrixInverse
open Go Go.ChangeShapes Go.WideShapes Go.ChangeAt Go.RowKit Go.YtcgafaecdjbmiaaAbs
set_option linter.unusedSimpArgs false
set_option linter.unusedVariables false

set_option maxRecDepth 4000
set_option maxHeartbeats 4000000 in
theorem law_run (k : Nat) (hk : 3000 < k) (h : Heap) (v0 : AV) (a0 : (List UInt8)) (w0 : SlA kByte h v0 a0) (a1 : Int) (w1 : (Lit.int .i64 a1).wf = true) :
    ∃ v h', afuncT Try.prog [] (orRuns 3 (acall Try.prog (k + 10))) (k + 10) Try.f7 [v0, .int .i64 a1] h = some (v, h') ∧ v = .bool true := by
  have S0 := sla_bytes w0
  obtain ⟨n, W1, n1, n2⟩ := within_nat (k + 9) a1 1 7 (by omega) (by omega) (by omega) h
  obtain ⟨h1, h2, b, E1, hb, lay, row, f2, K2⟩ := field_new (k + 9) (by omega) h
  obtain ⟨vm, h3, E3, M, N3, hl, hr⟩ := square_ok (k + 8) (by omega) h2 v0 a0 (S0.ext K2) n (by omega) (by omega)
  obtain ⟨rsm, Rm⟩ := N3.rd
  have f3 := f2.ext N3.kb
  obtain ⟨vi, h4, B, b', E4, hp, K4, Nb, Nn⟩ := invert_ok (k + 6) (by omega) h3 _ f3 vm _ M Rm
  have f4 := f3.ext K4
  have Rm4 := Rm.ext K4
  obtain ⟨_, h5, E5, rfl, K5⟩ := rank_ok (k + 6) (by omega) h4 _ f4 vm _ M Rm4
  rw [sq_rank hr hl (by omega) (by omega)] at E5
  rw [sq_inv hr hl (by omega) (by omega)] at hp
  refine afuncT_ex rfl (by simp [Try.f7]) ?_
  by_cases hrk : rankA n M = n
  · obtain ⟨B', hB', rB, lB, t1, t2⟩ := invA_ok hr hl hrk
    rw [hB'] at hp
    cases hp
    have N4 := Nb rfl
    have f5 := f4.ext K5
    obtain ⟨rsb, Rb⟩ := (N4.ext K5).rd
    have Rm5 := Rm4.ext K5
    obtain ⟨vx, h6, E6, N6⟩ := times_sq (k + 8) (by omega) h5 _ f5 vm vi _ _ M B Rm5 Rb hr hl rB lB (by omega) (by omega)
    have f6 := f5.ext N6.kb
    have Rm6 := Rm5.ext N6.kb
    have Rb6 := Rb.ext N6.kb
    obtain ⟨vy, h7, E7, N7⟩ := times_sq (k + 8) (by omega) h6 _ f6 vi vm _ _ B M Rb6 Rm6 rB lB hr hl (by omega) (by omega)
    have f7 := f6.ext N7.kb
    have Rm7 := Rm6.ext N7.kb
    have Rb7 := Rb6.ext N7.kb
    obtain ⟨ir, ib⟩ := invA_back hr hl rB lB t1 t2
    obtain ⟨vw, h8, C, b8, E8, hp8, K8, N8, _⟩ := invert_ok (k + 6) (by omega) h7 _ f7 vi _ B Rb7
    rw [sq_inv rB lB (by omega) (by omega), ib] at hp8
    cases hp8
    have N8 := N8 rfl
    rw [t2] at N6
    rw [t1] at N7
    obtain ⟨vj, h9, E9, N9⟩ := identity_ok (k + 9) (by omega) h8 n (by omega) (by omega)
    obtain ⟨_, Rx⟩ := ((N6.ext N7.kb).ext N8.kb).rd
    obtain ⟨_, Ry⟩ := (N7.ext N8.kb).rd
    obtain ⟨_, Rw⟩ := N8.rd
    obtain ⟨_, Rj⟩ := N9.rd
    have F1 := same_sq (k + 8) (by omega) h9 vx vj (Rx.ext N9.kb) Rj (idM_rows n) (idM_len n) (by omega)
    obtain ⟨vj', h10, E10, N10⟩ := identity_ok (k + 9) (by omega) h9 n (by omega) (by omega)
    obtain ⟨_, Rj'⟩ := N10.rd
    have F2 := same_sq (k + 8) (by omega) h10 vy vj' ((Ry.ext N9.kb).ext N10.kb) Rj' (idM_rows n) (idM_len n) (by omega)
    have F3 := same_sq (k + 8) (by omega) h10 vw vm ((Rw.ext N9.kb).ext N10.kb) (((Rm7.ext N8.kb).ext N9.kb).ext N10.kb) hr hl (by omega)
    simp [Try.f7, W1, E1, aalloc, afill, row, fieldC_len, hb, lay, E3, E4, E5, hrk, E6, E7, E8, E9, E10, F1, F2, F3]
  · rw [invA_no hr hl hrk] at hp
    cases hp
    have hnv := Nn rfl
    subst hnv
    have hrk' : ¬ ((rankA n M : Nat) : Int) = (n : Int) := by omega
    simp [Try.f7, W1, E1, aalloc, afill, row, fieldC_len, hb, lay, E3, E4, E5, hrk, hrk']


theorem own : ownKnob Try.prog.godebug = none := by kernel_rfl
theorem laid : laidOutB Try.prog = true := by kernel_rfl

set_option maxRecDepth 100000 in
theorem lifted (os : Os) (started : os.Started) (H : Type) (enc : TypeId × Value → H) :
    ReturnsInHanded {} Try.checked os 7 .any (Rows.matrixInverseSpec.pre6 enc Try.prog Try.f7 Rows.matrixInverseRow.domain false) (Rows.matrixInverseSpec.post enc Try.prog Try.f7 false true false false) := by
  refine returnsInHanded_of_change (C := Try.checked) own started (by kernel_rfl) Try.func7
    (ChangeSpec.witness6 (enc := enc) (C := Try.checked) false ⟨#[], #[.slice none 0 0, .int .i64 0], []⟩ 8 (by kernel_rfl) (by kernel_rfl) (by kernel_rfl) (by kernel_rfl)) ?_
  intro W base args ds gs before hval0 hW hcnd _
  have hval : ∀ (j : Nat) t v, Try.f7.params.toList[j]? = some t → args.toList[j]? = some v → Value.okWide Try.prog W .any base t v := fun j t v h1 h2 => hval0 j t v (by simpa using h1) (by simpa using h2)
  have hW' := hW
  obtain ⟨p, q, hA0, hV, rfl, hfz, hnd⟩ := hW
  have hA : DataW.TrodAll enc Try.prog W 0 (fun _ => true) true Try.f7.params.toList args.toList ds p := hA0
  obtain ⟨rfl, rfl⟩ := trodVars_none hV
  have hlt : ∀ x ∈ p, x.block < W.heap.size := fun x hx => hW'.lt x (by simp [hx])
  have hps : Try.f7.params.toList = [31, 3] := by rw [Try.params7]
  rw [hps] at hA hval
  obtain ⟨m, h, avs, x, g1, _, _, g2, g3, g4⟩ := (good_as1 (good_slice Try.underlying31 (by kernel_rfl) (by decide) (good_byte Try.underlying5 (by kernel_rfl))) rfl (by kernel_rfl) (good_as1 (good_int Try.underlying3 (by kernel_rfl)) rfl (by kernel_rfl) good_as0)) H enc W base args.toList ds p hval hA _ _ (HRo.start W)
  obtain ⟨a0, a1, _⟩ := x
  obtain ⟨v0, _, rfl, ⟨u0, e0, w0⟩, ⟨_, _, rfl, ⟨e1, w1⟩, rfl⟩⟩ := g3
  obtain rfl := (List.cons.inj e0).1
  obtain rfl := (List.cons.inj e1).1
  have hcall := law_any mixed (k := 3000000 + 10) Try.func7 (by kernel_rfl) runs_ok g1 g2 (law_run 3000000 (by decide) h v0 a0 w0 a1 w1)
  refine hcall.mono fun e W' ⟨he, hg⟩ => ?_
  subst he
  simp only [List.append_nil] at hW' hA0 ⊢
  have hlen : ds.length = 2 := trodAll_len hA
  have hvars : (Rows.matrixInverseSpec.fn H (ds ++ [])).vars = [] ∧ (Rows.matrixInverseSpec.fn H (ds ++ [])).args = ds ∧ (Rows.matrixInverseSpec.fn H (ds ++ [])).results = [.lit (.bool true)] := by
    rw [List.append_nil]
    match ds, hlen with
    | [d0, d1], _ => exact ⟨rfl, rfl, rfl⟩
  obtain ⟨hv1, hv2, hv3⟩ := hvars
  refine ⟨_, rfl, law_post hW' rfl hg (fun _ _ _ => ?_) (fun sp hsp => ?_) hv1
    (ok_one (by kernel_rfl) rfl (okWide_bool_mk Try.underlying4 _))⟩
  · rw [hv3]
    exact (trodAll_cons_mk (shut_bool Try.underlying4 _) trodAll_mk0)
  · have hA1 := trodAll_below laid hg sp (ts := [31, 3]) (by decide +kernel) hlt hsp hA
    rw [hv2, hps]
    exact hA1

theorem over : Rows.matrixInverseRow.holds Try.pinned (OpenSpec.ofChange Rows.matrixInverseSpec) :=
  OpenClaim.holds_of_wide 7 Try.f7 rfl rfl rfl rfl rfl rfl rfl ⟨rfl, rfl, rfl, rfl, rfl⟩ rfl rfl rfl rfl rfl (by kernel_rfl) Try.func7 (by kernel_rfl)
    (of_decide_eq_true (by kernel_rfl)) (by unfold Func.isWrapper; first | (rw [if_pos (by decide +kernel)]; kernel_rfl) | (rw [if_neg (by decide +kernel)]; exact ⟨rfl, rfl⟩))
    (fun os started H enc _ => lifted os started H enc)

/-- The statement. -/
theorem proved : Rows.MatrixInverseSaid :=
  over
#print axioms proved
end Go.Proofs.Ytcgafaecdjbmiaa.cMatrixInverse
