/- The law MatrixTimes returns true for every input, and its input reads behind the call as it did; no conditions. The kit's model is followed by an abstract machine that is shown to tell what the model does; the contracts of the functions are proved over that machine. -/
import Derived.Test.YtcgafaecdjbmiaaRows
import Derived.Test.YtcgafaecdjbmiaaRuns
import Derived.Test.YtcgafaecdjbmiaaMatX
import Derived.Test.YtcgafaecdjbmiaaArgs
import Derived.Test.YtcgafaecdjbmiaaBook
import Derived.WalkKit
import Derived.ProofKit
import Derived.OpenShut
import Derived.JoinedCond
namespace Go.Proofs.Ytcgafaecdjbmiaa.cMatrixTimes
open Go Go.ChangeShapes Go.WideShapes Go.ChangeAt Go.RowKit Go.YtcgafaecdjbmiaaAbs
set_option linter.unusedSimpArgs false
set_option linter.unusedVariables false

set_option maxRecDepth 4000
set_option maxHeartbeats 4000000 in
theorem law_run (k : Nat) (hk : 3000 < k) (h : Heap) (v0 : AV) (a0 : (List UInt8)) (w0 : SlA kByte h v0 a0) (v1 : AV) (a1 : (List UInt8)) (w1 : SlA kByte h v1 a1) (v2 : AV) (a2 : (List UInt8)) (w2 : SlA kByte h v2 a2) (a3 : Int) (w3 : (Lit.int .i64 a3).wf = true) :
    ∃ v h', afuncT Try.prog [] (orRuns 3 (acall Try.prog (k + 10))) (k + 10) Try.f8 [v0, v1, v2, .int .i64 a3] h = some (v, h') ∧ v = .bool true := by
  have S0 := sla_bytes w0
  have S1 := sla_bytes w1
  have S2 := sla_bytes w2
  obtain ⟨n, W1, n1, n2⟩ := within_nat (k + 9) a3 1 6 (by omega) (by omega) (by omega) h
  obtain ⟨h1, h2, b, E1, hb, lay, row, f2, K2⟩ := field_new (k + 9) (by omega) h
  obtain ⟨vx, h3, E3, X, N3, lX, rX⟩ := square_ok (k + 8) (by omega) h2 v0 a0 (S0.ext K2) n (by omega) (by omega)
  have K3 : Keep h.next nob h h3 := K2.trans (N3.kb.weak K2.1 fun _ _ q => q)
  obtain ⟨vy, h4, E4, Y, N4, lY, rY⟩ := square_ok (k + 8) (by omega) h3 v1 a1 (S1.ext K3) n (by omega) (by omega)
  have K4 : Keep h.next nob h h4 := K3.trans (N4.kb.weak K3.1 fun _ _ q => q)
  obtain ⟨vz, h5, E5, Z, N5, lZ, rZ⟩ := square_ok (k + 8) (by omega) h4 v2 a2 (S2.ext K4) n (by omega) (by omega)
  obtain ⟨_, Rx⟩ := ((N3.ext N4.kb).ext N5.kb).rd
  obtain ⟨_, Ry⟩ := (N4.ext N5.kb).rd
  obtain ⟨_, Rz⟩ := N5.rd
  have f5 := ((f2.ext N3.kb).ext N4.kb).ext N5.kb
  obtain ⟨vxy, h6, E6, N6⟩ := times_sq (k + 8) (by omega) h5 _ f5 vx vy _ _ X Y Rx Ry rX lX rY lY (by omega) (by omega)
  have rXY := mtT_rows rY X
  have lXY : (mtT n X Y).length = n := by rw [mtT_len, lX]
  have f6 := f5.ext N6.kb
  have Rx := Rx.ext N6.kb
  have Ry := Ry.ext N6.kb
  have Rz := Rz.ext N6.kb
  obtain ⟨_, Rxy⟩ := N6.rd
  obtain ⟨vyz, h7, E7, N7⟩ := times_sq (k + 8) (by omega) h6 _ f6 vy vz _ _ Y Z Ry Rz rY lY rZ lZ (by omega) (by omega)
  have rYZ := mtT_rows rZ Y
  have lYZ : (mtT n Y Z).length = n := by rw [mtT_len, lY]
  have f7 := f6.ext N7.kb
  have Rx := Rx.ext N7.kb
  have Ry := Ry.ext N7.kb
  have Rz := Rz.ext N7.kb
  have Rxy := Rxy.ext N7.kb
  obtain ⟨_, Ryz⟩ := N7.rd
  obtain ⟨vl, h8, E8, N8⟩ := times_sq (k + 8) (by omega) h7 _ f7 vxy vz _ _ (mtT n X Y) Z Rxy Rz rXY lXY rZ lZ (by omega) (by omega)
  have f8 := f7.ext N8.kb
  have Rx := Rx.ext N8.kb
  have Ry := Ry.ext N8.kb
  have Rxy := Rxy.ext N8.kb
  have Ryz := Ryz.ext N8.kb
  obtain ⟨_, Rl⟩ := N8.rd
  obtain ⟨vm, h9, E9, N9⟩ := times_sq (k + 8) (by omega) h8 _ f8 vx vyz _ _ X (mtT n Y Z) Rx Ryz rX lX rYZ lYZ (by omega) (by omega)
  rw [← mtT_assoc rZ rY] at N9
  have f9 := f8.ext N9.kb
  have Rx := Rx.ext N9.kb
  have Ry := Ry.ext N9.kb
  have Rxy := Rxy.ext N9.kb
  have Rl := Rl.ext N9.kb
  obtain ⟨_, Rm⟩ := N9.rd
  obtain ⟨vj, h10, E10, N10⟩ := identity_ok (k + 9) (by omega) h9 n (by omega) (by omega)
  obtain ⟨_, Rj⟩ := N10.rd
  have f10 := f9.ext N10.kb
  obtain ⟨ve, h11, E11, N11⟩ := times_sq (k + 8) (by omega) h10 _ f10 vx vj _ _ X (idM n) (Rx.ext N10.kb) Rj rX lX (idM_rows n) (idM_len n) (by omega) (by omega)
  rw [mtT_id rX] at N11
  have f11 := f10.ext N11.kb
  have K11 : Keep h9.next nob h9 h11 := N10.kb.trans (N11.kb.weak N10.kb.1 fun _ _ q => q)
  have Rx := Rx.ext K11
  have Ry := Ry.ext K11
  have Rxy := Rxy.ext K11
  have Rl := Rl.ext K11
  have Rm := Rm.ext K11
  obtain ⟨_, Re⟩ := N11.rd
  obtain ⟨_, h12, E12, rfl, K12⟩ := rank_ok (k + 6) (by omega) h11 _ f11 vxy _ _ Rxy
  have f12 := f11.ext K12
  have F1 := same_sq (k + 8) (by omega) h12 vl vm (Rl.ext K12) (Rm.ext K12) (mtT_rows rZ _) (by rw [mtT_len, lXY]) (by omega)
  have F2 := same_sq (k + 8) (by omega) h12 ve vx (Re.ext K12) (Rx.ext K12) rX lX (by omega)
  obtain ⟨_, h13, E13, rfl, K13⟩ := rank_ok (k + 6) (by omega) h12 _ f12 vx _ _ (Rx.ext K12)
  obtain ⟨_, h14, E14, rfl, K14⟩ := rank_ok (k + 6) (by omega) h13 _ (f12.ext K13) vy _ _ ((Ry.ext K12).ext K13)
  rw [sq_rank rXY lXY (by omega) (by omega)] at E12
  rw [sq_rank rX lX (by omega) (by omega)] at E13
  rw [sq_rank rY lY (by omega) (by omega)] at E14
  obtain ⟨m1, m2⟩ := rank_mul rX rY lY
  generalize rankA n (mtT n X Y) = rxy at *
  generalize rankA n X = rx at *
  generalize rankA n Y = ry at *
  refine afuncT_ex rfl (by simp [Try.f8]) ?_
  simp [Try.f8, W1, E1, aalloc, afill, row, fieldC_len, hb, lay, E3, E4, E5, E6, E7, E8, E9, E10, E11, E12, E13, E14, F1, F2, isLe (show (rxy : Int) ≤ (rx : Int) by omega), isLe (show (rxy : Int) ≤ (ry : Int) by omega)]


theorem own : ownKnob Try.prog.godebug = none := by kernel_rfl
theorem laid : laidOutB Try.prog = true := by kernel_rfl

set_option maxRecDepth 100000 in
theorem lifted (os : Os) (started : os.Started) (H : Type) (enc : TypeId × Value → H) :
    ReturnsInHanded {} Try.checked os 8 .any (Rows.matrixTimesSpec.pre6 enc Try.prog Try.f8 Rows.matrixTimesRow.domain false) (Rows.matrixTimesSpec.post enc Try.prog Try.f8 false true false false) := by
  refine returnsInHanded_of_change (C := Try.checked) own started (by kernel_rfl) Try.func8
    (ChangeSpec.witness6 (enc := enc) (C := Try.checked) false ⟨#[], #[.slice none 0 0, .slice none 0 0, .slice none 0 0, .int .i64 0], []⟩ 8 (by kernel_rfl) (by kernel_rfl) (by kernel_rfl) (by kernel_rfl)) ?_
  intro W base args ds gs before hval0 hW hcnd _
  have hval : ∀ (j : Nat) t v, Try.f8.params.toList[j]? = some t → args.toList[j]? = some v → Value.okWide Try.prog W .any base t v := fun j t v h1 h2 => hval0 j t v (by simpa using h1) (by simpa using h2)
  have hW' := hW
  obtain ⟨p, q, hA0, hV, rfl, hfz, hnd⟩ := hW
  have hA : DataW.TrodAll enc Try.prog W 0 (fun _ => true) true Try.f8.params.toList args.toList ds p := hA0
  obtain ⟨rfl, rfl⟩ := trodVars_none hV
  have hlt : ∀ x ∈ p, x.block < W.heap.size := fun x hx => hW'.lt x (by simp [hx])
  have hps : Try.f8.params.toList = [31, 31, 31, 3] := by rw [Try.params8]
  rw [hps] at hA hval
  obtain ⟨m, h, avs, x, g1, _, _, g2, g3, g4⟩ := (good_as1 (good_slice Try.underlying31 (by kernel_rfl) (by decide) (good_byte Try.underlying5 (by kernel_rfl))) rfl (by kernel_rfl) (good_as1 (good_slice Try.underlying31 (by kernel_rfl) (by decide) (good_byte Try.underlying5 (by kernel_rfl))) rfl (by kernel_rfl) (good_as1 (good_slice Try.underlying31 (by kernel_rfl) (by decide) (good_byte Try.underlying5 (by kernel_rfl))) rfl (by kernel_rfl) (good_as1 (good_int Try.underlying3 (by kernel_rfl)) rfl (by kernel_rfl) good_as0)))) H enc W base args.toList ds p hval hA _ _ (HRo.start W)
  obtain ⟨a0, a1, a2, a3, _⟩ := x
  obtain ⟨v0, _, rfl, ⟨u0, e0, w0⟩, ⟨v1, _, rfl, ⟨u1, e1, w1⟩, ⟨v2, _, rfl, ⟨u2, e2, w2⟩, ⟨_, _, rfl, ⟨e3, w3⟩, rfl⟩⟩⟩⟩ := g3
  obtain rfl := (List.cons.inj e0).1
  obtain rfl := (List.cons.inj e1).1
  obtain rfl := (List.cons.inj e2).1
  obtain rfl := (List.cons.inj e3).1
  have hcall := law_any mixed (k := 3000000 + 10) Try.func8 (by kernel_rfl) runs_ok g1 g2 (law_run 3000000 (by decide) h v0 a0 w0 v1 a1 w1 v2 a2 w2 a3 w3)
  refine hcall.mono fun e W' ⟨he, hg⟩ => ?_
  subst he
  simp only [List.append_nil] at hW' hA0 ⊢
  have hlen : ds.length = 4 := trodAll_len hA
  have hvars : (Rows.matrixTimesSpec.fn H (ds ++ [])).vars = [] ∧ (Rows.matrixTimesSpec.fn H (ds ++ [])).args = ds ∧ (Rows.matrixTimesSpec.fn H (ds ++ [])).results = [.lit (.bool true)] := by
    rw [List.append_nil]
    match ds, hlen with
    | [d0, d1, d2, d3], _ => exact ⟨rfl, rfl, rfl⟩
  obtain ⟨hv1, hv2, hv3⟩ := hvars
  refine ⟨_, rfl, law_post hW' rfl hg (fun _ _ _ => ?_) (fun sp hsp => ?_) hv1
    (ok_one (by kernel_rfl) rfl (okWide_bool_mk Try.underlying4 _))⟩
  · rw [hv3]
    exact (trodAll_cons_mk (shut_bool Try.underlying4 _) trodAll_mk0)
  · have hA1 := trodAll_below laid hg sp (ts := [31, 31, 31, 3]) (by decide +kernel) hlt hsp hA
    rw [hv2, hps]
    exact hA1

theorem over : Rows.matrixTimesRow.holds Try.pinned (OpenSpec.ofChange Rows.matrixTimesSpec) :=
  OpenClaim.holds_of_wide 8 Try.f8 rfl rfl rfl rfl rfl rfl rfl ⟨rfl, rfl, rfl, rfl, rfl⟩ rfl rfl rfl rfl rfl (by kernel_rfl) Try.func8 (by kernel_rfl)
    (of_decide_eq_true (by kernel_rfl)) (by unfold Func.isWrapper; first | (rw [if_pos (by decide +kernel)]; kernel_rfl) | (rw [if_neg (by decide +kernel)]; exact ⟨rfl, rfl⟩))
    (fun os started H enc _ => lifted os started H enc)

/-- The statement. -/
theorem proved : Rows.MatrixTimesSaid :=
  over
#print axioms proved
end Go.Proofs.Ytcgafaecdjbmiaa.cMatrixTimes
