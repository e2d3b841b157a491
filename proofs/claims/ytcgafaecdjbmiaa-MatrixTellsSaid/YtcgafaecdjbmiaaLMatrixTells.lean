/- The law MatrixTells returns true for every input, and its input reads behind the call as it did; no conditions. The kit's model is followed by an abstract machine that is shown to tell what the model does; the contracts of the functions are proved over that machine. -/
import Derived.Test.YtcgafaecdjbmiaaRows
import Derived.Test.YtcgafaecdjbmiaaMatrixTellsA
import Derived.Test.YtcgafaecdjbmiaaMatrixTellsB
import Derived.WalkKit
import Derived.ProofKit
import Derived.OpenShut
import Derived.JoinedCond
namespace Go.Proofs.Ytcgafaecdjbmiaa.cMatrixTells
open Go Go.ChangeShapes Go.WideShapes Go.ChangeAt Go.RowKit Go.YtcgafaecdjbmiaaAbs
set_option linter.unusedSimpArgs false
set_option linter.unusedVariables false

set_option maxRecDepth 4000
set_option maxHeartbeats 8000000 in
theorem law_run (k : Nat) (hk : 3000 < k) (h : Heap) (v0 : AV) (a0 : (List (List UInt8))) (w0 : SlA (kSlice kByte) h v0 a0) (v1 : AV) (a1 : (List (List UInt8))) (w1 : SlA (kSlice kByte) h v1 a1) (a2 : Int) (w2 : (Lit.int .i64 a2).wf = true) (a3 : Int) (w3 : (Lit.int .i64 a3).wf = true) :
    ∃ v h', afuncT Try.prog [8] (orRuns 3 (acall Try.prog (k + 10))) (k + 10) Try.f6 [v0, v1, .int .i64 a2, .int .i64 a3] h = some (v, h') ∧ v = .bool true := by
  obtain ⟨rs0, R0⟩ := rd_arg w0
  obtain ⟨rs1, R1⟩ := rd_arg w1
  obtain ⟨va, h1, E1, rsa, A, Ra, lA, rA, K1⟩ := few_ok (k + 9) (by omega) h v0 rs0 a0 R0
  obtain ⟨vb, h2, E2, rsb, B, Rb, lB, rB, K2⟩ := few_ok (k + 9) (by omega) h1 v1 rs1 a1 (R1.ext K1)
  have Ra := Ra.ext K2
  obtain ⟨h3, h4, fb1, E3, hfb, lay, row, f4, K4⟩ := field_new (k + 9) (by omega) h2
  have Ra := Ra.ext K4
  have Rb := Rb.ext K4
  refine afuncT_ex rfl (by simp [Try.f6]) ?_
  simp [Try.f6, E1, E2, E3, aalloc, afill, row, fieldC_len, hfb, lay]
  have lAd := lA
  refine W_cutLoop 0 (fun st => ∃ vf vo fs os, st.t.get 0 = some va ∧ st.t.get 1 = some vb ∧ st.t.get 2 = some (.int .i64 a2) ∧ st.t.get 3 = some (.int .i64 a3) ∧ st.t.get 9 = some (.ptr fb1 0) ∧ st.t.get 10 = some vo ∧ st.t.get 11 = some vf ∧ Ful h4 st.h vf vo fs os A A.length) ?_ ?_
  · refine W_loop (fun mm st => ∃ (i : Nat) (vf vo : AV) (fs os : List AV), mm = A.length - i ∧ i ≤ A.length ∧ st.t.get 0 = some va ∧ st.t.get 1 = some vb ∧ st.t.get 2 = some (.int .i64 a2) ∧ st.t.get 3 = some (.int .i64 a3) ∧ st.t.get 9 = some (.ptr fb1 0) ∧ st.t.get 10 = some vo ∧ st.t.get 11 = some vf ∧ st.t.get 12 = some (.int .i64 (i : Nat)) ∧ Ful h4 st.h vf vo fs os A i) A.length (by omega)
      ⟨0, .nils, .nils, [], [], by omega, by omega, by simp, by simp, by simp, by simp, by simp [hfb], by simp, by simp, by simp, Ful.nil h4 A⟩ ?_
    rintro mm ⟨t, h5⟩ ⟨i, vf, vo, fs, os, rfl, hi, q0, q1, q2, q3, q9, q10, q11, q12, F⟩
    simp only at q0 q1 q2 q3 q9 q10 q11 q12 F
    have R5 := Ra.ext F.kb
    have lv := R5.sl.len'
    by_cases hlt : i < A.length
    · obtain ⟨r, hr, Sr⟩ := R5.get hlt
      obtain ⟨hL, hLm⟩ := rowA_mem hlt
      have hLl := rA _ hLm
      generalize rowA A i = L at *
      have ix := R5.sl.idx1 (P := Try.prog) Try.underlying27 ts31 (j := i) hlt .i64
      have ld := R5.sl.ld (P := Try.prog) ta31 hr
      obtain ⟨_, h6, E6, rfl, g6, n6, K6⟩ := roomy_ok (k + 9) L r 9 h5 Sr (by omega) (by omega)
      have E6 : acall Try.prog (k + 10) 17 [r, .int .u8 9] h5 = _ := E6
      have R6 := R5.ext K6
      obtain ⟨vf', h7, vo', h8, e1, n1, g1, k1, e2, n2, F8⟩ := F.push hL K6 g6 n6 (by omega) 16 2 12 (by omega) (by omega)
      have vlt := R6.sl.blk_lt (by omega)
      have gv := R5.sl.blk_lt (by omega)
      have vlt4 := Ra.sl.blk_lt (by omega)
      have G1 := g1 (fun c => c = va.blk) (fun c hc => by subst hc; exact ⟨vlt, fun z => by have := F.nf _ z; omega⟩)
      have ld6 : aload Try.prog h7 31 va.blk (va.off + i) = some r := (R6.sl.keep' k1 (fun _ => ⟨vlt, fun z => by have := F.nf _ z; omega⟩)).ld (P := Try.prog) ta31 hr
      have lr := Sr.len'
      have asl : aslice Try.prog 31 (.sl h5.next 0 (L.length + 80) (L.length + 80) 1 true) none (some (.int .i64 (L.length : Nat))) none = some (.sl h5.next 0 L.length (L.length + 80) 1 true) := by
        simp [aslice, Try.underlying31, asub, abnds, abound, show (L.length : Int) ≤ (L.length : Int) + 80 by omega]
      have smr := Sr.same
      simp [q0, q1, q2, q3, q9, q10, q11, q12, lv, isLt (show (i : Int) < (A.length : Int) by omega), ix, ld, E6]
      refine W_lateG [0, 0, 2, 7, 0, 0, 0, 0, 192, 448, 960, 2016, 4064, 8191, 16383, 32767] [2, 12] 10 (fun c => c = va.blk) (by rfl) (by kernel_rfl) (by kernel_rfl) (by kernel_rfl) (by kernel_rfl) (fun c hc => by subst hc; exact vlt) ?_
      simp [resv, memN, isEff, isAlloc, isStore, mayEff, mayRead, alate_build, aalloc, afill, insFl, oblG, sameAV, Nat.testBit_eq_decide_div_mod_eq, q0, q1, q2, q3, q9, q10, q11, q12, e1, n1, G1, ix, ld6, smr, lr, asl, e2, n2, i64w ((i : Int) + 1) (by omega) (by omega)]
      exact ⟨A.length - (i + 1), by omega, i + 1, rfl, by omega, by simp, _, _, F8⟩
    · have e : i = A.length := by omega
      subst e
      simp [q0, q1, q2, q3, q9, q10, q11, q12, lv]
      exact ⟨fs, os, F⟩
  rintro ⟨t, h5⟩ ⟨vf, vo, fs, os, q0, q1, q2, q3, q9, q10, q11, F⟩
  simp only at q0 q1 q2 q3 q9 q10 q11 F
  have Ra5 := Ra.ext F.kb
  have Rb5 := Rb.ext F.kb
  have Ro5 := F.rd
  have f5 := f4.ext F.kb
  obtain ⟨vx, h6, bx, E6, hbx, K6, Nx, Zx⟩ := times_ok (k + 8) (by omega) h5 _ f5 vo vb _ _ A B Ro5 Rb5
  have f6 := f5.ext K6
  have Ra6 := Ra5.ext K6
  have Ro6 := Ro5.ext K6
  obtain ⟨vy, h7, by_, E7, hby, K7, Ny, Zy⟩ := rtimes_ok (k + 8) (by omega) h6 va vb _ _ A B Ra6 (Rb5.ext K6)
  rw [hbx] at hby
  subst hby
  have f7 := f6.ext K7
  obtain ⟨vu, h8, U, bu, E8, hbu, K8, Nu, Zu⟩ := invert_ok (k + 6) (by omega) h7 _ f7 vo _ A (Ro6.ext K7)
  obtain ⟨vw, h9, U', bw, E9, hbw, K9, Nw', Zw⟩ := rinvert_ok (k + 6) (by omega) h8 va _ A ((Ra6.ext K7).ext K8)
  rw [hbu] at hbw
  cases hbw
  have K59 : Keep h5.next nob h5 h9 := ((K6.trans (K7.weak K6.1 fun _ _ q => q)).trans (K8.weak (Nat.le_trans K6.1 K7.1) fun _ _ q => q)).trans (K9.weak (Nat.le_trans K6.1 (Nat.le_trans K7.1 K8.1)) fun _ _ q => q)
  have Ra9 := Ra5.ext K59
  have Ro9 := Ro5.ext K59
  have f9 := f5.ext K59
  have Sf9 := F.f.sl.ext K59
  have lv9 := Ra9.sl.len'
  simp [q0, q1, q2, q3, q9, q10, q11, E6, E7, E8, E9]
  refine W_cutLoop 2 (fun st => st.t.get 0 = some va ∧ st.t.get 2 = some (.int .i64 a2) ∧ st.t.get 3 = some (.int .i64 a3) ∧ st.t.get 9 = some (.ptr fb1 0) ∧ st.t.get 10 = some vo ∧ st.t.get 14 = some vx ∧ st.t.get 15 = some (.bool bx) ∧ st.t.get 16 = some vy ∧ st.t.get 17 = some (.bool bx) ∧ st.t.get 18 = some vu ∧ st.t.get 19 = some (.bool bu) ∧ st.t.get 20 = some vw ∧ st.t.get 21 = some (.bool bu) ∧ st.h = h9) ?_ ?_
  · refine W_loop (fun mm st => ∃ i : Nat, mm = A.length - i ∧ i ≤ A.length ∧ st.t.get 0 = some va ∧ st.t.get 2 = some (.int .i64 a2) ∧ st.t.get 3 = some (.int .i64 a3) ∧ st.t.get 9 = some (.ptr fb1 0) ∧ st.t.get 10 = some vo ∧ st.t.get 11 = some vf ∧ st.t.get 14 = some vx ∧ st.t.get 15 = some (.bool bx) ∧ st.t.get 16 = some vy ∧ st.t.get 17 = some (.bool bx) ∧ st.t.get 18 = some vu ∧ st.t.get 19 = some (.bool bu) ∧ st.t.get 20 = some vw ∧ st.t.get 21 = some (.bool bu) ∧ st.t.get 22 = some (.int .i64 (i : Nat)) ∧ st.h = h9) A.length (by omega)
      ⟨0, by omega, by omega, by simp [q0], by simp [q2], by simp [q3], by simp [q9], by simp [q10], by simp [q11], by simp, by simp, by simp, by simp, by simp, by simp, by simp, by simp, by simp, by simp⟩ ?_
    clear q0 q1 q2 q3 q9 q10 q11
    rintro mm ⟨t, h10⟩ ⟨i, rfl, hi, q0, q2, q3, q9, q10, q11, q14, q15, q16, q17, q18, q19, q20, q21, q22, e⟩
    simp only at q0 q2 q3 q9 q10 q11 q14 q15 q16 q17 q18 q19 q20 q21 q22 e
    replace e := e.symm
    subst e
    by_cases hlt : i < A.length
    · obtain ⟨r, hr, Sr⟩ := Ra9.get hlt
      obtain ⟨hL, hLm⟩ := rowA_mem hlt
      have hLl := rA _ hLm
      obtain ⟨r2, hr2, S2⟩ := F.full hL
      have S2 := S2.ext K59
      generalize rowA A i = L at *
      have ix := Ra9.sl.idx1 (P := Try.prog) Try.underlying27 ts31 (j := i) hlt .i64
      have ld := Ra9.sl.ld (P := Try.prog) ta31 hr
      have ixf := Sf9.idx1 (P := Try.prog) Try.underlying27 ts31 (j := i) hlt .i64
      have ldf := Sf9.ld (P := Try.prog) ta31 hr2
      have I : acall Try.prog (k + 10) 21 [r2, r, .int .u8 9] h9 = _ := intact_ok (k + 8) L r2 r 9 h9 S2 Sr (by omega) (by omega)
      simp [q0, q2, q3, q9, q10, q11, q14, q15, q16, q17, q18, q19, q20, q21, q22, lv9, isLt (show (i : Int) < (A.length : Int) by omega), ix, ld, ixf, ldf, I, i64w ((i : Int) + 1) (by omega) (by omega)]
      exact ⟨A.length - (i + 1), by omega, i + 1, rfl, by omega, by simp⟩
    · simp [q0, q2, q3, q9, q10, q11, q14, q15, q16, q17, q18, q19, q20, q21, q22, lv9, isLe (show (A.length : Int) ≤ (i : Int) by omega)]
  clear q0 q1 q2 q3 q9 q10 q11
  rintro ⟨t, h10⟩ ⟨q0, q2, q3, q9, q10, q14, q15, q16, q17, q18, q19, q20, q21, e⟩
  simp only at q0 q2 q3 q9 q10 q14 q15 q16 q17 q18 q19 q20 q21 e
  subst e
  have Y1 : acall Try.prog (k + 10) 22 [vo] h10 = _ := right_ok (k + 9) (by omega) h10 vo _ A Ro9
  have Y2 : acall Try.prog (k + 10) 23 [va] h10 = _ := rright_ok (k + 9) (by omega) h10 va _ A Ra9
  have K69 : Keep h6.next nob h6 h10 := (K7.trans (K8.weak K7.1 fun _ _ q => q)).trans (K9.weak (Nat.le_trans K7.1 K8.1) fun _ _ q => q)
  have K79 : Keep h7.next nob h7 h10 := K8.trans (K9.weak K8.1 fun _ _ q => q)
  have Y3 := same_out (k + 8) (by omega) h10 vx vy (timesP A B).1 bx (fun q => ((Nx q).ext K69).rd) Zx (fun q => ((Ny q).ext K79).rd) Zy (fun q => timesP_small (hbx.trans q))
  have Y4 := same_out (k + 8) (by omega) h10 vu vw U bu (fun q => ((Nu q).ext K9).rd) Zu Nw' Zw (fun q => invP_small (by rw [hbu, q]))
  obtain ⟨i1, h11, i2, h12, Z1, Z2, Z3, K12⟩ := both_id k (by omega) h10 a2
  obtain ⟨c1, h13, c2, h14, Z4, Z5, Z6, K14⟩ := both_cau k (by omega) h12 _ (f9.ext K12) a2 a3
  simp [q0, q2, q3, q9, q10, q14, q15, q16, q17, q18, q19, q20, q21, Y1, Y2, Y3, Y4, Z1, Z2, Z3, Z4, Z5, Z6]


theorem own : ownKnob Try.prog.godebug = none := by kernel_rfl
theorem laid : laidOutB Try.prog = true := by kernel_rfl

set_option maxRecDepth 100000 in
theorem lifted (os : Os) (started : os.Started) (H : Type) (enc : TypeId × Value → H) :
    ReturnsInHanded {} Try.checked os 6 .any (Rows.matrixTellsSpec.pre6 enc Try.prog Try.f6 Rows.matrixTellsRow.domain false) (Rows.matrixTellsSpec.post enc Try.prog Try.f6 false true false false) := by
  refine returnsInHanded_of_change (C := Try.checked) own started (by kernel_rfl) Try.func6
    (ChangeSpec.witness6 (enc := enc) (C := Try.checked) false ⟨#[], #[.slice none 0 0, .slice none 0 0, .int .i64 0, .int .i64 0], []⟩ 8 (by kernel_rfl) (by kernel_rfl) (by kernel_rfl) (by kernel_rfl)) ?_
  intro W base args ds gs before hval0 hW hcnd _
  have hval : ∀ (j : Nat) t v, Try.f6.params.toList[j]? = some t → args.toList[j]? = some v → Value.okWide Try.prog W .any base t v := fun j t v h1 h2 => hval0 j t v (by simpa using h1) (by simpa using h2)
  have hW' := hW
  obtain ⟨p, q, hA0, hV, rfl, hfz, hnd⟩ := hW
  have hA : DataW.TrodAll enc Try.prog W 0 (fun _ => true) true Try.f6.params.toList args.toList ds p := hA0
  obtain ⟨rfl, rfl⟩ := trodVars_none hV
  have hlt : ∀ x ∈ p, x.block < W.heap.size := fun x hx => hW'.lt x (by simp [hx])
  have hps : Try.f6.params.toList = [27, 27, 3, 3] := by rw [Try.params6]
  rw [hps] at hA hval
  obtain ⟨m, h, avs, x, g1, _, _, g2, g3, g4⟩ := (good_as1 (good_slice Try.underlying27 (by kernel_rfl) (by decide) (good_slice Try.underlying31 (by kernel_rfl) (by decide) (good_byte Try.underlying5 (by kernel_rfl)))) rfl (by kernel_rfl) (good_as1 (good_slice Try.underlying27 (by kernel_rfl) (by decide) (good_slice Try.underlying31 (by kernel_rfl) (by decide) (good_byte Try.underlying5 (by kernel_rfl)))) rfl (by kernel_rfl) (good_as1 (good_int Try.underlying3 (by kernel_rfl)) rfl (by kernel_rfl) (good_as1 (good_int Try.underlying3 (by kernel_rfl)) rfl (by kernel_rfl) good_as0)))) H enc W base args.toList ds p hval hA _ _ (HRo.start W)
  obtain ⟨a0, a1, a2, a3, _⟩ := x
  obtain ⟨v0, _, rfl, ⟨u0, e0, w0⟩, ⟨v1, _, rfl, ⟨u1, e1, w1⟩, ⟨_, _, rfl, ⟨e2, w2⟩, ⟨_, _, rfl, ⟨e3, w3⟩, rfl⟩⟩⟩⟩ := g3
  obtain rfl := (List.cons.inj e0).1
  obtain rfl := (List.cons.inj e1).1
  obtain rfl := (List.cons.inj e2).1
  obtain rfl := (List.cons.inj e3).1
  have hcall := law_any mixed (k := 3000000 + 10) Try.func6 (by kernel_rfl) runs_ok g1 g2 (law_run 3000000 (by decide) h v0 a0 w0 v1 a1 w1 a2 w2 a3 w3)
  refine hcall.mono fun e W' ⟨he, hg⟩ => ?_
  subst he
  simp only [List.append_nil] at hW' hA0 ⊢
  have hlen : ds.length = 4 := trodAll_len hA
  have hvars : (Rows.matrixTellsSpec.fn H (ds ++ [])).vars = [] ∧ (Rows.matrixTellsSpec.fn H (ds ++ [])).args = ds ∧ (Rows.matrixTellsSpec.fn H (ds ++ [])).results = [.lit (.bool true)] := by
    rw [List.append_nil]
    match ds, hlen with
    | [d0, d1, d2, d3], _ => exact ⟨rfl, rfl, rfl⟩
  obtain ⟨hv1, hv2, hv3⟩ := hvars
  refine ⟨_, rfl, law_post hW' rfl hg (fun _ _ _ => ?_) (fun sp hsp => ?_) hv1
    (ok_one (by kernel_rfl) rfl (okWide_bool_mk Try.underlying4 _))⟩
  · rw [hv3]
    exact (trodAll_cons_mk (shut_bool Try.underlying4 _) trodAll_mk0)
  · have hA1 := trodAll_below laid hg sp (ts := [27, 27, 3, 3]) (by decide +kernel) hlt hsp hA
    rw [hv2, hps]
    exact hA1

theorem over : Rows.matrixTellsRow.holds Try.pinned (OpenSpec.ofChange Rows.matrixTellsSpec) :=
  OpenClaim.holds_of_wide 6 Try.f6 rfl rfl rfl rfl rfl rfl rfl ⟨rfl, rfl, rfl, rfl, rfl⟩ rfl rfl rfl rfl rfl (by kernel_rfl) Try.func6 (by kernel_rfl)
    (of_decide_eq_true (by kernel_rfl)) (by unfold Func.isWrapper; first | (rw [if_pos (by decide +kernel)]; kernel_rfl) | (rw [if_neg (by decide +kernel)]; exact ⟨rfl, rfl⟩))
    (fun os started H enc _ => lifted os started H enc)

/-- The statement. -/
theorem proved : Rows.MatrixTellsSaid :=
  over
#print axioms proved
end Go.Proofs.Ytcgafaecdjbmiaa.cMatrixTells
