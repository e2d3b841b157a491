/- The law MatrixIdentity returns true for every input, and its input reads behind the call as it did; no conditions. The kit's model is followed by an abstract machine that is shown to tell what the model does; the contracts of the functions are proved over that machine. -/
import Derived.Test.YtcgafaecdjbmiaaRows
import Derived.Test.YtcgafaecdjbmiaaRuns
import Derived.Test.YtcgafaecdjbmiaaMatX
import Derived.Test.YtcgafaecdjbmiaaArgs
import Derived.Test.YtcgafaecdjbmiaaBook
import Derived.WalkKit
import Derived.ProofKit
import Derived.OpenShut
import Derived.JoinedCond
namespace Go.Proofs.Ytcgafaecdjbmiaa.cMatrixIdentity
open Go Go.ChangeShapes Go.WideShapes Go.ChangeAt Go.RowKit Go.YtcgafaecdjbmiaaAbs
set_option linter.unusedSimpArgs false
set_option linter.unusedVariables false

set_option maxRecDepth 4000
theorem id_mul {n : Nat} : mtT n (idM n) (idM n) = idM n := mtT_id (idM_rows n)
theorem swp_mul {n i j : Nat} {A B : Mt} (hi : i < A.length) (hj : j < A.length) : mtT n (swpA A i j) B = swpA (mtT n A B) i j := by
  refine mt_ext (by rw [swpA_len, mtT_len, mtT_len, swpA_len]) fun k hk => ?_
  rw [mtT_len, swpA_len] at hk
  rw [mtT_row (by simpa using hk), swpA_row hi hj, swpA_row (by rw [mtT_len]; exact hi) (by rw [mtT_len]; exact hj)]
  by_cases q1 : k = j
  · rw [if_pos q1, if_pos q1, mtT_row hi]
  · rw [if_neg q1, if_neg q1]
    by_cases q2 : k = i
    · rw [if_pos q2, if_pos q2, mtT_row hj]
    · rw [if_neg q2, if_neg q2, mtT_row hk]
theorem swp_swp {i j : Nat} {A : Mt} (hi : i < A.length) (hj : j < A.length) : swpA (swpA A i j) i j = A := by
  refine mt_ext (by simp) fun k hk => ?_
  have hk : k < A.length := by simpa using hk
  rw [swpA_row (by simpa using hi) (by simpa using hj), swpA_row hi hj, swpA_row hi hj, swpA_row hi hj]
  by_cases q1 : k = j
  · rw [if_pos q1]
    by_cases q3 : i = j
    · rw [if_pos q3, q1, q3]
    · rw [if_neg q3, if_pos rfl, q1]
  · rw [if_neg q1]
    by_cases q2 : k = i
    · rw [if_pos q2, if_pos rfl, q2]
    · rw [if_neg q2, if_neg q1, if_neg q2]
theorem ev1_ne {n i j : Nat} (hi : i < n) (h : i ≠ j) : ev1 n i ≠ ev1 n j := fun q => by
  have e := congrArg (fun v : Vc => v[i]?.getD 0) q
  rw [ev1_get n i i hi, ev1_get n j i hi, if_pos rfl, if_neg (Ne.symm h)] at e
  exact absurd e (by decide)
theorem idM_row {n i : Nat} (h : i < n) : rowA (idM n) i = ev1 n i := rowA_get (idM_get h)
/-- A row twice. -/
theorem twice {n i j : Nat} {X : Mt} (h : RowsN n X) (hl : X.length = n) (hi : i < n) (hj : j < n) (hij : i ≠ j) (e : rowA X i = rowA X j) : rankA n X ≠ n := fun q => by
  obtain ⟨B, _, rB, lB, t1, t2⟩ := invA_ok h hl q
  have e1 := mtT_row (n := n) (A := X) (B := B) (i := i) (by omega)
  have e2 := mtT_row (n := n) (A := X) (B := B) (i := j) (by omega)
  rw [t2, idM_row hi] at e1
  rw [t2, idM_row hj, ← e] at e2
  exact ev1_ne hi hij (e1.trans e2.symm)
set_option maxHeartbeats 4000000 in
theorem law_run (k : Nat) (hk : 3000 < k) (h : Heap) (a0 : Int) (w0 : (Lit.int .i64 a0).wf = true) (a1 : Int) (w1 : (Lit.int .i64 a1).wf = true) (a2 : Int) (w2 : (Lit.int .i64 a2).wf = true) :
    ∃ v h', afuncT Try.prog [] (orRuns 3 (acall Try.prog (k + 10))) (k + 10) Try.f5 [.int .i64 a0, .int .i64 a1, .int .i64 a2] h = some (v, h') ∧ v = .bool true := by
  obtain ⟨n, W1, n1, n2⟩ := within_nat (k + 9) a0 2 9 (by omega) (by omega) (by omega) h
  have sn := i64w ((n : Int) - 1) (by omega) (by omega)
  obtain ⟨a, W2, z1, ha⟩ := within_nat (k + 9) a1 0 ((n : Int) - 1) (by omega) (by omega) (by omega) h
  obtain ⟨b, W3, z2, hb⟩ := within_nat (k + 9) a2 0 ((n : Int) - 1) (by omega) (by omega) (by omega) h
  obtain ⟨h1, h2, fb1, E1, hfb, lay, row, f2, K2⟩ := field_new (k + 9) (by omega) h
  obtain ⟨vm, h3, E3, N3⟩ := identity_ok (k + 9) (by omega) h2 n (by omega) (by omega)
  obtain ⟨rsm, R3⟩ := N3.rd
  have lm := R3.sl.len'
  rw [idM_len] at lm
  have f3 := f2.ext N3.kb
  have ii : mtT n (idM n) (idM n) = idM n := id_mul
  obtain ⟨vv, h4, B4, b4, E4, p4, K4, N4, _⟩ := invert_ok (k + 6) (by omega) h3 _ f3 vm _ _ R3
  rw [sq_inv (idM_rows n) (idM_len n) (by omega) (by omega), (invA_back (idM_rows n) (idM_len n) (idM_rows n) (idM_len n) ii ii).2] at p4
  cases p4
  have N4 := N4 rfl
  have f4 := f3.ext K4
  obtain ⟨rs4, R3', A4, x4, _⟩ := id N3
  have R4 := R3'.ext K4
  have Wk4 : Wk h4 h4 (blks (vm :: rs4)) vm rs4 (idM n) := ⟨R4, A4, fun _ q => q, Keep.refl _ _ _, fun d hd => R4.lt hd⟩
  obtain ⟨ra, hra, Ma⟩ := Wk4.mine (j := a) (by rw [idM_len]; omega)
  obtain ⟨rb, hrb, Mb⟩ := Wk4.mine (j := b) (by rw [idM_len]; omega)
  obtain ⟨h5, h6, a5, a6, W6⟩ := Wk4.swap hra hrb
  have ixa := Wk4.ix (j := a) (by rw [idM_len]; omega)
  have ixb := Wk4.ix (j := b) (by rw [idM_len]; omega)
  have lda := Wk4.ld hra
  have ldb := Wk4.ld hrb
  have rwa := row1_one (show ra.one = true from Ma.oneV)
  have rwb := row1_one (show rb.one = true from Mb.oneV)
  have f6 : Fld h6 (.ptr fb1 0) := fld_keep f4 W6.kp (fun b' o e q => by
    obtain ⟨_, _, e', hlt⟩ := fld_lt f2
    cases e
    cases e'
    have := x4 _ q
    omega)
  obtain ⟨rs6, e6⟩ : ∃ rs6, (rs4.set a rb).set b ra = rs6 := ⟨_, rfl⟩
  rw [e6] at W6
  have R6 := rows_rd W6.rows
  have hS : RowsN n (swpA (idM n) a b) := swpA_rows (idM_rows n) (by rw [idM_len]; omega) (by rw [idM_len]; omega)
  have lS : (swpA (idM n) a b).length = n := by rw [swpA_len, idM_len]
  have ss : mtT n (swpA (idM n) a b) (swpA (idM n) a b) = idM n := by
    rw [swp_mul (by rw [idM_len]; omega) (by rw [idM_len]; omega), id_mtT hS lS, swp_swp (by rw [idM_len]; omega) (by rw [idM_len]; omega)]
  have hSr : ∀ k, k < n → rowA (swpA (idM n) a b) k = if k = b then ev1 n a else if k = a then ev1 n b else ev1 n k := fun k hk => by
    rw [swpA_row (by rw [idM_len]; omega) (by rw [idM_len]; omega), idM_row hk, idM_row (show a < n by omega), idM_row (show b < n by omega)]
  obtain ⟨S, eS⟩ : ∃ S, swpA (idM n) a b = S := ⟨_, rfl⟩
  rw [eS] at hS lS ss hSr R6 W6
  obtain ⟨vw, h7, B7, b7, E7, p7, K7, N7, _⟩ := invert_ok (k + 6) (by omega) h6 _ f6 vm _ _ R6
  have iS := (invA_back hS lS hS lS ss ss).2
  rw [sq_inv hS lS (by omega) (by omega), iS] at p7
  cases p7
  have N7 := N7 rfl
  have f7 := f6.ext K7
  have R7 := R6.ext K7
  have lm7 := R7.sl.len'
  -- the copy
  have V0 : Mine 1 0 (h7.new (.cells [] false)) (.sl h7.next 0 0 0 1 true) [] := by
    have := Mine.new (sz := 1) (n := 0) (m := 0) h7 [] (by simp) (Nat.le_refl _) (by simp) true
    simpa using this
  have k0 : Keep h7.next nob h7 (h7.new (.cells [] false)) := Keep.new (Nat.le_refl _) _
  have S7 := R7.sl.ext k0
  have one6 : rs6.all AV.one = true := W6.rows.own.one
  obtain ⟨vx, h8, b1, b2, b3, b4⟩ := V0.append (P := Try.prog) el27 (xt := 27) (by rw [Try.underlying27]; rfl) S7.alen S7.acells one6 (by rw [R7.len]; simp) (by rw [lS]; omega)
  simp at b2
  have K8 : Keep h7.next nob h7 h8 := k0.trans ⟨b4.1, fun d hd _ => b4.2 d (Nat.lt_of_lt_of_le hd k0.1) (fun q => by cases q; omega)⟩
  have new8 : ∀ d, Has vx d → h7.next ≤ d := fun d hd => by
    rcases b3 d hd with z | z
    · cases z; exact Nat.le_refl _
    · exact Nat.le_trans k0.1 z
  have l6 : rs6.length = n := by rw [R7.len, lS]
  rw [lS] at b2
  have R8 := R7.ext K8
  have f8 := f7.ext K8
  refine afuncT_ex rfl (by simp [Try.f5]) ?_
  -- what comes behind
  have fin : ∀ (h9 : Heap) (X : Mt) (rsx : List AV), Keep h7.next nob h7 h9 → Rd h9 vx rsx X → RowsN n X → X.length = n → ((rankA n X = n) ↔ a = b) → ∃ v10 h10 h11 vj, acall Try.prog (k + 10) 10 [.ptr fb1 0, vx] h9 = some (.tup [v10, .bool (decide (a = b))], h10) ∧ acall Try.prog (k + 10) 14 [.int .i64 (n : Nat)] h10 = some (vj, h11) ∧ acall Try.prog (k + 10) 11 [vv, vj] h11 = some (.bool true, h11) ∧ acall Try.prog (k + 10) 11 [vw, vm] h11 = some (.bool true, h11) := by
    intro h9 X rsx K9 Rx hX lX hrk
    have f9 := f7.ext K9
    obtain ⟨v10, h10, B10, b10, E10, p10, K10, _, _⟩ := invert_ok (k + 6) (by omega) h9 _ f9 vx _ _ Rx
    rw [sq_inv hX lX (by omega) (by omega)] at p10
    have hb10 : b10 = decide (a = b) := by
      by_cases q : rankA n X = n
      · obtain ⟨Y, hY, _⟩ := invA_ok hX lX q
        rw [hY] at p10
        cases p10
        simp [hrk.1 q]
      · rw [invA_no hX lX q] at p10
        cases p10
        have : ¬ a = b := fun z => q (hrk.2 z)
        simp [this]
    subst hb10
    obtain ⟨vj, h11, E11, N11⟩ := identity_ok (k + 9) (by omega) h10 n (by omega) (by omega)
    obtain ⟨_, Rj⟩ := N11.rd
    obtain ⟨_, Rw⟩ := N7.rd
    -- the first inverse was there ahead of the swap
    obtain ⟨rsv, Rv, Av, xv, _⟩ := N4
    have hv6 : Rd h6 vv rsv (idM n) := by
      refine rows_rd (Rv.keep W6.kp fun d hd q => ?_)
      have := xv d hd
      have := R3'.lt q
      omega
    have Rv' := (((hv6.ext K7).ext K9).ext K10).ext N11.kb
    have Rw' := ((Rw.ext K9).ext K10).ext N11.kb
    have Rm' := ((R7.ext K9).ext K10).ext N11.kb
    exact ⟨v10, h10, h11, vj, E10, E11, same_sq (k + 8) (by omega) h11 vv vj Rv' Rj (idM_rows n) (idM_len n) (by omega), same_sq (k + 8) (by omega) h11 vw vm Rw' Rm' hS lS (by omega)⟩
  by_cases hab : a = b
  · have Rx : Rd h8 vx rs6 S := ⟨by rw [lS]; exact b2.sl, R8.row⟩
    have hrk : rankA n S = n := (invA_back hS lS hS lS ss ss).1
    obtain ⟨v10, h10, h11, vj, E10, E11, F1, F2⟩ := fin h8 S rs6 K8 Rx hS lS ⟨fun _ => hab, fun _ => hrk⟩
    subst hab
    have er : ra = rb := Option.some.inj (hra.symm.trans hrb)
    subst er
    simp [Try.f5, W1, sn, W2, W3, E1, aalloc, afill, row, fieldC_len, hfb, lay, E3, lm, E4, ixa, lda, rwa, a5, a6, ixb, ldb, rwb, E7, b1]
    simp at E10
    simp [E10, E11, F1, F2]
  · have hab' : ¬ (a : Int) = (b : Int) := by omega
    obtain ⟨rb6, hrb6, Mb6⟩ := W6.mine (j := b) (by rw [lS]; omega)
    have ldx : aload Try.prog h8 31 vx.blk (vx.off + b) = some rb6 := b2.sl.ld (P := Try.prog) ta31 hrb6
    have ixxa := b2.sl.idx1 (P := Try.prog) Try.underlying27 ts31 (j := a) (by omega) .i64
    have ixxb := b2.sl.idx1 (P := Try.prog) Try.underlying27 ts31 (j := b) (by omega) .i64
    have rwb6 := row1_one (show rb6.one = true from Mb6.oneV)
    obtain ⟨h9, a9, M9, K9, n9⟩ := b2.lay1 (j := a) (x := rb6) (by omega) Mb6.oneV
    have K79 : Keep h7.next nob h7 h9 := K8.trans ⟨K9.1, fun d hd _ => K9.2 d (Nat.lt_of_lt_of_le hd K8.1) fun q => by have := new8 d q; omega⟩
    have R9 := R7.ext K79
    have hX : RowsN n (S.set a (rowA S b)) := fun r hr => by
      rcases List.mem_or_eq_of_mem_set hr with q | q
      · exact hS r q
      · rw [q]; exact hS.row (by omega)
    have lX : (S.set a (rowA S b)).length = n := by rw [List.length_set, lS]
    have Rx : Rd h9 vx (rs6.set a rb6) (S.set a (rowA S b)) := by
      refine ⟨by rw [lX]; exact M9.sl, fun i r L hr hL => ?_⟩
      by_cases q : a = i
      · subst q
        rw [List.getElem?_set_self (by omega)] at hr hL
        cases hr
        cases hL
        exact R9.row b rb6 _ hrb6 (rowA_mem (by omega)).1
      · rw [List.getElem?_set_ne q] at hr hL
        exact R9.row i r L hr hL
    have hne : rankA n (S.set a (rowA S b)) ≠ n := twice hX lX (i := a) (j := b) (by omega) (by omega) hab (by rw [rowA_set (by omega), if_pos rfl, rowA_set (by omega), if_neg hab])
    obtain ⟨v10, h10, h11, vj, E10, E11, F1, F2⟩ := fin h9 _ _ K79 Rx hX lX ⟨fun q => absurd q hne, fun q => absurd q hab⟩
    simp [hab] at E10
    simp [Try.f5, W1, sn, W2, W3, E1, aalloc, afill, row, fieldC_len, hfb, lay, E3, lm, E4, ixa, lda, rwa, a5, a6, ixb, ldb, rwb, E7, b1, hab, hab', ixxa, ixxb, ldx, rwb6, a9, E10, E11, F1, F2]


theorem own : ownKnob Try.prog.godebug = none := by kernel_rfl
theorem laid : laidOutB Try.prog = true := by kernel_rfl

set_option maxRecDepth 100000 in
theorem lifted (os : Os) (started : os.Started) (H : Type) (enc : TypeId × Value → H) :
    ReturnsInHanded {} Try.checked os 5 .any (Rows.matrixIdentitySpec.pre6 enc Try.prog Try.f5 Rows.matrixIdentityRow.domain false) (Rows.matrixIdentitySpec.post enc Try.prog Try.f5 false true false false) := by
  refine returnsInHanded_of_change (C := Try.checked) own started (by kernel_rfl) Try.func5
    (ChangeSpec.witness6 (enc := enc) (C := Try.checked) false ⟨#[], #[.int .i64 0, .int .i64 0, .int .i64 0], []⟩ 8 (by kernel_rfl) (by kernel_rfl) (by kernel_rfl) (by kernel_rfl)) ?_
  intro W base args ds gs before hval0 hW hcnd _
  have hval : ∀ (j : Nat) t v, Try.f5.params.toList[j]? = some t → args.toList[j]? = some v → Value.okWide Try.prog W .any base t v := fun j t v h1 h2 => hval0 j t v (by simpa using h1) (by simpa using h2)
  have hW' := hW
  obtain ⟨p, q, hA0, hV, rfl, hfz, hnd⟩ := hW
  have hA : DataW.TrodAll enc Try.prog W 0 (fun _ => true) true Try.f5.params.toList args.toList ds p := hA0
  obtain ⟨rfl, rfl⟩ := trodVars_none hV
  have hlt : ∀ x ∈ p, x.block < W.heap.size := fun x hx => hW'.lt x (by simp [hx])
  have hps : Try.f5.params.toList = [3, 3, 3] := by rw [Try.params5]
  rw [hps] at hA hval
  obtain ⟨m, h, avs, x, g1, _, _, g2, g3, g4⟩ := (good_as1 (good_int Try.underlying3 (by kernel_rfl)) rfl (by kernel_rfl) (good_as1 (good_int Try.underlying3 (by kernel_rfl)) rfl (by kernel_rfl) (good_as1 (good_int Try.underlying3 (by kernel_rfl)) rfl (by kernel_rfl) good_as0))) H enc W base args.toList ds p hval hA _ _ (HRo.start W)
  obtain ⟨a0, a1, a2, _⟩ := x
  obtain ⟨_, _, rfl, ⟨e0, w0⟩, ⟨_, _, rfl, ⟨e1, w1⟩, ⟨_, _, rfl, ⟨e2, w2⟩, rfl⟩⟩⟩ := g3
  obtain rfl := (List.cons.inj e0).1
  obtain rfl := (List.cons.inj e1).1
  obtain rfl := (List.cons.inj e2).1
  have hcall := law_any mixed (k := 3000000 + 10) Try.func5 (by kernel_rfl) runs_ok g1 g2 (law_run 3000000 (by decide) h a0 w0 a1 w1 a2 w2)
  refine hcall.mono fun e W' ⟨he, hg⟩ => ?_
  subst he
  simp only [List.append_nil] at hW' hA0 ⊢
  have hlen : ds.length = 3 := trodAll_len hA
  have hvars : (Rows.matrixIdentitySpec.fn H (ds ++ [])).vars = [] ∧ (Rows.matrixIdentitySpec.fn H (ds ++ [])).args = ds ∧ (Rows.matrixIdentitySpec.fn H (ds ++ [])).results = [.lit (.bool true)] := by
    rw [List.append_nil]
    match ds, hlen with
    | [d0, d1, d2], _ => exact ⟨rfl, rfl, rfl⟩
  obtain ⟨hv1, hv2, hv3⟩ := hvars
  refine ⟨_, rfl, law_post hW' rfl hg (fun _ _ _ => ?_) (fun sp hsp => ?_) hv1
    (ok_one (by kernel_rfl) rfl (okWide_bool_mk Try.underlying4 _))⟩
  · rw [hv3]
    exact (trodAll_cons_mk (shut_bool Try.underlying4 _) trodAll_mk0)
  · have hA1 := trodAll_below laid hg sp (ts := [3, 3, 3]) (by decide +kernel) hlt hsp hA
    rw [hv2, hps]
    exact hA1

theorem over : Rows.matrixIdentityRow.holds Try.pinned (OpenSpec.ofChange Rows.matrixIdentitySpec) :=
  OpenClaim.holds_of_wide 5 Try.f5 rfl rfl rfl rfl rfl rfl rfl ⟨rfl, rfl, rfl, rfl, rfl⟩ rfl rfl rfl rfl rfl (by kernel_rfl) Try.func5 (by kernel_rfl)
    (of_decide_eq_true (by kernel_rfl)) (by unfold Func.isWrapper; first | (rw [if_pos (by decide +kernel)]; kernel_rfl) | (rw [if_neg (by decide +kernel)]; exact ⟨rfl, rfl⟩))
    (fun os started H enc _ => lifted os started H enc)

/-- The statement. -/
theorem proved : Rows.MatrixIdentitySaid :=
  over
#print axioms proved
end Go.Proofs.Ytcgafaecdjbmiaa.cMatrixIdentity
