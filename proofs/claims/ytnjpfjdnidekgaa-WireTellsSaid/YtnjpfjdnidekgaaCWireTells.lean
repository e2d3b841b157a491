/- The law WireTells returns true for every input, and its input reads behind the call as it did; no conditions. The kit's model is followed by an abstract machine that is shown to tell what the model does; the contracts of the functions are proved over that machine. -/
import Derived.Test.YtnjpfjdnidekgaaRows
import Derived.Test.YtnjpfjdnidekgaaRuns
import Derived.Test.YtnjpfjdnidekgaaWireL
import Derived.WalkKit
import Derived.ProofKit
import Derived.OpenShut
import Derived.JoinedCond
namespace Go.Proofs.Ytnjpfjdnidekgaa.cWireTells
open Go Go.ChangeShapes Go.WideShapes Go.ChangeAt Go.RowKit Go.YtnjpfjdnidekgaaAbs
set_option linter.unusedSimpArgs false
set_option linter.unusedVariables false

set_option maxRecDepth 4000
set_option maxHeartbeats 4000000 in
theorem law_run (k : Nat) (hk : 2900000 < k) (h : Heap) (c0 : List AV) (a0 : FrT) (o0 : c0.all AV.one = true) (l0 : c0.length = kFr.sz) (w0 : kFr.rd h c0 a0) (v1 : AV) (a1 : (List UInt8)) (w1 : SlA kByte h v1 a1) (a2 : Int) (w2 : (Lit.int .i64 a2).wf = true) (a3 : UInt8) (a4 : Int) (w4 : (Lit.int .i64 a4).wf = true) :
    ∃ v h', afuncT Try.prog [17] (orRuns 3 (acall Try.prog (k + 10))) (k + 10) Try.f4 [.agg c0, v1, .int .i64 a2, .int .u8 (a3.toNat : Nat), .int .i64 a4] h = some (v, h') ∧ v = .bool true := by
  obtain ⟨hc, zk, zd⟩ := fr_arg l0 w0
  rw [hc]
  clear hc w0 l0 o0
  generalize frOf a0 = f at *
  have s1 := sla_bytes w1
  have rw1 : (AV.agg f.c).row1 = some f.c := rfl
  obtain ⟨h1, e1⟩ : ∃ h1, h.new (.cells f.c false) = h1 := ⟨_, rfl⟩
  have g1 : h1.get h.next = some (.cells f.c false) := by rw [← e1]; exact get_new_self _ _
  have n1 : h.next < h1.next := by rw [← e1]; exact Nat.lt_succ_self _
  have K1 : Keep h.next nob h h1 := by rw [← e1]; exact Keep.new (Nat.le_refl _) _
  have L1 := fr_ld g1
  obtain ⟨_, h2, E2, ⟨B, rfl⟩, k2⟩ := light_ok (k + 9) h1 f
  have K2 := K1.trans (k2.weak K1.1 fun _ _ q => q)
  have g2 : h2.get h.next = some (.cells f.c false) := (k2.2 _ n1 id).trans g1
  have n2 : h.next < h2.next := Nat.lt_of_lt_of_le n1 k2.1
  have L2 := fr_ld g2
  have S2 := s1.ext K2
  refine afuncT_ex rfl (by simp [Try.f4]) ?_
  simp [Try.f4, rw1, e1]
  cases B with
  | false => simp [L1, E2]
  | true =>
  by_cases hlen : 500 < a1.length
  · simp [L1, E2, S2.len', isLt (show (500 : Int) < (a1.length : Int) by omega)]
  simp [L1, E2, S2.len', isLe (show (a1.length : Int) ≤ 500 by omega), -W_regionL, W_stopL 4]
  obtain ⟨_, h3, E3, rfl, k3⟩ := rRight_ok (k + 9) h2 f zk zd
  have K3 := K2.trans (k3.weak K2.1 fun _ _ q => q)
  have g3 : h3.get h.next = some (.cells f.c false) := (k3.2 _ n2 id).trans g2
  have n3 : h.next < h3.next := Nat.lt_of_lt_of_le n2 k3.1
  have L3 := fr_ld g3
  refine W_cutR rfl (fun st => st.h = h3 ∧ st.t.get 1 = some v1 ∧ st.t.get 2 = some (.int .i64 a2) ∧ st.t.get 3 = some (.int .u8 (a3.toNat : Nat)) ∧ st.t.get 4 = some (.int .i64 a4) ∧ st.t.get 5 = some (.ptr h.next 0) ∧ st.t.get 11 = some v1 ∧ st.t.get 33 = some (.bool (decide (f.R ∧ 0 ≤ a4)))) ?_ ?_
  · by_cases hR : f.R
    · rw [decide_eq_true hR] at E3
      by_cases h4 : 0 ≤ a4
      · simp [L2, E3, isLe h4, hR, h4]
      · simp [L2, E3, isLt (show a4 < 0 by omega), hR, h4]
    · rw [decide_eq_false hR] at E3
      simp [L2, E3, hR]
  rintro ⟨t, h4⟩ ⟨e4, q1, q2, q3, q4, q5, q11, q33⟩
  obtain rfl : h4 = h3 := e4
  simp only at q1 q2 q3 q4 q5 q11 q33
  simp [-W_cond]
  refine W_cutN (fun st => ∃ (y : AV) (L : List UInt8), L.length ≤ 1050200 ∧ st.t.get 5 = some (.ptr h.next 0) ∧ st.t.get 11 = some y ∧ Sl 1 L.length st.h y (L.map bb) ∧ Keep h4.next nob h4 st.h) ?_ ?_
  · by_cases hc : f.R ∧ 0 ≤ a4
    rotate_left
    · rw [decide_eq_false hc] at q33
      simp [q33, q5, q11]
      exact ⟨v1, a1, by omega, rfl, s1.ext K3, Keep.refl _ _ _⟩
    rw [decide_eq_true hc] at q33
    obtain ⟨hR, h40⟩ := hc
    obtain ⟨y, h5, E5, Y, k5⟩ := rPut_ok (k + 7) (by omega) h4 f zk zd
    have pl := Fr.put_len (f := f)
    have pp : 1 ≤ f.put.length := by
      have := packN_len f.ver
      unfold Fr.put
      rw [if_pos hR]
      unfold Fr.enc
      rw [List.length_append, List.length_append]
      omega
    generalize f.put = P at *
    have e1 : acall Try.prog (k + 10) 12 [.int .i64 a2, .int .i64 0, .int .i64 ((P.length : Int) - 1)] h5 = _ := within_ok (k + 9) a2 0 ((P.length : Int) - 1) (by omega) (by omega) (by omega) h5
    have b1 : 0 ≤ a2 % ((P.length : Int) - 1 - 0 + 1) := Int.emod_nonneg _ (by omega)
    have b2 : a2 % ((P.length : Int) - 1 - 0 + 1) < (P.length : Int) - 1 - 0 + 1 := Int.emod_lt_of_pos _ (by omega)
    generalize a2 % ((P.length : Int) - 1 - 0 + 1) = q at e1 b1 b2
    obtain ⟨c, hc⟩ := Int.eq_ofNat_of_zero_le (show 0 ≤ 0 + q by omega)
    rw [hc] at e1
    have hcl : c < P.length := by omega
    have Ys := Y.sl
    have hm : a4.tmod 4 = a4 % 4 := Int.tmod_eq_emod_of_nonneg h40
    have w5 := i64w ((P.length : Int) - 1) (by omega) (by omega)
    have hcases : a4.tmod 4 = 0 ∨ a4.tmod 4 = 1 ∨ a4.tmod 4 = 2 ∨ a4.tmod 4 = 3 := by omega
    rcases hcases with c4 | c4 | c4 | c4
    · have ix := Ys.idx1 (P := Try.prog) Try.underlying22 ts5 (j := c) hcl .i64
      obtain ⟨h6, E6, Y6, k6, _⟩ := Y.lay1 (x := .int .u8 (a3.toNat : Nat)) hcl rfl
      have es : (P.map bb).set c (.int .u8 (a3.toNat : Nat)) = (P.set c a3).map bb := by rw [List.map_set]; rfl
      rw [es, show P.length = (P.set c a3).length by simp] at Y6
      simp [q33, q1, q2, q3, q4, q5, q11, fr_ld g3, E5, Ys.len', w5, e1, c4, ix, E6]
      exact ⟨y, P.set c a3, by simp; omega, rfl, Y6.sl, k5.trans k6⟩
    · obtain ⟨z, z1, Z⟩ := Ys.to (P := Try.prog) (ty := 22) Try.underlying22 ts5 (k := .i64) (j := c) (by omega)
      rw [Nat.mul_one, ← List.map_take] at Z
      have lc : (P.take c).length = c := by rw [List.length_take]; omega
      have Z : Sl 1 (P.take c).length h5 z ((P.take c).map bb) := by rw [lc]; exact Z
      simp [q33, q1, q2, q3, q4, q5, q11, fr_ld g3, E5, Ys.len', w5, e1, c4, z1]
      exact ⟨z, P.take c, by omega, rfl, Z, k5⟩
    · obtain ⟨h6, e6⟩ : ∃ h6, h5.new (.cells [.int .u8 (a3.toNat : Nat)] false) = h6 := ⟨_, rfl⟩
      have k6 : Keep h5.next nob h5 h6 := by rw [← e6]; exact Keep.new (Nat.le_refl _) _
      have S6 : Sl 1 [a3].length h6 (.sl h5.next 0 1 1 1 true) ([a3].map bb) := by rw [← e6]; exact sl_new1 h5 a3 true
      obtain ⟨z, h7, E7, V7, k7⟩ := vec_append (P := Try.prog) el22 (xt := 22) (by rw [Try.underlying22]; rfl) (Y.ext k6) S6.alen S6.acells (bb_one [a3]) (by simp) (by simp; omega) (Nat.le_trans k5.1 k6.1)
      have V7 := V7.sl
      rw [← List.map_append, show P.length + [a3].length = (P ++ [a3]).length by simp] at V7
      simp [q33, q1, q2, q3, q4, q5, q11, fr_ld g3, E5, Ys.len', w5, e1, c4, aalloc, afill, e6, E7]
      exact ⟨z, P ++ [a3], by simp; omega, rfl, V7, (k5.trans (k6.weak k5.1 fun _ _ q => q)).trans k7⟩
    · simp [q33, q1, q2, q3, q4, q5, q11, fr_ld g3, E5, Ys.len', w5, e1, c4]
      exact ⟨y, P, by omega, rfl, Ys, k5⟩
  rintro ⟨t, h5⟩ ⟨y, L, hL, q5, q11, Y, K5⟩
  simp only at q5 q11 Y K5
  have n5 : h.next < h5.next := Nat.lt_of_lt_of_le n3 K5.1
  have g5 : h5.get h.next = some (.cells f.c false) := (K5.2 _ n3 id).trans g3
  clear g1 g2 g3 n1 n2 n3 L1 L2 L3 E2 E3 k2 k3
  obtain ⟨x, h6, E6, ex, gx, nx, k6⟩ := roomy_ok (k + 9) L y 3 h5 Y (by omega) (by omega)
  subst ex
  have E6 : acall Try.prog (k + 10) 13 [y, .int .u8 3] h5 = _ := E6
  have rl : ∀ (a : List UInt8) m, (roomy a m).length = a.length + 80 := fun a m => by unfold roomy; simp
  have X : Sl 1 (L.length + 80) h6 (.sl h5.next 0 (L.length + 80) (L.length + 80) 1 true) (roomy L 3) := .inr (.inr ⟨h5.next, 0, _, true, _, false, rfl, nx, gx, by rw [rl]; omega, by rw [rl]; omega, by rw [List.drop_zero, List.take_of_length_le (by rw [rl]; omega)], Nat.le_refl _⟩)
  generalize (AV.sl h5.next 0 (L.length + 80) (L.length + 80) 1 true) = x at X E6
  obtain ⟨x', gx', X'⟩ := X.to (P := Try.prog) (ty := 22) Try.underlying22 ts5 (k := .i64) (j := L.length) (by omega)
  have ht : (roomy L 3).take (L.length * 1) = L.map bb := by
    unfold roomy
    rw [Nat.mul_one, List.take_append_of_le_length (by simp), List.take_of_length_le (by simp)]
  rw [ht] at X'
  have n6 : h.next < h6.next := Nat.lt_of_lt_of_le n5 k6.1
  obtain ⟨_, h7, E7, rfl, k7⟩ := wGet_ok (k + 5) (by omega) h6 x' L X' (by omega)
  obtain ⟨h8, E8, g8, n8, k8⟩ := fr_new h7 (getR L).1
  have K8 : Keep h5.next nob h5 h8 := (k6.trans (k7.weak k6.1 fun _ _ q => q)).trans (k8.weak (Nat.le_trans k6.1 k7.1) fun _ _ q => q)
  obtain ⟨_, h9, E9, rfl, k9⟩ := rGet_ok (k + 5) (by omega) h8 y L (Y.ext K8) (by omega)
  obtain ⟨h10, E10, g10, n10, k10⟩ := fr_new h9 (getR L).1
  have K10 : Keep h5.next nob h5 h10 := (K8.trans (k9.weak K8.1 fun _ _ q => q)).trans (k10.weak (Nat.le_trans K8.1 k9.1) fun _ _ q => q)
  have k810 : Keep h8.next nob h8 h10 := k9.trans (k10.weak k9.1 fun _ _ q => q)
  have X10 := ((X.ext k7).ext k8).ext k810
  have Y10 := Y.ext K10
  obtain ⟨_, h11, E11, rfl, k11⟩ := wRight_ok (k + 8) h10 f zk zd
  obtain ⟨_, h12, E12, rfl, k12⟩ := rRight_ok (k + 9) h11 f zk zd
  obtain ⟨p1, h13, E13, P1, k13⟩ := wPut_ok (k + 7) (by omega) h12 f zk zd
  obtain ⟨p2, h14, E14, P2, k14⟩ := rPut_ok (k + 7) (by omega) h13 f zk zd
  have pl := Fr.put_len (f := f)
  have E15 := sameB_ok (k + 9) f.put f.put p1 p2 h14 (P1.sl.ext k14) P2.sl (by omega) (by omega)
  have k12' := k11.trans (k12.weak k11.1 fun _ _ q => q)
  have k13' := k12'.trans (k13.weak k12'.1 fun _ _ q => q)
  have k14' := k13'.trans (k14.weak k13'.1 fun _ _ q => q)
  have E16 := intact_ok (k + 8) L x y 3 h14 (X10.ext k14') (Y10.ext k14') (by omega) (by omega)
  have E16 : acall Try.prog (k + 10) 16 [x, y, .int .u8 3] h14 = _ := E16
  have n510 := K10.1
  have n78 := k8.1
  have n67 := k7.1
  have n56 := k6.1
  have n810 := k810.1
  have n9 := k10.1
  have b5 : h.next < h10.next := by omega
  have b14 : h7.next < h10.next := by omega
  have G5 : h10.get h.next = some (.cells f.c false) := (K10.2 _ n5 id).trans g5
  have G14 : h10.get h7.next = some (.cells (getR L).1.c false) := (k810.2 _ n8 id).trans g8
  have A11 : Agree h10.next h10 h11 := fun c hc => k11.2 c hc id
  have A12 : Agree h10.next h11 h12 := fun c hc => k12.2 c (Nat.lt_of_lt_of_le hc k11.1) id
  have A13 : Agree h10.next h12 h13 := fun c hc => k13.2 c (Nat.lt_of_lt_of_le hc k12'.1) id
  have A14 : Agree h10.next h13 h14 := fun c hc => k14.2 c (Nat.lt_of_lt_of_le hc k13'.1) id
  have A0 : Agree h10.next h14 h14 := fun _ _ => rfl
  have Ld : ∀ h', Keep h10.next nob h10 h' → aload Try.prog h' 25 h.next 0 = some (.agg f.c) ∧ aload Try.prog h' 25 h7.next 0 = some (.agg (getR L).1.c) ∧ aload Try.prog h' 25 h9.next 0 = some (.agg (getR L).1.c) := fun h' K =>
    ⟨(fr_ld ((K.2 _ b5 id).trans G5)).2.2.2.2.2.2.2.2.2, (fr_ld ((K.2 _ b14 id).trans G14)).2.2.2.2.2.2.2.2.2, (fr_ld ((K.2 _ n10 id).trans g10)).2.2.2.2.2.2.2.2.2⟩
  have Ld10 := Ld h10 (Keep.refl _ _ _)
  have Ld11 := Ld h11 k11
  have Ld12 := Ld h12 k12'
  have Ld13 := Ld h13 k13'
  have Ld14 := Ld h14 k14'
  have rwf : (AV.agg (getR L).1.c).row1 = some (getR L).1.c := rfl
  have fl := frc_len (getR L).1
  generalize (getR L).1 = F at *
  generalize (getR L).2 = e at *
  simp [q5, q11, E6, Y.len', (Y.ext k6).len', gx', E7, E8, E9, E10, rwf, fl, afill]
  refine W_drawn h10.next (by rfl) (by kernel_rfl) ?_
  have fin : ∀ (b : Bool), (b == b) = true := fun b => by cases b <;> rfl
  generalize decide f.R = B at *
  have ef := fun {t : Tr AV} {d : Option Tmp} {tv v : TypeId} {pos : String} {af : Array Edge} {gd : Option (Nat × Bool)} {i j : Nat} => aback_fr F F (t := t) (d := d) (tv := tv) (v := v) (pos := pos) (af := af) (gd := gd) (i := i) (j := j)
  have sf : sameAVs f.c f.c = true := by simpa only [sameAV] using same_fr f
  have sF : sameAVs F.c F.c = true := by simpa only [sameAV] using same_fr F
  have dT : decide (f.put = f.put) = true := decide_eq_true rfl
  rw [dT] at E15
  simp [q5, q11, obl, mayEff, mayRead, sf, sF, sameAV, b5, b14, n10, Ld10, Ld11, Ld12, Ld13, Ld14, E11, E12, E13, E14, E15, E16, A11, A12, A13, A14, A0, ef]


theorem own : ownKnob Try.prog.godebug = none := by kernel_rfl
theorem laid : laidOutB Try.prog = true := by kernel_rfl

set_option maxRecDepth 100000 in
theorem lifted (os : Os) (started : os.Started) (H : Type) (enc : TypeId × Value → H) :
    ReturnsInHanded {} Try.checked os 4 .any (Rows.wireTellsSpec.pre6 enc Try.prog Try.f4 Rows.wireTellsRow.domain false) (Rows.wireTellsSpec.post enc Try.prog Try.f4 false true false false) := by
  refine returnsInHanded_of_change (C := Try.checked) own started (by kernel_rfl) Try.func4
    (ChangeSpec.witness6 (enc := enc) (C := Try.checked) false ⟨#[], #[((Try.prog.info? 25).bind (·.zero)).get (by kernel_rfl), .slice none 0 0, .int .i64 0, .int .u8 0, .int .i64 0], []⟩ 8 (by kernel_rfl) (by kernel_rfl) (by kernel_rfl) (by kernel_rfl)) ?_
  intro W base args ds gs before hval0 hW hcnd _
  have hval : ∀ (j : Nat) t v, Try.f4.params.toList[j]? = some t → args.toList[j]? = some v → Value.okWide Try.prog W .any base t v := fun j t v h1 h2 => hval0 j t v (by simpa using h1) (by simpa using h2)
  have hW' := hW
  obtain ⟨p, q, hA0, hV, rfl, hfz, hnd⟩ := hW
  have hA : DataW.TrodAll enc Try.prog W 0 (fun _ => true) true Try.f4.params.toList args.toList ds p := hA0
  obtain ⟨rfl, rfl⟩ := trodVars_none hV
  have hlt : ∀ x ∈ p, x.block < W.heap.size := fun x hx => hW'.lt x (by simp [hx])
  have hps : Try.f4.params.toList = [25, 22, 3, 5, 3] := by rw [Try.params4]
  rw [hps] at hA hval
  obtain ⟨m, h, avs, x, g1, _, _, g2, g3, g4⟩ := (good_asA (good_struct Try.underlying25 (by kernel_rfl) (good_fs rfl (good_int Try.underlying3 (by kernel_rfl)) (good_fs rfl (good_int Try.underlying3 (by kernel_rfl)) (good_fs rfl (good_int Try.underlying3 (by kernel_rfl)) (good_fs rfl (good_int Try.underlying3 (by kernel_rfl)) (good_fs rfl (good_int Try.underlying3 (by kernel_rfl)) (good_fs rfl (good_int Try.underlying3 (by kernel_rfl)) (good_fs rfl (good_str Try.underlying9 (by kernel_rfl)) (good_fs rfl (good_int Try.underlying3 (by kernel_rfl)) (good_fs rfl (good_str Try.underlying9 (by kernel_rfl)) (good_fs0 _))))))))))) (by intro w base v h; simpa [Value.okWide, Try.underlying25] using (by simp only [Value.okWide, Try.underlying25] at h; obtain ⟨cs, rfl, _⟩ := h; exact ⟨cs, rfl⟩)) (good_as1 (good_slice Try.underlying22 (by kernel_rfl) (by decide) (good_byte Try.underlying5 (by kernel_rfl))) rfl (by kernel_rfl) (good_as1 (good_int Try.underlying3 (by kernel_rfl)) rfl (by kernel_rfl) (good_as1 (good_byte Try.underlying5 (by kernel_rfl)) rfl (by kernel_rfl) (good_as1 (good_int Try.underlying3 (by kernel_rfl)) rfl (by kernel_rfl) good_as0))))) H enc W base args.toList ds p hval hA _ _ (HRo.start W)
  obtain ⟨a0, a1, a2, a3, a4, _⟩ := x
  obtain ⟨c0, _, rfl, o0, l0, w0, ⟨v1, _, rfl, ⟨u1, e1, w1⟩, ⟨_, _, rfl, ⟨e2, w2⟩, ⟨_, _, rfl, e3, ⟨_, _, rfl, ⟨e4, w4⟩, rfl⟩⟩⟩⟩⟩ := g3
  obtain rfl := (List.cons.inj e1).1
  obtain rfl := (List.cons.inj e2).1
  obtain rfl := (List.cons.inj e3).1
  obtain rfl := (List.cons.inj e4).1
  have hcall := law_any mixed (k := 3000000 + 10) Try.func4 (by kernel_rfl) runs_ok g1 g2 (law_run 3000000 (by decide) h c0 a0 o0 l0 w0 v1 a1 w1 a2 w2 a3 a4 w4)
  refine hcall.mono fun e W' ⟨he, hg⟩ => ?_
  subst he
  simp only [List.append_nil] at hW' hA0 ⊢
  have hlen : ds.length = 5 := trodAll_len hA
  have hvars : (Rows.wireTellsSpec.fn H (ds ++ [])).vars = [] ∧ (Rows.wireTellsSpec.fn H (ds ++ [])).args = ds ∧ (Rows.wireTellsSpec.fn H (ds ++ [])).results = [.lit (.bool true)] := by
    rw [List.append_nil]
    match ds, hlen with
    | [d0, d1, d2, d3, d4], _ => exact ⟨rfl, rfl, rfl⟩
  obtain ⟨hv1, hv2, hv3⟩ := hvars
  refine ⟨_, rfl, law_post hW' rfl hg (fun _ _ _ => ?_) (fun sp hsp => ?_) hv1
    (ok_one (by kernel_rfl) rfl (okWide_bool_mk Try.underlying4 _))⟩
  · rw [hv3]
    exact (trodAll_cons_mk (shut_bool Try.underlying4 _) trodAll_mk0)
  · have hA1 := trodAll_below laid hg sp (ts := [25, 22, 3, 5, 3]) (by decide +kernel) hlt hsp hA
    rw [hv2, hps]
    exact hA1

theorem over : Rows.wireTellsRow.holds Try.pinned (OpenSpec.ofChange Rows.wireTellsSpec) :=
  OpenClaim.holds_of_wide 4 Try.f4 rfl rfl rfl rfl rfl rfl rfl ⟨rfl, rfl, rfl, rfl, rfl⟩ rfl rfl rfl rfl rfl (by kernel_rfl) Try.func4 (by kernel_rfl)
    (of_decide_eq_true (by kernel_rfl)) (by unfold Func.isWrapper; first | (rw [if_pos (by decide +kernel)]; kernel_rfl) | (rw [if_neg (by decide +kernel)]; exact ⟨rfl, rfl⟩))
    (fun os started H enc _ => lifted os started H enc)

/-- The statement. -/
theorem proved : Rows.WireTellsSaid :=
  over
#print axioms proved
end Go.Proofs.Ytnjpfjdnidekgaa.cWireTells
