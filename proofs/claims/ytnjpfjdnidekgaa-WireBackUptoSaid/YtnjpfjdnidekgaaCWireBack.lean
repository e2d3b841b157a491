/- The law WireBack returns true for every input of bulk at most 1048576, and its input reads behind the call as it did; no conditions. The kit's model is followed by an abstract machine that is shown to tell what the model does; the contracts of the functions are proved over that machine. -/
import Derived.Test.YtnjpfjdnidekgaaRows
import Derived.Test.YtnjpfjdnidekgaaRuns
import Derived.Test.YtnjpfjdnidekgaaWireB
import Derived.WalkKit
import Derived.ProofKit
import Derived.OpenShut
import Derived.JoinedCond
namespace Go.Proofs.Ytnjpfjdnidekgaa.cWireBack
open Go Go.ChangeShapes Go.WideShapes Go.ChangeAt Go.RowKit Go.YtnjpfjdnidekgaaAbs
set_option linter.unusedSimpArgs false
set_option linter.unusedVariables false

set_option maxRecDepth 4000
set_option maxHeartbeats 4000000 in
theorem law_run (k : Nat) (hk : 2900000 < k) (h : Heap) (c0 : List AV) (a0 : FrT) (o0 : c0.all AV.one = true) (l0 : c0.length = kFr.sz) (w0 : kFr.rd h c0 a0) (c1 : List AV) (a1 : FrT) (o1 : c1.all AV.one = true) (l1 : c1.length = kFr.sz) (w1 : kFr.rd h c1 a1) (v2 : AV) (a2 : (List UInt8)) (w2 : SlA kByte h v2 a2) (a3 : Int) (w3 : (Lit.int .i64 a3).wf = true) (hb : kFr.bulk a0 + (kFr.bulk a1 + ((kSlice kByte).bulk a2 + ((kInt .i64).bulk a3 + (0)))) ≤ 1048576) :
    ∃ v h', afuncT Try.prog [11] (orRuns 3 (acall Try.prog (k + 10))) (k + 10) Try.f5 [.agg c0, .agg c1, v2, .int .i64 a3] h = some (v, h') ∧ v = .bool true := by
  obtain ⟨hc, zk, zd⟩ := fr_arg l0 w0
  rw [hc]
  obtain ⟨hc1, yk, yd⟩ := fr_arg l1 w1
  rw [hc1]
  have lb := bulk_len (K := kByte) (fun _ => Nat.le_refl 1) a2
  have lb2 : a2.length ≤ 1048576 := by omega
  clear hc w0 l0 o0 hc1 w1 l1 o1 hb lb
  generalize frOf a0 = f at *
  generalize frOf a1 = g at *
  have s2 := sla_bytes w2
  have rw0 : (AV.agg f.c).row1 = some f.c := rfl
  have rw1 : (AV.agg g.c).row1 = some g.c := rfl
  obtain ⟨B, hB⟩ : ∃ B, B = h.next := ⟨_, rfl⟩
  obtain ⟨h0, e0⟩ : ∃ h0, h.new (.cells f.c false) = h0 := ⟨_, rfl⟩
  have n0 : h0.next = B + 1 := by rw [← e0, hB]; rfl
  have g0 : h0.get B = some (.cells f.c false) := by rw [← e0, hB]; exact get_new_self _ _
  have K0 : Keep B nob h h0 := by rw [← e0]; exact Keep.new (by omega) _
  obtain ⟨h1, e1⟩ : ∃ h1, h0.new (.cells g.c false) = h1 := ⟨_, rfl⟩
  have g1 : h1.get (B + 1) = some (.cells g.c false) := by rw [← e1, ← n0]; exact get_new_self _ _
  have k01 : Keep h0.next nob h0 h1 := by rw [← e1]; exact Keep.new (Nat.le_refl _) _
  have n1 : h1.next = B + 2 := by rw [← e1]; show h0.next + 1 = _; omega
  have gf : h1.get B = some (.cells f.c false) := (k01.2 _ (by omega) id).trans g0
  have S1 : Sl 1 a2.length h1 v2 (a2.map bb) := (s2.ext (by rw [← hB]; exact K0)).ext k01
  have Ld : ∀ h', Keep h1.next nob h1 h' → aload Try.prog h' 25 B 0 = some (.agg f.c) ∧ aload Try.prog h' 25 (B + 1) 0 = some (.agg g.c) := fun h' K =>
    ⟨(fr_ld ((K.2 _ (by omega) id).trans gf)).2.2.2.2.2.2.2.2.2, (fr_ld ((K.2 _ (by omega) id).trans g1)).2.2.2.2.2.2.2.2.2⟩
  have L1 := Ld h1 (Keep.refl _ _ _)
  obtain ⟨_, h2, E2, ⟨B1, rfl⟩, k2⟩ := light_ok (k + 9) h1 f
  have L2 := Ld h2 k2
  obtain ⟨_, h3, E3, ⟨B2, rfl⟩, k3⟩ := light_ok (k + 9) h2 g
  have K3 := k2.trans (k3.weak k2.1 fun _ _ q => q)
  have S3 := S1.ext K3
  refine afuncT_ex rfl (by simp [Try.f5]) ?_
  have e0' : h.new (.cells f.c false) = h0 := e0
  simp [Try.f5, rw0, e0, rw1, e1, n0, ← hB]
  cases B1 with
  | false => simp [L1, E2]
  | true =>
  cases B2 with
  | false => simp [L1, L2, E2, E3]
  | true =>
  obtain ⟨_, h4, E4, rfl, k4⟩ := wGet_ok (k + 5) (by omega) h3 v2 a2 S3 (by omega)
  obtain ⟨h5, E5, g5, n5, k5⟩ := fr_new h4 (getR a2).1
  have K5 := (K3.trans (k4.weak K3.1 fun _ _ q => q)).trans (k5.weak (Nat.le_trans K3.1 k4.1) fun _ _ q => q)
  have hgp := get_put (l := a2)
  have rwx : (AV.agg (getR a2).1.c).row1 = some (getR a2).1.c := rfl
  have flx := frc_len (getR a2).1
  have L5 := (fr_ld g5).2.2.2.2.2.2.2.2.2
  have xR : (getR a2).2 = 0 → (getR a2).1.R := fun h => by
    unfold getR at h ⊢
    split at h
    · split at h
      · rename_i q1 q2; rw [if_pos q1, if_pos q2]; exact q2
      · simp at h
    · rename_i q1; exact absurd h q1
  generalize (getR a2).1 = X at *
  generalize (getR a2).2 = e at *
  simp [L1, L2, E2, E3, E4, E5, rwx, flx, -W_regionL, W_stopL 4]
  have mx : maxLen = 9223372036854775807 := rfl
  refine W_cutR rfl (fun st => Keep h1.next nob h1 st.h ∧ st.t.get 3 = some (.int .i64 a3) ∧ st.t.get 4 = some (.ptr B 0) ∧ st.t.get 5 = some (.ptr (B + 1) 0) ∧ st.t.get 38 = some (.bool false)) ?_ ?_
  · by_cases he : e = 0
    · obtain ⟨p, h6, E6, P6, k6⟩ := wPut_ok (k + 7) (by omega) h5 X (by have := (xR he).2.2.2.2.1; omega) (by have := (xR he).2.2.2.2.2; omega)
      have hp := hgp he
      have E7 := sameB_ok (k + 9) X.put a2 p v2 h6 P6.sl ((S1.ext K5).ext (k6)) (by rw [hp]; omega) (by rw [hp]; omega)
      rw [hp, decide_eq_true rfl] at E7
      simp [he, L5, E6, E7]
      exact K5.trans (k6.weak K5.1 fun _ _ q => q)
    · simp [he, L5]
      exact K5
  rintro ⟨t, h6⟩ ⟨K6, q3, q4, q5, q38⟩
  simp only at K6 q3 q4 q5 q38
  clear E2 E3 E4 E5 L5 g5 hgp xR rwx flx rw0 rw1
  have L6 := Ld h6 K6
  obtain ⟨p, h7, E7, P7, k7⟩ := wPut_ok (k + 7) (by omega) h6 f zk zd
  have K7 := K6.trans (k7.weak K6.1 fun _ _ q => q)
  have L7 := Ld h7 K7
  obtain ⟨_, h8, E8, rfl, k8⟩ := wRight_ok (k + 8) h7 f zk zd
  have K8 := K7.trans (k8.weak K7.1 fun _ _ q => q)
  have P8 := P7.sl.ext k8
  have pl := Fr.put_len (f := f)
  by_cases hR : f.R
  rotate_left
  · rw [decide_eq_false hR] at E8
    have hp : f.put = [] := by unfold Fr.put; rw [if_neg hR]
    rw [hp] at P8
    have l8 := P8.len'
    simp at l8
    simp [q38, q3, q4, q5, L6, E7, L7, E8, l8]
  rw [decide_eq_true hR] at E8
  have hp : f.put = f.enc := by unfold Fr.put; rw [if_pos hR]
  rw [hp] at P8 pl
  have pp : 1 ≤ f.enc.length := by
    have := packN_len f.ver
    unfold Fr.enc
    rw [List.length_append, List.length_append]
    omega
  obtain ⟨_, h9, E9, rfl, k9⟩ := wGet_ok (k + 5) (by omega) h8 p f.enc P8 (by omega)
  rw [getR_enc hR] at E9
  obtain ⟨h10, E10, g10, n10, k10⟩ := fr_new h9 f
  have k810 : Keep h8.next nob h8 h10 := k9.trans (k10.weak k9.1 fun _ _ q => q)
  have K10 := K8.trans (k810.weak K8.1 fun _ _ q => q)
  have P10 := P8.ext k810
  have e1 : acall Try.prog (k + 10) 12 [.int .i64 a3, .int .i64 0, .int .i64 ((f.enc.length : Int) - 1)] h10 = _ := within_ok (k + 9) a3 0 ((f.enc.length : Int) - 1) (by omega) (by omega) (by omega) h10
  have b1 : 0 ≤ a3 % ((f.enc.length : Int) - 1 - 0 + 1) := Int.emod_nonneg _ (by omega)
  have b2 : a3 % ((f.enc.length : Int) - 1 - 0 + 1) < (f.enc.length : Int) - 1 - 0 + 1 := Int.emod_lt_of_pos _ (by omega)
  generalize a3 % ((f.enc.length : Int) - 1 - 0 + 1) = q at e1 b1 b2
  obtain ⟨c, hc⟩ := Int.eq_ofNat_of_zero_le (show 0 ≤ 0 + q by omega)
  rw [hc] at e1
  have hcl : c < f.enc.length := by omega
  have w10 := i64w ((f.enc.length : Int) - 1) (by omega) (by omega)
  obtain ⟨z, z1, Z⟩ := P10.to (P := Try.prog) (ty := 22) Try.underlying22 ts5 (k := .i64) (j := c) (by omega)
  rw [Nat.mul_one, ← List.map_take] at Z
  have lc : (f.enc.take c).length = c := by rw [List.length_take]; omega
  obtain ⟨_, h11, E11, rfl, k11⟩ := wGet_ok (k + 5) (by omega) h10 z (f.enc.take c) (by rw [lc]; exact Z) (by omega)
  have hd := getR_cut hR hcl
  obtain ⟨h12, E12, g12, n12, k12⟩ := fr_new h11 (getR (f.enc.take c)).1
  have rwz : (AV.agg (getR (f.enc.take c)).1.c).row1 = some (getR (f.enc.take c)).1.c := rfl
  have flz := frc_len (getR (f.enc.take c)).1
  have rwf : (AV.agg f.c).row1 = some f.c := rfl
  have flf := frc_len f
  generalize (getR (f.enc.take c)).1 = Y at *
  generalize (getR (f.enc.take c)).2 = d at *
  have k1012 : Keep h10.next nob h10 h12 := k11.trans (k12.weak k11.1 fun _ _ q => q)
  have K12 := K10.trans (k1012.weak K10.1 fun _ _ q => q)
  have P12 := P10.ext k1012
  have g12' : h12.get h9.next = some (.cells f.c false) := (k1012.2 _ n10 id).trans g10
  have n12' : h9.next < h12.next := Nat.lt_of_lt_of_le n10 k1012.1
  have b4 : B < h12.next := by have := K12.1; omega
  have b5 : B + 1 < h12.next := by have := K12.1; omega
  have Ln : ∀ h', Keep h12.next nob h12 h' → aload Try.prog h' 25 h9.next 0 = some (.agg f.c) ∧ aload Try.prog h' 25 B 0 = some (.agg f.c) ∧ aload Try.prog h' 25 (B + 1) 0 = some (.agg g.c) := fun h' K =>
    ⟨(fr_ld ((K.2 _ n12' id).trans g12')).2.2.2.2.2.2.2.2.2, Ld h' (K12.trans (K.weak K12.1 fun _ _ q => q))⟩
  have L12 := Ln h12 (Keep.refl _ _ _)
  obtain ⟨_, h13, E13, rfl, k13⟩ := wRight_ok (k + 8) h12 g yk yd
  have L13 := Ln h13 k13
  have P8len := P8.len'
  have P10len := P10.len'
  have A13 : Agree h12.next h12 h13 := fun c hc => k13.2 c hc id
  have ef := fun (F G : Fr) {t : Tr AV} {d : Option Tmp} {tv v : TypeId} {pos : String} {af : Array Edge} {gd : Option (Nat × Bool)} {i j : Nat} => aback_fr F G (t := t) (d := d) (tv := tv) (v := v) (pos := pos) (af := af) (gd := gd) (i := i) (j := j)
  have sf : sameAVs f.c f.c = true := by simpa only [sameAV] using same_fr f
  have sg : sameAVs g.c g.c = true := by simpa only [sameAV] using same_fr g
  simp [q38, q3, q4, q5, L6, E7, L7, E8, E9, E10, rwf, flf, P10len, w10, e1, z1, E11, E12, rwz, flz]
  refine W_drawn h12.next (by rfl) (by kernel_rfl) ?_
  by_cases hg : g.R
  rotate_left
  · rw [decide_eq_false hg] at E13
    simp [q4, q5, obl, mayEff, mayRead, sf, sg, sameAV, b4, b5, n12', L12, L13, E13, A13, ef f f, hd]
    exact fun _ _ => rfl
  rw [decide_eq_true hg] at E13
  have hgp : g.put = g.enc := by unfold Fr.put; rw [if_pos hg]
  obtain ⟨p2, h14, E14, P14, k14⟩ := wPut_ok (k + 7) (by omega) h13 g yk yd
  rw [hgp] at P14
  have k1214 := k13.trans (k14.weak k13.1 fun _ _ q => q)
  have E15 := sameB_ok (k + 9) f.enc g.enc p p2 h14 (P12.ext k1214) P14.sl (by omega) (by omega)
  have A14 : Agree h12.next h13 h14 := fun c hc => k14.2 c (Nat.lt_of_lt_of_le hc k13.1) id
  have A0 : Agree h12.next h14 h14 := fun _ _ => rfl
  have L14 := Ln h14 k1214
  have hq : decide (f.enc = g.enc) = decide (f = g) := by
    have := enc_inj hR hg
    by_cases w : f = g
    · rw [decide_eq_true w, decide_eq_true (this.2 w)]
    · rw [decide_eq_false w, decide_eq_false (fun z => w (this.1 z))]
  rw [hq] at E15
  have ff : ∀ (b : Bool), (b == b) = true := fun b => by cases b <;> rfl
  have ef2 := fun {t : Tr AV} {d : Option Tmp} {tv v : TypeId} {pos : String} {af : Array Edge} {gd : Option (Nat × Bool)} {i j : Nat} (hx : ev t (.tmp i) = .agg f.c) (hy : ev t (.tmp j) = .agg g.c) => aback_fr f g (t := t) (d := d) (tv := tv) (v := v) (pos := pos) (af := af) (gd := gd) (i := i) (j := j) hx hy
  generalize decide (f = g) = Q at *
  simp [q4, q5, obl, mayEff, mayRead, sf, sg, sameAV, b4, b5, n12', L12, L13, L14, E13, E14, E15, A13, A14, A0, ef f f, ef2, hd]


mutual
theorem up1 {H : Type} : ∀ d : DataW H, Rows.uptoBulk d = bulkD d
  | .lit (.string b) => rfl
  | .lit .nil => rfl
  | .lit (.bool _) => rfl
  | .lit (.int ..) => rfl
  | .lit (.float ..) => rfl
  | .nil => rfl
  | .ptr d => by simp only [Rows.uptoBulk, bulkD, up1 d]
  | .slice e r => by simp only [Rows.uptoBulk, bulkD, up2 e, up2 r]
  | .agg p => by simp only [Rows.uptoBulk, bulkD, up2 p]
  | .iface _ d => by simp only [Rows.uptoBulk, bulkD, up1 d]
  | .map e => by simp only [Rows.uptoBulk, bulkD, up3 e]
  | .held _ => rfl
theorem up2 {H : Type} : ∀ l : List (DataW H), Rows.uptoBulkAll l = bulkDs l
  | [] => rfl
  | d :: r => by simp only [Rows.uptoBulkAll, bulkDs, up1 d, up2 r]
theorem up3 {H : Type} : ∀ l : List (Lit × DataW H), Rows.uptoBulkEntries l = bulkDe l
  | [] => rfl
  | x :: r => by simp only [Rows.uptoBulkEntries, bulkDe, up4 x, up3 r]
theorem up4 {H : Type} : ∀ x : Lit × DataW H, Rows.uptoBulkEntry x = bulkDx x
  | (.string b, d) => by simp only [Rows.uptoBulkEntry, bulkDx, up1 d]
  | (.nil, d) => by simp only [Rows.uptoBulkEntry, bulkDx, up1 d]
  | (.bool _, d) => by simp only [Rows.uptoBulkEntry, bulkDx, up1 d]
  | (.int .., d) => by simp only [Rows.uptoBulkEntry, bulkDx, up1 d]
  | (.float .., d) => by simp only [Rows.uptoBulkEntry, bulkDx, up1 d]
end
theorem own : ownKnob Try.prog.godebug = none := by kernel_rfl
theorem laid : laidOutB Try.prog = true := by kernel_rfl

set_option maxRecDepth 100000 in
theorem lifted (os : Os) (started : os.Started) (H : Type) (enc : TypeId × Value → H) (F0 : Stop.Interp) :
    ReturnsInHanded {} Try.checked os 5 .any ((Rows.OpenSpec.upto Rows.wireBackSpec).pre6 enc Try.prog Try.f5 Rows.wireBackUptoRow.domain false) (((Rows.OpenSpec.upto Rows.wireBackSpec).at F0).post enc Try.prog Try.f5 false true false false) := by
  refine returnsInHanded_of_cond (C := Try.checked) (s := Rows.OpenSpec.upto Rows.wireBackSpec) (k := Rows.uptoSmall) rfl own started (by kernel_rfl) Try.func5
    (OpenSpec.witness (enc := enc) (C := Try.checked) (s := Rows.OpenSpec.upto Rows.wireBackSpec) (k := Rows.uptoSmall) rfl false ⟨#[], #[((Try.prog.info? 25).bind (·.zero)).get (by kernel_rfl), ((Try.prog.info? 25).bind (·.zero)).get (by kernel_rfl), .slice none 0 0, .int .i64 0], []⟩ 8 (by kernel_rfl) (by kernel_rfl) (by kernel_rfl)
      (x := ([.agg [.lit (.int .i64 0), .lit (.int .i64 0), .lit (.int .i64 0), .lit (.int .i64 0), .lit (.int .i64 0), .lit (.int .i64 0), .lit (.string []), .lit (.int .i64 0), .lit (.string [])], .agg [.lit (.int .i64 0), .lit (.int .i64 0), .lit (.int .i64 0), .lit (.int .i64 0), .lit (.int .i64 0), .lit (.int .i64 0), .lit (.string []), .lit (.int .i64 0), .lit (.string [])], .nil, .lit (.int .i64 0)], [], [])) (by kernel_rfl) (by kernel_rfl) (by kernel_rfl)) ?_
  intro W base args ds gs before hval0 hW _ hk _
  have hval : ∀ (j : Nat) t v, Try.f5.params.toList[j]? = some t → args.toList[j]? = some v → Value.okWide Try.prog W .any base t v := fun j t v h1 h2 => hval0 j t v (by simpa using h1) (by simpa using h2)
  have hW' := hW
  obtain ⟨p, q, hA0, hV, rfl, hfz, hnd⟩ := hW
  have hA : DataW.TrodAll enc Try.prog W 0 (fun _ => true) true Try.f5.params.toList args.toList ds p := hA0
  obtain ⟨rfl, rfl⟩ := trodVars_none hV
  have hlt : ∀ x ∈ p, x.block < W.heap.size := fun x hx => hW'.lt x (by simp [hx])
  have hps : Try.f5.params.toList = [25, 25, 22, 3] := by rw [Try.params5]
  rw [hps] at hA hval
  obtain ⟨m, h, avs, x, g1, _, _, g2, g3, g4⟩ := (good_asA (good_struct Try.underlying25 (by kernel_rfl) (good_fs rfl (good_int Try.underlying3 (by kernel_rfl)) (good_fs rfl (good_int Try.underlying3 (by kernel_rfl)) (good_fs rfl (good_int Try.underlying3 (by kernel_rfl)) (good_fs rfl (good_int Try.underlying3 (by kernel_rfl)) (good_fs rfl (good_int Try.underlying3 (by kernel_rfl)) (good_fs rfl (good_int Try.underlying3 (by kernel_rfl)) (good_fs rfl (good_str Try.underlying9 (by kernel_rfl)) (good_fs rfl (good_int Try.underlying3 (by kernel_rfl)) (good_fs rfl (good_str Try.underlying9 (by kernel_rfl)) (good_fs0 _))))))))))) (by intro w base v h; simpa [Value.okWide, Try.underlying25] using (by simp only [Value.okWide, Try.underlying25] at h; obtain ⟨cs, rfl, _⟩ := h; exact ⟨cs, rfl⟩)) (good_asA (good_struct Try.underlying25 (by kernel_rfl) (good_fs rfl (good_int Try.underlying3 (by kernel_rfl)) (good_fs rfl (good_int Try.underlying3 (by kernel_rfl)) (good_fs rfl (good_int Try.underlying3 (by kernel_rfl)) (good_fs rfl (good_int Try.underlying3 (by kernel_rfl)) (good_fs rfl (good_int Try.underlying3 (by kernel_rfl)) (good_fs rfl (good_int Try.underlying3 (by kernel_rfl)) (good_fs rfl (good_str Try.underlying9 (by kernel_rfl)) (good_fs rfl (good_int Try.underlying3 (by kernel_rfl)) (good_fs rfl (good_str Try.underlying9 (by kernel_rfl)) (good_fs0 _))))))))))) (by intro w base v h; simpa [Value.okWide, Try.underlying25] using (by simp only [Value.okWide, Try.underlying25] at h; obtain ⟨cs, rfl, _⟩ := h; exact ⟨cs, rfl⟩)) (good_as1 (good_slice Try.underlying22 (by kernel_rfl) (by decide) (good_byte Try.underlying5 (by kernel_rfl))) rfl (by kernel_rfl) (good_as1 (good_int Try.underlying3 (by kernel_rfl)) rfl (by kernel_rfl) good_as0)))) H enc W base args.toList ds p hval hA _ _ (HRo.start W)
  obtain ⟨a0, a1, a2, a3, _⟩ := x
  obtain ⟨c0, _, rfl, o0, l0, w0, ⟨c1, _, rfl, o1, l1, w1, ⟨v2, _, rfl, ⟨u2, e2, w2⟩, ⟨_, _, rfl, ⟨e3, w3⟩, rfl⟩⟩⟩⟩ := g3
  obtain rfl := (List.cons.inj e2).1
  obtain rfl := (List.cons.inj e3).1
  have hb0 := Nat.le_trans g4 (show bulkDs ds ≤ 1048576 by
    have h1 : decide (Rows.uptoBulkAll (ds ++ []) ≤ 1048576) = true := hk
    rw [List.append_nil] at h1
    rw [← up2]
    exact of_decide_eq_true h1)
  have hcall := law_any mixed (k := 3000000 + 10) Try.func5 (by kernel_rfl) runs_ok g1 g2 (law_run 3000000 (by decide) h c0 a0 o0 l0 w0 c1 a1 o1 l1 w1 v2 a2 w2 a3 w3 hb0)
  refine hcall.mono fun e W' ⟨he, hg⟩ => ?_
  subst he
  simp only [List.append_nil] at hW' hA0 ⊢
  have hlen : ds.length = 4 := trodAll_len hA
  have hvars : (((Rows.OpenSpec.upto Rows.wireBackSpec).at F0).fn H (ds ++ [])).vars = [] ∧ (((Rows.OpenSpec.upto Rows.wireBackSpec).at F0).fn H (ds ++ [])).args = ds ∧ (((Rows.OpenSpec.upto Rows.wireBackSpec).at F0).fn H (ds ++ [])).results = [.lit (.bool true)] := by
    rw [List.append_nil]
    match ds, hlen with
    | [d0, d1, d2, d3], _ => exact ⟨rfl, rfl, rfl⟩
  obtain ⟨hv1, hv2, hv3⟩ := hvars
  refine ⟨_, rfl, law_post hW' rfl hg (fun _ _ _ => ?_) (fun sp hsp => ?_) hv1
    (ok_one (by kernel_rfl) rfl (okWide_bool_mk Try.underlying4 _))⟩
  · rw [hv3]
    exact (trodAll_cons_mk (shut_bool Try.underlying4 _) trodAll_mk0)
  · have hA1 := trodAll_below laid hg sp (ts := [25, 25, 22, 3]) (by decide +kernel) hlt hsp hA
    rw [hv2, hps]
    exact hA1

theorem over : Rows.wireBackUptoRow.holds Try.pinned (Rows.OpenSpec.upto Rows.wireBackSpec) :=
  OpenClaim.holds_of_cond 5 Try.f5 rfl rfl rfl rfl rfl rfl rfl ⟨rfl, rfl, rfl, rfl, rfl⟩ rfl rfl rfl rfl rfl (by kernel_rfl) Try.func5 (by kernel_rfl)
    (of_decide_eq_true (by kernel_rfl)) (by unfold Func.isWrapper; first | (rw [if_pos (by decide +kernel)]; kernel_rfl) | (rw [if_neg (by decide +kernel)]; exact ⟨rfl, rfl⟩))
    (fun os started H enc _ F0 => lifted os started H enc F0)

/-- The statement. -/
theorem proved : Rows.WireBackUptoSaid :=
  over
#print axioms proved
end Go.Proofs.Ytnjpfjdnidekgaa.cWireBack
