/- The law GfDot returns true for every input of bulk at most 1048576, and its input reads behind the call as it did; no conditions. The kit's model is followed by an abstract machine that is shown to tell what the model does; the contracts of the functions are proved over that machine. -/
import Derived.Test.YthcnehemnjongaaRows
import Derived.Test.YthcnehemnjongaaRuns
import Derived.Test.YthcnehemnjongaaRefGf
import Derived.Test.YthcnehemnjongaaRoomy
import Derived.WalkKit
import Derived.ProofKit
import Derived.OpenShut
import Derived.JoinedCond
namespace Go.Proofs.Ythcnehemnjongaa.cGfDot
open Go Go.ChangeShapes Go.WideShapes Go.ChangeAt Go.RowKit Go.YthcnehemnjongaaAbs
set_option linter.unusedSimpArgs false
set_option linter.unusedVariables false

set_option maxRecDepth 4000
set_option maxHeartbeats 2000000 in
theorem law_run (k : Nat) (hk : 2000000 < k) (h : Heap) (v0 : AV) (a0 : (List UInt8)) (w0 : SlA kByte h v0 a0) (v1 : AV) (a1 : (List UInt8)) (w1 : SlA kByte h v1 a1) (hb : (kSlice kByte).bulk a0 + ((kSlice kByte).bulk a1 + (0)) ≤ 1048576) :
    ∃ v h', afuncT Try.prog [] (orRuns 3 (acall Try.prog (k + 10))) (k + 10) Try.f5 [v0, v1] h = some (v, h') ∧ v = .bool true := by
  have lb : ∀ l : List UInt8, l.length + 1 ≤ (kSlice kByte).bulk l := fun l => by
    have := len_sumL (f := kByte.bulk) (fun _ => Nat.le_refl 1) l
    show l.length + 1 ≤ sumL kByte.bulk l + 1
    omega
  have l0 := lb a0
  have l1 := lb a1
  refine afuncT_ex rfl (by simp [Try.f5]) ?_
  simp [Try.f5]
  refine use (make_ok (k + 9) (by omega) h) ?_
  intro v h1 hh
  rw [hh.1]
  have k1 := hh.2
  clear hh
  have row : (AV.agg fieldC).row1 = some fieldC := by simp [AV.row1, AV.row, fieldC_one]
  have lay : alay (h1.new (.cells zz25 false)) h1.next 0 fieldC = some (h1.new (.cells fieldC false)) := alay_new (by rw [fieldC_len, zz25_len])
  have f : Fld (h1.new (.cells fieldC false)) (.ptr h1.next 0) := ⟨_, _, _, _, rfl, Nat.lt_succ_self _, get_new_self _ _, fun j _ => by rw [Nat.zero_add]⟩
  have k2 : Keep h.next nob h (h1.new (.cells fieldC false)) := k1.trans (Keep.new k1.1 _)
  generalize h1.new (.cells fieldC false) = h2 at lay f k2
  have s0 := (sla_bytes w0).ext k2
  have s1 := (sla_bytes w1).ext k2
  simp [row, fieldC_len, lay]
  refine use (roomy_ok (k + 9) a0 v0 7 h2 s0 (by omega) (by omega)) ?_
  intro x h3 hh
  rw [hh.1]
  have gx := hh.2.1
  have nx := hh.2.2.1
  have k3 := hh.2.2.2
  clear hh
  simp
  refine use (roomy_ok (k + 9) a1 v1 8 h3 (s1.ext k3) (by omega) (by omega)) ?_
  intro y h4 hh
  rw [hh.1]
  have gy := hh.2.1
  have ny := hh.2.2.1
  have k4 := hh.2.2.2
  clear hh
  have k24 : Keep h2.next nob h2 h4 := k3.trans (k4.weak k3.1 fun _ _ q => q)
  have S0 := s0.ext k24
  have S1 := s1.ext k24
  have F := f.ext k24
  have gx4 : h4.get h2.next = some (.cells (roomy a0 7) false) := by rw [k4.2 _ nx id]; exact gx
  have rl : ∀ (a : List UInt8) m, (roomy a m).length = a.length + 80 := fun a m => by unfold roomy; simp
  have X : Sl 1 (a0.length + 80) h4 (.sl h2.next 0 (a0.length + 80) (a0.length + 80) 1 true) (roomy a0 7) := .inr (.inr ⟨h2.next, 0, _, true, _, false, rfl, Nat.lt_of_lt_of_le nx k4.1, gx4, by rw [rl]; omega, by rw [rl]; omega, by rw [List.drop_zero, List.take_of_length_le (by rw [rl]; omega)], Nat.le_refl _⟩)
  have Y : Sl 1 (a1.length + 80) h4 (.sl h3.next 0 (a1.length + 80) (a1.length + 80) 1 true) (roomy a1 8) := .inr (.inr ⟨h3.next, 0, _, true, _, false, rfl, ny, gy, by rw [rl]; omega, by rw [rl]; omega, by rw [List.drop_zero, List.take_of_length_le (by rw [rl]; omega)], Nat.le_refl _⟩)
  generalize (AV.sl h2.next 0 (a0.length + 80) (a0.length + 80) 1 true) = x at X
  generalize (AV.sl h3.next 0 (a1.length + 80) (a1.length + 80) 1 true) = y at Y
  simp
  refine W_cutLoop 0 (fun st => st.h = h4 ∧ st.t.get 0 = some v0 ∧ st.t.get 1 = some v1 ∧ st.t.get 5 = some (.ptr h1.next 0) ∧ st.t.get 6 = some x ∧ st.t.get 7 = some y ∧ st.t.get 8 = some (.int .u8 ((dot a0 a1).toNat : Nat))) ?_ ?_
  · refine W_loop (fun m st => ∃ j, m = min a0.length a1.length - j ∧ j ≤ min a0.length a1.length ∧ st.h = h4 ∧ st.t.get 0 = some v0 ∧ st.t.get 1 = some v1 ∧ st.t.get 5 = some (.ptr h1.next 0) ∧ st.t.get 6 = some x ∧ st.t.get 7 = some y ∧
      st.t.get 8 = some (.int .u8 ((dotN a0 a1 j).toNat : Nat)) ∧ st.t.get 9 = some (.int .i64 (j : Nat))) (min a0.length a1.length) (by omega) ⟨0, by simp [dotN]⟩ ?_
    rintro m ⟨t, h'⟩ ⟨j, rfl, hj, rfl, q0, q1, q5, q6, q7, q8, q9⟩
    simp only at q0 q1 q5 q6 q7 q8 q9 S0 S1
    by_cases hlt : j < min a0.length a1.length
    · obtain ⟨u, hu⟩ := getb (l := a0) (j := j) (by omega)
      obtain ⟨w, hw⟩ := getb (l := a1) (j := j) (by omega)
      obtain ⟨b1, i1, c1, o1, p1, p2, p3⟩ := S0.at1 (P := Try.prog) (ty := 32) (e := 5) (k := .i64) Try.underlying32 ts5 (bb_get hu)
      obtain ⟨b2, i2, c2, o2, r1, r2, r3⟩ := S1.at1 (P := Try.prog) (ty := 32) (e := 5) (k := .i64) Try.underlying32 ts5 (bb_get hw)
      have hs := dotN_succ hu hw
      have hl1 := isLt (show (j : Int) < (a0.length : Int) by omega)
      have hl2 := isLt (show (j : Int) < (a1.length : Int) by omega)
      have e1 : acall Try.prog (k + 10) 17 [.int .u8 (u.toNat : Nat), .int .u8 (w.toNat : Nat)] h' = _ := rmul_ok (k + 9) (by omega) h' u w
      generalize hM : min a0.length a1.length = M at *
      simp [q0, q1, q5, q6, q7, q8, q9, S0.len', S1.len', hl1, hl2, p1, aload, Heap.row, p2, p3, r1, r2, r3, bb, e1, xor_u8, ← hs, i64w ((j : Int) + 1) (by omega) (by omega), -UInt8.toNat_xor]
      exact ⟨M - (j + 1), by omega, j + 1, rfl, by omega, rfl, by omega⟩
    · have hjm : j = min a0.length a1.length := by omega
      rw [dotN_all hjm] at q8
      by_cases c1 : j < a0.length
      · have hl1 := isLt (show (j : Int) < (a0.length : Int) by omega)
        have hl2 := isLe (show (a1.length : Int) ≤ (j : Int) by omega)
        simp [q0, q1, q5, q6, q7, q8, q9, S0.len', S1.len', hl1, hl2]
      · have hl1 := isLe (show (a0.length : Int) ≤ (j : Int) by omega)
        simp [q0, q1, q5, q6, q7, q8, q9, S0.len', S1.len', hl1]
  rintro ⟨t, h'⟩ ⟨rfl, q0, q1, q5, q6, q7, q8⟩
  simp only at q0 q1 q5 q6 q7 q8 S0 S1 X Y F
  obtain ⟨x', g0, u0⟩ := X.to (P := Try.prog) (ty := 32) Try.underlying32 ts5 (k := .i64) (j := a0.length) (by omega)
  obtain ⟨y', g1, u1⟩ := Y.to (P := Try.prog) (ty := 32) Try.underlying32 ts5 (k := .i64) (j := a1.length) (by omega)
  have ht : ∀ (a : List UInt8) m, (roomy a m).take (a.length * 1) = a.map bb := fun a m => by
    unfold roomy
    rw [Nat.mul_one, List.take_append_of_le_length (by simp), List.take_of_length_le (by simp)]
  rw [ht] at u0 u1
  have D1 : acall Try.prog (k + 10) 15 [.ptr h1.next 0, x', y'] h' = _ := dot_ok (k + 9) h' _ x' y' F a0 a1 u0 u1 (by omega) (by omega)
  have I0 : acall Try.prog (k + 10) 21 [x, v0, .int .u8 7] h' = _ := intact_ok (k + 8) a0 x v0 7 h' X S0 (by omega) (by omega)
  have I1 : acall Try.prog (k + 10) 21 [y, v1, .int .u8 8] h' = _ := intact_ok (k + 8) a1 y v1 8 h' Y S1 (by omega) (by omega)
  simp (maxSteps := 1000000) [q0, q1, q5, q6, q7, q8, S0.len', S1.len', g0, g1, D1, I0, I1]


mutual
theorem up1 {H : Type} : ∀ d : DataW H, Rows.uptoBulk d = bulkD d
  | .lit (.string b) => rfl
  | .lit .nil => rfl
  | .lit (.bool _) => rfl
  | .lit (.int ..) => rfl
  | .lit (.float ..) => rfl
  | .nil => rfl
  | .ptr d => by simp only [Rows.uptoBulk, bulkD, up1 d]
  | .slice e r => by simp only [Rows.uptoBulk, bulkD, up2 e, up2 r]
  | .agg p => by simp only [Rows.uptoBulk, bulkD, up2 p]
  | .iface _ d => by simp only [Rows.uptoBulk, bulkD, up1 d]
  | .map e => by simp only [Rows.uptoBulk, bulkD, up3 e]
  | .held _ => rfl
theorem up2 {H : Type} : ∀ l : List (DataW H), Rows.uptoBulkAll l = bulkDs l
  | [] => rfl
  | d :: r => by simp only [Rows.uptoBulkAll, bulkDs, up1 d, up2 r]
theorem up3 {H : Type} : ∀ l : List (Lit × DataW H), Rows.uptoBulkEntries l = bulkDe l
  | [] => rfl
  | x :: r => by simp only [Rows.uptoBulkEntries, bulkDe, up4 x, up3 r]
theorem up4 {H : Type} : ∀ x : Lit × DataW H, Rows.uptoBulkEntry x = bulkDx x
  | (.string b, d) => by simp only [Rows.uptoBulkEntry, bulkDx, up1 d]
  | (.nil, d) => by simp only [Rows.uptoBulkEntry, bulkDx, up1 d]
  | (.bool _, d) => by simp only [Rows.uptoBulkEntry, bulkDx, up1 d]
  | (.int .., d) => by simp only [Rows.uptoBulkEntry, bulkDx, up1 d]
  | (.float .., d) => by simp only [Rows.uptoBulkEntry, bulkDx, up1 d]
end
theorem own : ownKnob Try.prog.godebug = none := by kernel_rfl
theorem laid : laidOutB Try.prog = true := by kernel_rfl

set_option maxRecDepth 100000 in
theorem lifted (os : Os) (started : os.Started) (H : Type) (enc : TypeId × Value → H) (F0 : Stop.Interp) :
    ReturnsInHanded {} Try.checked os 5 .any ((Rows.OpenSpec.upto Rows.gfDotSpec).pre6 enc Try.prog Try.f5 Rows.gfDotUptoRow.domain false) (((Rows.OpenSpec.upto Rows.gfDotSpec).at F0).post enc Try.prog Try.f5 false true false false) := by
  refine returnsInHanded_of_cond (C := Try.checked) (s := Rows.OpenSpec.upto Rows.gfDotSpec) (k := Rows.uptoSmall) rfl own started (by kernel_rfl) Try.func5
    (OpenSpec.witness (enc := enc) (C := Try.checked) (s := Rows.OpenSpec.upto Rows.gfDotSpec) (k := Rows.uptoSmall) rfl false ⟨#[], #[.slice none 0 0, .slice none 0 0], []⟩ 8 (by kernel_rfl) (by kernel_rfl) (by kernel_rfl)
      (x := ([.nil, .nil], [], [])) (by kernel_rfl) (by kernel_rfl) (by kernel_rfl)) ?_
  intro W base args ds gs before hval0 hW _ hk _
  have hval : ∀ (j : Nat) t v, Try.f5.params.toList[j]? = some t → args.toList[j]? = some v → Value.okWide Try.prog W .any base t v := fun j t v h1 h2 => hval0 j t v (by simpa using h1) (by simpa using h2)
  have hW' := hW
  obtain ⟨p, q, hA0, hV, rfl, hfz, hnd⟩ := hW
  have hA : DataW.TrodAll enc Try.prog W 0 (fun _ => true) true Try.f5.params.toList args.toList ds p := hA0
  obtain ⟨rfl, rfl⟩ := trodVars_none hV
  have hlt : ∀ x ∈ p, x.block < W.heap.size := fun x hx => hW'.lt x (by simp [hx])
  have hps : Try.f5.params.toList = [32, 32] := by rw [Try.params5]
  rw [hps] at hA hval
  obtain ⟨m, h, avs, x, g1, _, _, g2, g3, g4⟩ := (good_as1 (good_slice Try.underlying32 (by kernel_rfl) (by decide) (good_byte Try.underlying5 (by kernel_rfl))) rfl (by kernel_rfl) (good_as1 (good_slice Try.underlying32 (by kernel_rfl) (by decide) (good_byte Try.underlying5 (by kernel_rfl))) rfl (by kernel_rfl) good_as0)) H enc W base args.toList ds p hval hA _ _ (HRo.start W)
  obtain ⟨a0, a1, _⟩ := x
  obtain ⟨v0, _, rfl, ⟨u0, e0, w0⟩, ⟨v1, _, rfl, ⟨u1, e1, w1⟩, rfl⟩⟩ := g3
  obtain rfl := (List.cons.inj e0).1
  obtain rfl := (List.cons.inj e1).1
  have hb0 := Nat.le_trans g4 (show bulkDs ds ≤ 1048576 by
    have h1 : decide (Rows.uptoBulkAll (ds ++ []) ≤ 1048576) = true := hk
    rw [List.append_nil] at h1
    rw [← up2]
    exact of_decide_eq_true h1)
  have hcall := law_any mixed (k := 3000000 + 10) Try.func5 (by kernel_rfl) runs_ok g1 g2 (law_run 3000000 (by decide) h v0 a0 w0 v1 a1 w1 hb0)
  refine hcall.mono fun e W' ⟨he, hg⟩ => ?_
  subst he
  simp only [List.append_nil] at hW' hA0 ⊢
  have hlen : ds.length = 2 := trodAll_len hA
  have hvars : (((Rows.OpenSpec.upto Rows.gfDotSpec).at F0).fn H (ds ++ [])).vars = [] ∧ (((Rows.OpenSpec.upto Rows.gfDotSpec).at F0).fn H (ds ++ [])).args = ds ∧ (((Rows.OpenSpec.upto Rows.gfDotSpec).at F0).fn H (ds ++ [])).results = [.lit (.bool true)] := by
    rw [List.append_nil]
    match ds, hlen with
    | [d0, d1], _ => exact ⟨rfl, rfl, rfl⟩
  obtain ⟨hv1, hv2, hv3⟩ := hvars
  refine ⟨_, rfl, law_post hW' rfl hg (fun _ _ _ => ?_) (fun sp hsp => ?_) hv1
    (ok_one (by kernel_rfl) rfl (okWide_bool_mk Try.underlying4 _))⟩
  · rw [hv3]
    exact (trodAll_cons_mk (shut_bool Try.underlying4 _) trodAll_mk0)
  · have hA1 := trodAll_below laid hg sp (ts := [32, 32]) (by decide +kernel) hlt hsp hA
    rw [hv2, hps]
    exact hA1

theorem over : Rows.gfDotUptoRow.holds Try.pinned (Rows.OpenSpec.upto Rows.gfDotSpec) :=
  OpenClaim.holds_of_cond 5 Try.f5 rfl rfl rfl rfl rfl rfl rfl ⟨rfl, rfl, rfl, rfl, rfl⟩ rfl rfl rfl rfl rfl (by kernel_rfl) Try.func5 (by kernel_rfl)
    (of_decide_eq_true (by kernel_rfl)) (by unfold Func.isWrapper; first | (rw [if_pos (by decide +kernel)]; kernel_rfl) | (rw [if_neg (by decide +kernel)]; exact ⟨rfl, rfl⟩))
    (fun os started H enc _ F0 => lifted os started H enc F0)

/-- The statement. -/
theorem proved : Rows.GfDotUptoSaid :=
  over
#print axioms proved
end Go.Proofs.Ythcnehemnjongaa.cGfDot
