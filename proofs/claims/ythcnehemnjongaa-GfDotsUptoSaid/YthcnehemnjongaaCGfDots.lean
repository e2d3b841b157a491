/- The law GfDots returns true for every input of bulk at most 1048576, and its input reads behind the call as it did; no conditions. The kit's model is followed by an abstract machine that is shown to tell what the model does; the contracts of the functions are proved over that machine. -/
import Derived.Test.YthcnehemnjongaaRows
import Derived.Test.YthcnehemnjongaaRuns
import Derived.Test.YthcnehemnjongaaRefGf
import Derived.Test.YthcnehemnjongaaBook
import Derived.WalkKit
import Derived.ProofKit
import Derived.OpenShut
import Derived.JoinedCond
namespace Go.Proofs.Ythcnehemnjongaa.cGfDots
open Go Go.ChangeShapes Go.WideShapes Go.ChangeAt Go.RowKit Go.YthcnehemnjongaaAbs
set_option linter.unusedSimpArgs false
set_option linter.unusedVariables false

set_option maxRecDepth 4000
set_option maxHeartbeats 2000000 in
theorem law_run (k : Nat) (hk : 2000000 < k) (h : Heap) (v0 : AV) (a0 : (List UInt8)) (w0 : SlA kByte h v0 a0) (v1 : AV) (a1 : (List UInt8)) (w1 : SlA kByte h v1 a1) (v2 : AV) (a2 : (List UInt8)) (w2 : SlA kByte h v2 a2) (a3 : Int) (w3 : (Lit.int .i64 a3).wf = true) (hb : (kSlice kByte).bulk a0 + ((kSlice kByte).bulk a1 + ((kSlice kByte).bulk a2 + ((kInt .i64).bulk a3 + (0)))) ≤ 1048576) :
    ∃ v h', afuncT Try.prog [] (orRuns 3 (acall Try.prog (k + 10))) (k + 10) Try.f8 [v0, v1, v2, .int .i64 a3] h = some (v, h') ∧ v = .bool true := by
  have lb : ∀ l : List UInt8, l.length + 1 ≤ (kSlice kByte).bulk l := fun l => by
    have := len_sumL (f := kByte.bulk) (fun _ => Nat.le_refl 1) l
    show l.length + 1 ≤ sumL kByte.bulk l + 1
    omega
  have l0 := lb a0
  have l1 := lb a1
  have l2 := lb a2
  refine afuncT_ex rfl (by simp [Try.f8]) ?_
  simp [Try.f8]
  refine use (make_ok (k + 9) (by omega) h) ?_
  intro v h1 hh
  rw [hh.1]
  have k1 := hh.2
  clear hh
  have row : (AV.agg fieldC).row1 = some fieldC := by simp [AV.row1, AV.row, fieldC_one]
  have lay : alay (h1.new (.cells zz25 false)) h1.next 0 fieldC = some (h1.new (.cells fieldC false)) := alay_new (by rw [fieldC_len, zz25_len])
  have f : Fld (h1.new (.cells fieldC false)) (.ptr h1.next 0) := ⟨_, _, _, _, rfl, Nat.lt_succ_self _, get_new_self _ _, fun j _ => by rw [Nat.zero_add]⟩
  have k2 : Keep h.next nob h (h1.new (.cells fieldC false)) := k1.trans (Keep.new k1.1 _)
  have hlt2 : h1.next < (h1.new (.cells fieldC false)).next := Nat.lt_succ_self _
  generalize h1.new (.cells fieldC false) = h2 at lay f k2 hlt2
  have s0 := (sla_bytes w0).ext k2
  have s1 := (sla_bytes w1).ext k2
  have s2 := (sla_bytes w2).ext k2
  simp [row, fieldC_len, lay, s0.len', s1.len', s2.len', aop_min3 (m := a0.length) (n := a1.length) (l := a2.length)]
  generalize hN : min a0.length (min a1.length a2.length) = N
  have n0 : N ≤ a0.length := by omega
  have n1 : N ≤ a1.length := by omega
  have n2 : N ≤ a2.length := by omega
  obtain ⟨x0, f0, t0⟩ := s0.to (P := Try.prog) (ty := 32) Try.underlying32 ts5 (k := .i64) n0
  obtain ⟨x1, f1, t1⟩ := s1.to (P := Try.prog) (ty := 32) Try.underlying32 ts5 (k := .i64) n1
  obtain ⟨x2, f2, t2⟩ := s2.to (P := Try.prog) (ty := 32) Try.underlying32 ts5 (k := .i64) n2
  rw [Nat.mul_one, ← List.map_take] at t0 t1 t2
  have m0 : (a0.take N).length = N := by rw [List.length_take]; omega
  have m1 : (a1.take N).length = N := by rw [List.length_take]; omega
  have m2 : (a2.take N).length = N := by rw [List.length_take]; omega
  generalize a0.take N = x at t0 m0
  generalize a1.take N = y at t1 m1
  generalize a2.take N = z at t2 m2
  have e1 : acall Try.prog (k + 10) 16 [.int .i64 a3, .int .i64 0, .int .i64 (N : Nat)] h2 = _ := within_ok (k + 9) a3 0 (N : Nat) (by omega) (by omega) (by omega) h2
  have b1 : 0 ≤ a3 % ((N : Nat) - 0 + 1) := Int.emod_nonneg _ (by omega)
  have b2 : a3 % ((N : Nat) - 0 + 1) < (N : Nat) - 0 + 1 := Int.emod_lt_of_pos _ (by omega)
  generalize a3 % ((N : Nat) - 0 + 1) = q at e1 b1 b2
  obtain ⟨c, hc⟩ := Int.eq_ofNat_of_zero_le (show 0 ≤ 0 + q by omega)
  rw [hc] at e1
  simp [f0, f1, f2, e1, aalloc_make (P := Try.prog) el32 (z := [.int .u8 0]) az5 rfl rfl N N (Nat.le_refl _) (by omega), flat1]
  have addLen : (addL y z).length = N := by unfold addL; rw [List.length_zipWith]; omega
  have bn : h2.next < (h2.new (.cells (List.replicate N (.int .u8 0)) false)).next := Nat.lt_succ_self _
  have bg : (h2.new (.cells (List.replicate N (.int .u8 0)) false)).get h2.next = some (.cells (((addL y z).take 0).map bb ++ List.replicate (N - 0) (.int .u8 0)) false) := by rw [get_new_self]; simp
  have bk : Keep h2.next nob h2 (h2.new (.cells (List.replicate N (.int .u8 0)) false)) := Keep.new (Nat.le_refl _) _
  generalize h2.new (.cells (List.replicate N (.int .u8 0)) false) = h3 at bn bg bk
  refine W_cutLoop 0 (fun st => st.t.get 9 = some (.ptr h1.next 0) ∧ st.t.get 11 = some x0 ∧ st.t.get 12 = some x1 ∧ st.t.get 13 = some x2 ∧ st.t.get 14 = some (.int .i64 (c : Nat)) ∧ st.t.get 15 = some (.sl h2.next 0 N N 1 true) ∧
    Keep h2.next nob h2 st.h ∧ Sl 1 N st.h (.sl h2.next 0 N N 1 true) ((addL y z).map bb)) ?_ ?_
  · refine W_loop (fun m st => ∃ i, m = N - i ∧ i ≤ N ∧ st.t.get 9 = some (.ptr h1.next 0) ∧ st.t.get 11 = some x0 ∧ st.t.get 12 = some x1 ∧ st.t.get 13 = some x2 ∧ st.t.get 14 = some (.int .i64 (c : Nat)) ∧ st.t.get 15 = some (.sl h2.next 0 N N 1 true) ∧
      st.t.get 10 = some (.int .i64 (N : Nat)) ∧ st.t.get 16 = some (.int .i64 (i : Nat)) ∧ Keep h2.next nob h2 st.h ∧ h2.next < st.h.next ∧ st.h.get h2.next = some (.cells (((addL y z).take i).map bb ++ List.replicate (N - i) (.int .u8 0)) false)) N (by omega)
      ⟨0, by simp [bn, bk, bg]⟩ ?_
    rintro m ⟨t, h4⟩ ⟨i, rfl, hi, q9, q11, q12, q13, q14, q15, q10, q16, hk4, hn4, hg4⟩
    simp only at q9 q11 q12 q13 q14 q15 q10 q16 hk4 hn4 hg4
    by_cases hlt : i < N
    · obtain ⟨u, hu⟩ := getb (l := y) (j := i) (by omega)
      obtain ⟨w, hw⟩ := getb (l := z) (j := i) (by omega)
      obtain ⟨B1, i1, c1, o1, p1, p2, p3⟩ := (t1.ext hk4).at1 (P := Try.prog) (ty := 32) (e := 5) (k := .i64) Try.underlying32 ts5 (bb_get hu)
      obtain ⟨B2, i2, c2, o2, r1, r2, r3⟩ := (t2.ext hk4).at1 (P := Try.prog) (ty := 32) (e := 5) (k := .i64) Try.underlying32 ts5 (bb_get hw)
      have hs : (addL y z)[i]? = some (u ^^^ w) := by unfold addL; rw [List.getElem?_zipWith, hu, hw]
      have hl := isLt (show (i : Int) < (N : Int) by omega)
      have lt : (((addL y z).take i).map bb).length = i := by rw [List.length_map, List.length_take]; omega
      have lay2 : alay h4 h2.next i [.int .u8 ((u ^^^ w).toNat : Nat)] = some (h4.set h2.next (.cells (((addL y z).take (i + 1)).map bb ++ List.replicate (N - (i + 1)) (.int .u8 0)) false)) := by
        unfold alay
        rw [hg4]
        simp only
        rw [layAt_set (by rw [List.length_append, lt, List.length_replicate]; omega)]
        rw [List.set_append_right _ _ (by rw [lt]; exact Nat.le_refl _), lt, Nat.sub_self, List.take_add_one, hs, show N - i = (N - (i + 1)) + 1 by omega, List.replicate_succ]
        simp [bb]
      have p4 : aindex Try.prog 32 (.sl h2.next 0 N N 1 true) (.int .i64 (i : Nat)) = some (.ptr h2.next i) := by
        simp [aindex, hl]
      have hk5 : Keep h2.next nob h2 (h4.set h2.next (.cells (((addL y z).take (i + 1)).map bb ++ List.replicate (N - (i + 1)) (.int .u8 0)) false)) := hk4.trans (Keep.set (.inr (Nat.le_refl _)) _)
      have hg5 : (h4.set h2.next (.cells (((addL y z).take (i + 1)).map bb ++ List.replicate (N - (i + 1)) (.int .u8 0)) false)).get h2.next = some (.cells (((addL y z).take (i + 1)).map bb ++ List.replicate (N - (i + 1)) (.int .u8 0)) false) := get_set_self _ _ _
      have hn5 : h2.next < (h4.set h2.next (.cells (((addL y z).take (i + 1)).map bb ++ List.replicate (N - (i + 1)) (.int .u8 0)) false)).next := hn4
      generalize h4.set h2.next (.cells (((addL y z).take (i + 1)).map bb ++ List.replicate (N - (i + 1)) (.int .u8 0)) false) = h5 at lay2 hk5 hg5 hn5
      simp [q9, q11, q12, q13, q14, q15, q10, q16, hl, p1, aload, Heap.row, p2, p3, r1, r2, r3, bb, xor_u8, p4, AV.row1, AV.row, AV.one, lay2, i64w ((i : Int) + 1) (by omega) (by omega), -UInt8.toNat_xor]
      exact ⟨N - (i + 1), by omega, i + 1, rfl, by omega, by omega, hk5, hn5, by rw [← List.map_take]; exact hg5⟩
    · obtain rfl : i = N := by omega
      have hfull : ((addL y z).take i).map bb ++ List.replicate (i - i) (.int .u8 0) = (addL y z).map bb := by
        rw [Nat.sub_self, List.replicate_zero, List.append_nil, List.take_of_length_le (by omega)]
      rw [hfull] at hg4
      have hsl : Sl 1 i h4 (.sl h2.next 0 i i 1 true) ((addL y z).map bb) := .inr (.inr ⟨h2.next, 0, i, true, _, false, rfl, hn4, hg4, by rw [List.length_map]; omega, by rw [List.length_map]; omega, by rw [List.drop_zero, List.take_of_length_le (by rw [List.length_map]; omega)], Nat.le_refl _⟩)
      simp [q9, q11, q12, q13, q14, q15, q10, q16, hk4, hsl]
  rintro ⟨t, h4⟩ ⟨q9, q11, q12, q13, q14, q15, hk4, hsl⟩
  simp only at q9 q11 q12 q13 q14 q15 hk4 hsl
  have F := f.ext (Keep.weak hk4 (Nat.le_refl _) fun _ _ q => q)
  have T0 := t0.ext hk4
  have T1 := t1.ext hk4
  have T2 := t2.ext hk4
  have hcN : c ≤ N := by omega
  obtain ⟨y0, g0, u0⟩ := T0.to (P := Try.prog) (ty := 32) Try.underlying32 ts5 (k := .i64) hcN
  obtain ⟨y1, g1, u1⟩ := T1.to (P := Try.prog) (ty := 32) Try.underlying32 ts5 (k := .i64) hcN
  obtain ⟨z0, g2, u2⟩ := T0.from (P := Try.prog) (ty := 32) Try.underlying32 ts5 (k := .i64) hcN
  obtain ⟨z1, g3, u3⟩ := T1.from (P := Try.prog) (ty := 32) Try.underlying32 ts5 (k := .i64) hcN
  rw [Nat.mul_one, ← List.map_take] at u0 u1
  rw [Nat.mul_one, ← List.map_drop] at u2 u3
  have cx : (x.take c).length = c := by rw [List.length_take]; omega
  have cy : (y.take c).length = c := by rw [List.length_take]; omega
  have dx : (x.drop c).length = N - c := by rw [List.length_drop]; omega
  have dy : (y.drop c).length = N - c := by rw [List.length_drop]; omega
  have D1 : acall Try.prog (k + 10) 15 [.ptr h1.next 0, x0, x1] h4 = _ := dot_ok (k + 9) h4 _ x0 x1 F x y (by rw [m0]; exact T0) (by rw [m1]; exact T1) (by omega) (by omega)
  have D2 : acall Try.prog (k + 10) 15 [.ptr h1.next 0, x1, x0] h4 = _ := dot_ok (k + 9) h4 _ x1 x0 F y x (by rw [m1]; exact T1) (by rw [m0]; exact T0) (by omega) (by omega)
  have D3 : acall Try.prog (k + 10) 15 [.ptr h1.next 0, y0, y1] h4 = _ := dot_ok (k + 9) h4 _ y0 y1 F (x.take c) (y.take c) (by rw [cx]; exact u0) (by rw [cy]; exact u1) (by omega) (by omega)
  have D4 : acall Try.prog (k + 10) 15 [.ptr h1.next 0, z0, z1] h4 = _ := dot_ok (k + 9) h4 _ z0 z1 F (x.drop c) (y.drop c) (by rw [dx]; exact u2) (by rw [dy]; exact u3) (by omega) (by omega)
  have D5 : acall Try.prog (k + 10) 15 [.ptr h1.next 0, x0, .sl h2.next 0 N N 1 true] h4 = _ := dot_ok (k + 9) h4 _ x0 _ F x (addL y z) (by rw [m0]; exact T0) (by rw [addLen]; exact hsl) (by omega) (by omega)
  have D6 : acall Try.prog (k + 10) 15 [.ptr h1.next 0, x0, x2] h4 = _ := dot_ok (k + 9) h4 _ x0 x2 F x z (by rw [m0]; exact T0) (by rw [m2]; exact T2) (by omega) (by omega)
  have E1 := b_same (dot_comm x y)
  have E2 := b_same (show dot x y = dot (x.take c) (y.take c) ^^^ dot (x.drop c) (y.drop c) by
    rw [← dot_append _ _ _ _ (by omega), List.take_append_drop, List.take_append_drop])
  have E3 := b_same (dot_add x y z (by omega))
  simp (maxSteps := 1000000) [q9, q11, q12, q13, q14, q15, D1, D2, D3, D4, D5, D6, g0, g1, g2, g3, E1, E2, E3, xor_u8, -UInt8.toNat_xor]


mutual
theorem up1 {H : Type} : ∀ d : DataW H, Rows.uptoBulk d = bulkD d
  | .lit (.string b) => rfl
  | .lit .nil => rfl
  | .lit (.bool _) => rfl
  | .lit (.int ..) => rfl
  | .lit (.float ..) => rfl
  | .nil => rfl
  | .ptr d => by simp only [Rows.uptoBulk, bulkD, up1 d]
  | .slice e r => by simp only [Rows.uptoBulk, bulkD, up2 e, up2 r]
  | .agg p => by simp only [Rows.uptoBulk, bulkD, up2 p]
  | .iface _ d => by simp only [Rows.uptoBulk, bulkD, up1 d]
  | .map e => by simp only [Rows.uptoBulk, bulkD, up3 e]
  | .held _ => rfl
theorem up2 {H : Type} : ∀ l : List (DataW H), Rows.uptoBulkAll l = bulkDs l
  | [] => rfl
  | d :: r => by simp only [Rows.uptoBulkAll, bulkDs, up1 d, up2 r]
theorem up3 {H : Type} : ∀ l : List (Lit × DataW H), Rows.uptoBulkEntries l = bulkDe l
  | [] => rfl
  | x :: r => by simp only [Rows.uptoBulkEntries, bulkDe, up4 x, up3 r]
theorem up4 {H : Type} : ∀ x : Lit × DataW H, Rows.uptoBulkEntry x = bulkDx x
  | (.string b, d) => by simp only [Rows.uptoBulkEntry, bulkDx, up1 d]
  | (.nil, d) => by simp only [Rows.uptoBulkEntry, bulkDx, up1 d]
  | (.bool _, d) => by simp only [Rows.uptoBulkEntry, bulkDx, up1 d]
  | (.int .., d) => by simp only [Rows.uptoBulkEntry, bulkDx, up1 d]
  | (.float .., d) => by simp only [Rows.uptoBulkEntry, bulkDx, up1 d]
end
theorem own : ownKnob Try.prog.godebug = none := by kernel_rfl
theorem laid : laidOutB Try.prog = true := by kernel_rfl

set_option maxRecDepth 100000 in
theorem lifted (os : Os) (started : os.Started) (H : Type) (enc : TypeId × Value → H) (F0 : Stop.Interp) :
    ReturnsInHanded {} Try.checked os 8 .any ((Rows.OpenSpec.upto Rows.gfDotsSpec).pre6 enc Try.prog Try.f8 Rows.gfDotsUptoRow.domain false) (((Rows.OpenSpec.upto Rows.gfDotsSpec).at F0).post enc Try.prog Try.f8 false true false false) := by
  refine returnsInHanded_of_cond (C := Try.checked) (s := Rows.OpenSpec.upto Rows.gfDotsSpec) (k := Rows.uptoSmall) rfl own started (by kernel_rfl) Try.func8
    (OpenSpec.witness (enc := enc) (C := Try.checked) (s := Rows.OpenSpec.upto Rows.gfDotsSpec) (k := Rows.uptoSmall) rfl false ⟨#[], #[.slice none 0 0, .slice none 0 0, .slice none 0 0, .int .i64 0], []⟩ 8 (by kernel_rfl) (by kernel_rfl) (by kernel_rfl)
      (x := ([.nil, .nil, .nil, .lit (.int .i64 0)], [], [])) (by kernel_rfl) (by kernel_rfl) (by kernel_rfl)) ?_
  intro W base args ds gs before hval0 hW _ hk _
  have hval : ∀ (j : Nat) t v, Try.f8.params.toList[j]? = some t → args.toList[j]? = some v → Value.okWide Try.prog W .any base t v := fun j t v h1 h2 => hval0 j t v (by simpa using h1) (by simpa using h2)
  have hW' := hW
  obtain ⟨p, q, hA0, hV, rfl, hfz, hnd⟩ := hW
  have hA : DataW.TrodAll enc Try.prog W 0 (fun _ => true) true Try.f8.params.toList args.toList ds p := hA0
  obtain ⟨rfl, rfl⟩ := trodVars_none hV
  have hlt : ∀ x ∈ p, x.block < W.heap.size := fun x hx => hW'.lt x (by simp [hx])
  have hps : Try.f8.params.toList = [32, 32, 32, 3] := by rw [Try.params8]
  rw [hps] at hA hval
  obtain ⟨m, h, avs, x, g1, _, _, g2, g3, g4⟩ := (good_as1 (good_slice Try.underlying32 (by kernel_rfl) (by decide) (good_byte Try.underlying5 (by kernel_rfl))) rfl (by kernel_rfl) (good_as1 (good_slice Try.underlying32 (by kernel_rfl) (by decide) (good_byte Try.underlying5 (by kernel_rfl))) rfl (by kernel_rfl) (good_as1 (good_slice Try.underlying32 (by kernel_rfl) (by decide) (good_byte Try.underlying5 (by kernel_rfl))) rfl (by kernel_rfl) (good_as1 (good_int Try.underlying3 (by kernel_rfl)) rfl (by kernel_rfl) good_as0)))) H enc W base args.toList ds p hval hA _ _ (HRo.start W)
  obtain ⟨a0, a1, a2, a3, _⟩ := x
  obtain ⟨v0, _, rfl, ⟨u0, e0, w0⟩, ⟨v1, _, rfl, ⟨u1, e1, w1⟩, ⟨v2, _, rfl, ⟨u2, e2, w2⟩, ⟨_, _, rfl, ⟨e3, w3⟩, rfl⟩⟩⟩⟩ := g3
  obtain rfl := (List.cons.inj e0).1
  obtain rfl := (List.cons.inj e1).1
  obtain rfl := (List.cons.inj e2).1
  obtain rfl := (List.cons.inj e3).1
  have hb0 := Nat.le_trans g4 (show bulkDs ds ≤ 1048576 by
    have h1 : decide (Rows.uptoBulkAll (ds ++ []) ≤ 1048576) = true := hk
    rw [List.append_nil] at h1
    rw [← up2]
    exact of_decide_eq_true h1)
  have hcall := law_any mixed (k := 3000000 + 10) Try.func8 (by kernel_rfl) runs_ok g1 g2 (law_run 3000000 (by decide) h v0 a0 w0 v1 a1 w1 v2 a2 w2 a3 w3 hb0)
  refine hcall.mono fun e W' ⟨he, hg⟩ => ?_
  subst he
  simp only [List.append_nil] at hW' hA0 ⊢
  have hlen : ds.length = 4 := trodAll_len hA
  have hvars : (((Rows.OpenSpec.upto Rows.gfDotsSpec).at F0).fn H (ds ++ [])).vars = [] ∧ (((Rows.OpenSpec.upto Rows.gfDotsSpec).at F0).fn H (ds ++ [])).args = ds ∧ (((Rows.OpenSpec.upto Rows.gfDotsSpec).at F0).fn H (ds ++ [])).results = [.lit (.bool true)] := by
    rw [List.append_nil]
    match ds, hlen with
    | [d0, d1, d2, d3], _ => exact ⟨rfl, rfl, rfl⟩
  obtain ⟨hv1, hv2, hv3⟩ := hvars
  refine ⟨_, rfl, law_post hW' rfl hg (fun _ _ _ => ?_) (fun sp hsp => ?_) hv1
    (ok_one (by kernel_rfl) rfl (okWide_bool_mk Try.underlying4 _))⟩
  · rw [hv3]
    exact (trodAll_cons_mk (shut_bool Try.underlying4 _) trodAll_mk0)
  · have hA1 := trodAll_below laid hg sp (ts := [32, 32, 32, 3]) (by decide +kernel) hlt hsp hA
    rw [hv2, hps]
    exact hA1

theorem over : Rows.gfDotsUptoRow.holds Try.pinned (Rows.OpenSpec.upto Rows.gfDotsSpec) :=
  OpenClaim.holds_of_cond 8 Try.f8 rfl rfl rfl rfl rfl rfl rfl ⟨rfl, rfl, rfl, rfl, rfl⟩ rfl rfl rfl rfl rfl (by kernel_rfl) Try.func8 (by kernel_rfl)
    (of_decide_eq_true (by kernel_rfl)) (by unfold Func.isWrapper; first | (rw [if_pos (by decide +kernel)]; kernel_rfl) | (rw [if_neg (by decide +kernel)]; exact ⟨rfl, rfl⟩))
    (fun os started H enc _ F0 => lifted os started H enc F0)

/-- The statement. -/
theorem proved : Rows.GfDotsUptoSaid :=
  over
#print axioms proved
end Go.Proofs.Ythcnehemnjongaa.cGfDots
