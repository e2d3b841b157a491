/- The law RsSizes returns true for every input, and its input reads behind the call as it did; no conditions. The kit's model is followed by an abstract machine that is shown to tell what the model does; the contracts of the functions are proved over that machine. -/
import Derived.Test.YtmmibaaidfcbhaaRows
import Derived.Test.YtmmibaaidfcbhaaRsSizesA
import Derived.Test.YtmmibaaidfcbhaaRsSizesB
import Derived.WalkKit
import Derived.ProofKit
import Derived.OpenShut
import Derived.JoinedCond
namespace Go.Proofs.Ytmmibaaidfcbhaa.cRsSizes
open Go Go.ChangeShapes Go.WideShapes Go.ChangeAt Go.RowKit Go.YtmmibaaidfcbhaaAbs
set_option linter.unusedSimpArgs false
set_option linter.unusedVariables false

set_option maxRecDepth 4000
set_option maxHeartbeats 4000000 in
theorem law_run (k : Nat) (hk : 3000 < k) (h : Heap) (a0 : Int) (w0 : (Lit.int .i64 a0).wf = true) (a1 : Int) (w1 : (Lit.int .i64 a1).wf = true) (a2 : ByteArray) (w2 : a2.size ≤ maxLen) (a3 : Int) (w3 : (Lit.int .i64 a3).wf = true) :
    ∃ v h', afuncT Try.prog [] (orRuns 3 (acall Try.prog (k + 10))) (k + 10) Try.f8 [.int .i64 a0, .int .i64 a1, .str a2, .int .i64 a3] h = some (v, h') ∧ v = .bool true := by
  obtain ⟨n, m, W1, s1, W2, h1, b, rv, E1, C, K1⟩ := rs_start k (by omega) h a0 a1
  have hn := C.k1
  have hn8 := C.k8
  have hm := C.km
  have E2 : acall Try.prog (k + 10) 15 [.str a2, .int .i64 200] h1 = _ := short3_ok (k + 9) a2 200 h1
  have hs := shortN_le 200 a2
  generalize shortN 200 a2 = s at *
  obtain ⟨v3, h3, E3, M3, F3, K3⟩ := enc_ok (k + 7) h1 b n m rv C s (by omega) (by omega)
  have C3 := C.ext K3
  have E4 := size_ok (k + 9) C3 s.size (by omega)
  have l3 := M3.sl.len'
  obtain ⟨x, W5, x0, x1⟩ := within_nat (k + 9) a3 0 1048576 (by omega) (by omega) (by omega) h3
  have E6 := n_ok (k + 9) C3
  have E7 := size_ok (k + 9) C3 x (by omega)
  have E8 := size_ok (k + 9) C3 (x + 1) (by omega)
  have E9 := size_ok (k + 9) C3 (x + n) (by omega)
  have mono := szN_mono (k := n) (x := x) (y := x + 1) (by omega)
  have more := szN_more (k := n) (x := x) hn
  have hx1 := szN_le (k := n) (n := x + 1) hn
  have hx0 := szN_le (k := n) (n := x) hn
  obtain ⟨q1, q2⟩ := szN_fits (k := n) (n := s.size) hn
  have q3 := szN_le (k := n) (n := s.size) hn
  have rows := encP_rows (k := n) (m := m) hn (bl s)
  rw [bl_len] at rows
  have el := encP_len n m (bl s)
  rw [more] at E9
  generalize szN n s.size = sz at *
  generalize szN n x = u at *
  generalize szN n (x + 1) = w at *
  generalize encP n m (bl s) = E at *
  have hmu : n * sz ≤ 8 * 200 := Nat.mul_le_mul hn8 (by omega)
  obtain ⟨N, hN⟩ : ∃ N, n * sz = N := ⟨_, rfl⟩
  rw [hN] at q1 q2 hmu
  have e1 : (sz : Int) * (n : Int) = (N : Nat) := by rw [← hN, Nat.mul_comm]; simp
  obtain ⟨t, ht⟩ : ∃ t, n + m = t := ⟨_, rfl⟩
  rw [ht] at el l3 E6
  refine afuncT_ex rfl (by simp [Try.f8]) ?_
  simp [Try.f8, W1, s1, W2, E1, E2, E3, E4]
  refine W_cutLoop 0 (fun st => st.t.get 3 = some (.int .i64 a3) ∧ st.t.get 9 = some (.int .i64 (n : Nat)) ∧ st.t.get 10 = some (.ptr b 0) ∧ st.t.get 12 = some (.str s) ∧ st.t.get 13 = some v3 ∧ st.t.get 14 = some (.int .i64 (sz : Nat)) ∧ st.h = h3) ?_ ?_
  · refine W_loop (fun mm st => ∃ i : Nat, mm = t - i ∧ i ≤ t ∧ st.t.get 3 = some (.int .i64 a3) ∧ st.t.get 9 = some (.int .i64 (n : Nat)) ∧ st.t.get 10 = some (.ptr b 0) ∧ st.t.get 12 = some (.str s) ∧ st.t.get 13 = some v3 ∧ st.t.get 14 = some (.int .i64 (sz : Nat)) ∧ st.t.get 15 = some (.int .i64 (i : Nat)) ∧ st.h = h3) t (by omega)
      ⟨0, by omega, by omega, by simp, by simp, by simp, by simp, by simp, by simp, by simp, by simp⟩ ?_
    rintro mm ⟨tt, h4⟩ ⟨i, rfl, hi, q3', q9, q10, q12, q13, q14, q15, e⟩
    simp only at q3' q9 q10 q12 q13 q14 q15 e
    replace e := e.symm
    subst e
    by_cases hlt : i < t
    · obtain ⟨ix, ld, _⟩ := txs_at M3.sl (i := i) (by omega)
      have hr := rows.row (k := i) (by omega)
      have hr' : (⟨⟨rowA E i⟩⟩ : ByteArray).size = sz := hr
      simp [q3', q9, q10, q12, q13, q14, q15, l3, isLt (show (i : Int) < (t : Int) by omega), ix, ld, tx, hr', i64w ((i : Int) + 1) (by omega) (by omega)]
      exact ⟨t - (i + 1), by omega, i + 1, rfl, by omega, by simp⟩
    · simp [q3', q9, q10, q12, q13, q14, q15, l3, isLe (show (t : Int) ≤ (i : Int) by omega)]
  rintro ⟨tt, h4⟩ ⟨q3', q9, q10, q12, q13, q14, e⟩
  simp only at q3' q9 q10 q12 q13 q14 e
  subst e
  simp at E8 E9
  simp [q3', q9, q10, q12, q13, q14, W5, l3, E6, e1, i64w ((N : Nat) : Int) (by omega) (by omega), isLe (show (s.size : Int) ≤ (N : Int) by omega), i64w ((s.size : Int) + (n : Int)) (by omega) (by omega), isLt (show (N : Int) < (s.size : Int) + (n : Int) by omega), E7, i64w ((x : Int) + 1) (by omega) (by omega), E8, isLe (show (u : Int) ≤ (w : Int) by omega), i64w ((x : Int) + (n : Int)) (by omega) (by omega), E9, i64w ((u : Int) + 1) (by omega) (by omega)]


theorem own : ownKnob Try.prog.godebug = none := by kernel_rfl
theorem laid : laidOutB Try.prog = true := by kernel_rfl

set_option maxRecDepth 100000 in
theorem lifted (os : Os) (started : os.Started) (H : Type) (enc : TypeId × Value → H) :
    ReturnsInHanded {} Try.checked os 8 .any (Rows.rsSizesSpec.pre6 enc Try.prog Try.f8 Rows.rsSizesRow.domain false) (Rows.rsSizesSpec.post enc Try.prog Try.f8 false true false false) := by
  refine returnsInHanded_of_change (C := Try.checked) own started (by kernel_rfl) Try.func8
    (ChangeSpec.witness6 (enc := enc) (C := Try.checked) false ⟨#[], #[.int .i64 0, .int .i64 0, .string ByteArray.empty, .int .i64 0], []⟩ 8 (by kernel_rfl) (by kernel_rfl) (by kernel_rfl) (by kernel_rfl)) ?_
  intro W base args ds gs before hval0 hW hcnd _
  have hval : ∀ (j : Nat) t v, Try.f8.params.toList[j]? = some t → args.toList[j]? = some v → Value.okWide Try.prog W .any base t v := fun j t v h1 h2 => hval0 j t v (by simpa using h1) (by simpa using h2)
  have hW' := hW
  obtain ⟨p, q, hA0, hV, rfl, hfz, hnd⟩ := hW
  have hA : DataW.TrodAll enc Try.prog W 0 (fun _ => true) true Try.f8.params.toList args.toList ds p := hA0
  obtain ⟨rfl, rfl⟩ := trodVars_none hV
  have hlt : ∀ x ∈ p, x.block < W.heap.size := fun x hx => hW'.lt x (by simp [hx])
  have hps : Try.f8.params.toList = [3, 3, 9, 3] := by rw [Try.params8]
  rw [hps] at hA hval
  obtain ⟨m, h, avs, x, g1, _, _, g2, g3, g4⟩ := (good_as1 (good_int Try.underlying3 (by kernel_rfl)) rfl (by kernel_rfl) (good_as1 (good_int Try.underlying3 (by kernel_rfl)) rfl (by kernel_rfl) (good_as1 (good_str Try.underlying9 (by kernel_rfl)) rfl (by kernel_rfl) (good_as1 (good_int Try.underlying3 (by kernel_rfl)) rfl (by kernel_rfl) good_as0)))) H enc W base args.toList ds p hval hA _ _ (HRo.start W)
  obtain ⟨a0, a1, a2, a3, _⟩ := x
  obtain ⟨_, _, rfl, ⟨e0, w0⟩, ⟨_, _, rfl, ⟨e1, w1⟩, ⟨_, _, rfl, ⟨e2, w2⟩, ⟨_, _, rfl, ⟨e3, w3⟩, rfl⟩⟩⟩⟩ := g3
  obtain rfl := (List.cons.inj e0).1
  obtain rfl := (List.cons.inj e1).1
  obtain rfl := (List.cons.inj e2).1
  obtain rfl := (List.cons.inj e3).1
  have hcall := law_any mixed (k := 3000000 + 10) Try.func8 (by kernel_rfl) runs_ok g1 g2 (law_run 3000000 (by decide) h a0 w0 a1 w1 a2 w2 a3 w3)
  refine hcall.mono fun e W' ⟨he, hg⟩ => ?_
  subst he
  simp only [List.append_nil] at hW' hA0 ⊢
  have hlen : ds.length = 4 := trodAll_len hA
  have hvars : (Rows.rsSizesSpec.fn H (ds ++ [])).vars = [] ∧ (Rows.rsSizesSpec.fn H (ds ++ [])).args = ds ∧ (Rows.rsSizesSpec.fn H (ds ++ [])).results = [.lit (.bool true)] := by
    rw [List.append_nil]
    match ds, hlen with
    | [d0, d1, d2, d3], _ => exact ⟨rfl, rfl, rfl⟩
  obtain ⟨hv1, hv2, hv3⟩ := hvars
  refine ⟨_, rfl, law_post hW' rfl hg (fun _ _ _ => ?_) (fun sp hsp => ?_) hv1
    (ok_one (by kernel_rfl) rfl (okWide_bool_mk Try.underlying4 _))⟩
  · rw [hv3]
    exact (trodAll_cons_mk (shut_bool Try.underlying4 _) trodAll_mk0)
  · have hA1 := trodAll_below laid hg sp (ts := [3, 3, 9, 3]) (by decide +kernel) hlt hsp hA
    rw [hv2, hps]
    exact hA1

theorem over : Rows.rsSizesRow.holds Try.pinned (OpenSpec.ofChange Rows.rsSizesSpec) :=
  OpenClaim.holds_of_wide 8 Try.f8 rfl rfl rfl rfl rfl rfl rfl ⟨rfl, rfl, rfl, rfl, rfl⟩ rfl rfl rfl rfl rfl (by kernel_rfl) Try.func8 (by kernel_rfl)
    (of_decide_eq_true (by kernel_rfl)) (by unfold Func.isWrapper; first | (rw [if_pos (by decide +kernel)]; kernel_rfl) | (rw [if_neg (by decide +kernel)]; exact ⟨rfl, rfl⟩))
    (fun os started H enc _ => lifted os started H enc)

/-- The statement. -/
theorem proved : Rows.RsSizesSaid :=
  over
#print axioms proved
end Go.Proofs.Ytmmibaaidfcbhaa.cRsSizes
