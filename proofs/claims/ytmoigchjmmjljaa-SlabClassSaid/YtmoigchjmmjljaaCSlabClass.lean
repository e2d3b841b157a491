/- The law SlabClass returns true for every input, and its input reads behind the call as it did; no conditions. The kit's model is followed by an abstract machine that is shown to tell what the model does; the contracts of the functions are proved over that machine. -/
import Derived.Test.YtmoigchjmmjljaaRows
import Derived.Test.YtmoigchjmmjljaaRuns
import Derived.Test.YtmoigchjmmjljaaSlabN
import Derived.Test.YtmoigchjmmjljaaBook
import Derived.WalkKit
import Derived.ProofKit
import Derived.OpenShut
import Derived.JoinedCond
namespace Go.Proofs.Ytmoigchjmmjljaa.cSlabClass
open Go Go.ChangeShapes Go.WideShapes Go.ChangeAt Go.RowKit Go.YtmoigchjmmjljaaAbs
set_option linter.unusedSimpArgs false
set_option linter.unusedVariables false

set_option maxRecDepth 4000
theorem clsE_some {n : Int} : ∀ {L : List Cl} {i : Nat}, clsE n L = some i → (∃ c, L[i]? = some c ∧ n ≤ (c.size : Nat)) ∧ ∀ j c, j < i → L[j]? = some c → (c.size : Int) < n
  | [], i, h => by simp [clsE] at h
  | x :: L, i, h => by
    simp only [clsE] at h
    split at h
    · rename_i hx
      cases h
      exact ⟨⟨x, rfl, hx⟩, fun j c hj _ => absurd hj (Nat.not_lt_zero j)⟩
    · rename_i hx
      rw [Option.map_eq_some_iff] at h
      obtain ⟨i', h1, rfl⟩ := h
      obtain ⟨⟨c, h2, h3⟩, h4⟩ := clsE_some h1
      refine ⟨⟨c, by simpa using h2, h3⟩, fun j c' hj hc => ?_⟩
      cases j with
      | zero => simp at hc; subst hc; omega
      | succ j => exact h4 j c' (by omega) (by simpa using hc)
theorem clsE_none {n : Int} : ∀ {L : List Cl}, clsE n L = none → ∀ c : Cl, c ∈ L → (c.size : Int) < n
  | [], h, c, hc => by cases hc
  | x :: L, h, c, hc => by
    simp only [clsE] at h
    split at h
    · cases h
    · rename_i hx
      rw [Option.map_eq_none_iff] at h
      rcases List.mem_cons.1 hc with rfl | hc
      · omega
      · exact clsE_none h c hc
set_option maxHeartbeats 2000000 in
theorem law_run (k : Nat) (hk : 3000 < k) (h : Heap) (a0 : Int) (w0 : (Lit.int .i64 a0).wf = true) (a1 : Int) (w1 : (Lit.int .i64 a1).wf = true) :
    ∃ v h', afuncT Try.prog [] (orRuns 3 (acall Try.prog (k + 10))) (k + 10) Try.f4 [.int .i64 a0, .int .i64 a1] h = some (v, h') ∧ v = .bool true := by
  have W1 : acall Try.prog (k + 10) 15 [.int .i64 a0, .int .i64 64, .int .i64 65536] h = _ := within_ok (k + 9) a0 64 65536 (by omega) (by omega) (by omega) h
  obtain ⟨Q, hQ⟩ : ∃ Q : Nat, (64 : Int) + a0 % (65536 - 64 + 1) = (Q : Int) := ⟨((64 : Int) + a0 % (65536 - 64 + 1)).toNat, by omega⟩
  have hQ2 : 64 ≤ Q ∧ Q ≤ 65536 := by omega
  rw [hQ] at W1
  clear hQ
  obtain ⟨_, h1, E1, b, cls, vc, rfl, O, F, l1, l2, l3, l4, f1, k1⟩ := new_ok (k + 9) (by omega) h 1 Q (by omega) (by omega) hQ2.1 hQ2.2
  have E1 : acall Try.prog (k + 10) 8 [.int .i64 1, .int .i64 (Q : Nat)] h = _ := E1
  obtain ⟨z, hz⟩ : ∃ z : Nat → Nat, ∀ i, z i = 64 * 2 ^ i := ⟨_, fun _ => rfl⟩
  have z0 : z 0 = 64 := by rw [hz]
  have zs : ∀ i, z (i + 1) = 2 * z i := fun i => by rw [hz, hz, Nat.pow_succ]; omega
  have zm : ∀ i j, i ≤ j → z i ≤ z j := fun i j hij => by
    rw [hz, hz]
    exact Nat.mul_le_mul_left _ (Nat.pow_le_pow_right (by omega) hij)
  have zc : ∀ j c, cls[j]? = some c → c.size = z j := fun j c hc => by rw [hz]; exact (F j c hc).1
  obtain ⟨m, hm⟩ : ∃ m, cls.length = m + 1 := ⟨cls.length - 1, by omega⟩
  rw [hm, ← hz, Nat.add_sub_cancel] at l3
  rw [hm, ← hz] at l4
  have l5 := zs m
  clear hz F
  obtain ⟨y, h2, E2, Y, k2⟩ := classes_ok (k + 9) (by omega) h1 b _ vc O (by simp only; omega) _ rfl
  have Y := Y.sl
  simp only at Y
  have Yl : ∀ i, i < m + 1 → ((cls.map (·.size)).map nn)[i]? = some (.int .i64 (z i : Nat)) := fun i hi => by
    obtain ⟨c, hc⟩ : ∃ c, cls[i]? = some c := ⟨cls[i], by simp⟩
    rw [List.getElem?_map, List.getElem?_map, hc, ← zc i c hc]
    rfl
  generalize (cls.map (·.size)).map nn = yl at Y Yl
  rw [hm] at Y
  have O2 := O.ext k2
  have W2 : acall Try.prog (k + 10) 15 [.int .i64 a1, .int .i64 (-2), .int .i64 65538] h2 = _ := within_ok (k + 9) a1 (-2) 65538 (by omega) (by omega) (by omega) h2
  have b1 : 0 ≤ a1 % (65538 - -2 + 1) := Int.emod_nonneg _ (by decide)
  have b2 : a1 % (65538 - -2 + 1) < 65538 - -2 + 1 := Int.emod_lt_of_pos _ (by decide)
  obtain ⟨N, hN⟩ : ∃ N : Int, N = -2 + a1 % (65538 - -2 + 1) := ⟨_, rfl⟩
  have hN2 : -2 ≤ N ∧ N ≤ 65538 := by omega
  rw [← hN] at W2
  clear hN
  obtain ⟨_, h3, E3, rfl, k3⟩ := class_ok (k + 9) (by omega) h2 b _ vc O2 (by simp only; omega) N
  simp only at E3
  have Y3 := Y.ext k3
  have ix : ∀ i, i < m + 1 → aindex Try.prog 27 y (.int .i64 (i : Nat)) = some (.ptr y.blk (y.off + i)) := fun i hi => Y.idx1 Try.underlying27 ts3 hi .i64
  have ld : ∀ h', Keep h3.next nob h3 h' → ∀ i, i < m + 1 → aload Try.prog h' 3 y.blk (y.off + i) = some (.int .i64 (z i : Nat)) := fun h' K i hi => (Y3.ext K).ld ta3 (Yl i hi)
  obtain ⟨X, hX⟩ : ∃ X, X = (if N < 0 then -1 else clsZ N cls) := ⟨_, rfl⟩
  rw [← hX] at E3
  refine afuncT_ex rfl (by simp [Try.f4]) ?_
  simp [Try.f4, W1, E1, E2, W2, E3, aeql]
  refine W_cutLoop 0 (fun st => st.h = h3 ∧ st.t.get 5 = some (.int .i64 (Q : Nat)) ∧ st.t.get 8 = some y ∧ st.t.get 9 = some (.int .i64 N) ∧ st.t.get 10 = some (.int .i64 X)) ?_ ?_
  · refine W_loop (fun j st => ∃ (i : Nat), j = m + 1 - i ∧ i ≤ m + 1 ∧ st.h = h3 ∧ st.t.get 5 = some (.int .i64 (Q : Nat)) ∧ st.t.get 8 = some y ∧ st.t.get 9 = some (.int .i64 N) ∧ st.t.get 10 = some (.int .i64 X) ∧ st.t.get 11 = some (.int .i64 (i : Nat))) (m + 1) (by omega)
      ⟨0, by omega, by omega, by simp⟩ ?_
    rintro j ⟨t, h4⟩ ⟨i, rfl, hi, e4, q5, q8, q9, q10, q11⟩
    obtain rfl : h4 = h3 := e4
    simp only at q5 q8 q9 q10 q11
    have ld4 := ld h4 (Keep.refl _ _ _)
    by_cases hlt : i < m + 1
    · have b1 := zm i m (by omega)
      have s1 := i64w ((i : Int) + 1) (by omega) (by omega)
      cases i with
      | zero =>
        have ix0 := ix 0 hlt
        have ld0 := ld4 0 hlt
        simp at ix0 ld0
        rw [z0] at ld0 b1
        simp [q5, q8, q9, q10, q11, Y3.len', isLt (show (0 : Int) < ((m : Nat) : Int) + 1 by omega), ix0, ld0, isLe (show (64 : Int) ≤ (Q : Int) by omega)]
        exact ⟨m, by omega, 1, by omega, by omega, i64w 1 (by omega) (by omega)⟩
      | succ i =>
        have zi := zs i
        have ix1 : aindex Try.prog 27 y (.int .i64 ((i : Int) + 1)) = some (.ptr y.blk (y.off + (i + 1))) := ix (i + 1) hlt
        have ld1 : aload Try.prog h4 3 y.blk (y.off + (i + 1)) = some (.int .i64 (2 * (z i : Int))) := by rw [ld4 (i + 1) hlt, zi]; rfl
        have ix0 := ix i (by omega)
        have ld0 := ld4 i (by omega)
        have s2 := i64w (2 * (z i : Int)) (by omega) (by omega)
        have s3 := i64w (i : Int) (by omega) (by omega)
        have q11 : t.get 11 = some (.int .i64 ((i : Int) + 1)) := q11
        have s1 : fwrap .i64 ((i : Int) + 1 + 1) = (i : Int) + 1 + 1 := s1
        have h0 : ¬ ((i : Int) + 1 = 0) := by omega
        simp [q5, q8, q9, q10, q11, Y3.len', isLt (show (i : Int) < (m : Int) by omega), isLt (show (i : Int) + 1 < (m : Int) + 1 by omega), ix1, ld1, ix0, ld0, s1, s2, s3, h0, isLe (show 2 * (z i : Int) ≤ (Q : Int) by omega), isLt (show (0 : Int) < (i : Int) + 1 by omega)]
        exact ⟨m + 1 - (i + 2), by omega, i + 2, by omega, by omega, by omega⟩
    · have : i = m + 1 := by omega
      subst this
      simp [q5, q8, q9, q10, q11, Y3.len']
  rintro ⟨t, h4⟩ ⟨e4, q5, q8, q9, q10⟩
  obtain rfl : h4 = h3 := e4
  simp only at q5 q8 q9 q10
  have ld4 := ld h4 (Keep.refl _ _ _)
  have sm := i64w (m : Int) (by omega) (by omega)
  have ixm := ix m (by omega)
  have ldm := ld4 m (by omega)
  have sz2 := i64w (2 * (z m : Int)) (by omega) (by omega)
  by_cases hN : N < 0
  · rw [if_pos hN] at hX
    subst hX
    simp [q5, q8, q9, q10, isLt hN]
  rw [if_neg hN] at hX
  unfold clsZ at hX
  cases hc : clsE N cls with
  | none =>
    rw [hc] at hX
    simp only at hX
    obtain ⟨c, hcm⟩ : ∃ c, cls[m]? = some c := ⟨cls[m], by simp⟩
    have := clsE_none hc c (List.mem_of_getElem? hcm)
    rw [zc m c hcm] at this
    subst hX
    simp [q5, q8, q9, q10, isLe (show 0 ≤ N by omega), Y3.len', sm, ixm, ldm, isLt this, isLt (show (0 : Int) < (m : Int) + 1 by omega)]
  | some i =>
    rw [hc] at hX
    simp only at hX
    obtain ⟨⟨c, hci, hle⟩, hlow⟩ := clsE_some hc
    have hi : i < m + 1 := by have := (List.getElem?_eq_some_iff.1 hci).1; omega
    rw [zc i c hci] at hle
    subst hX
    have ixi := ix i hi
    have ldi := ld4 i hi
    cases i with
    | zero =>
      simp at ixi ldi q10
      rw [z0] at ldi hle
      have hle : N ≤ 64 := hle
      simp [q5, q8, q9, q10, Y3.len', sm, ixm, ldm, sz2, ixi, ldi, isLe hle, isLt (show (0 : Int) < ((m : Nat) : Int) + 1 by omega), isLt (show (Q : Int) < 2 * (z m : Int) by omega)]
    | succ i =>
      obtain ⟨c', hc'⟩ : ∃ c', cls[i]? = some c' := ⟨cls[i]'(by omega), by simp⟩
      have hlt := hlow i c' (by omega) hc'
      rw [zc i c' hc'] at hlt
      have ix0 := ix i (by omega)
      have ld0 := ld4 i (by omega)
      have s3 := i64w (i : Int) (by omega) (by omega)
      have ixi : aindex Try.prog 27 y (.int .i64 ((i : Int) + 1)) = some (.ptr y.blk (y.off + (i + 1))) := ixi
      have q10 : t.get 10 = some (.int .i64 ((i : Int) + 1)) := q10
      have h0 : ¬ ((i : Int) + 1 = 0) := by omega
      simp [q5, q8, q9, q10, Y3.len', sm, ixm, ldm, sz2, ixi, ldi, ix0, ld0, s3, h0, isLe hle, isLt hlt, isLe (show (0 : Int) ≤ (i : Int) + 1 by omega), isLt (show (i : Int) < (m : Int) by omega), isLt (show (Q : Int) < 2 * (z m : Int) by omega)]


theorem own : ownKnob Try.prog.godebug = none := by kernel_rfl
theorem laid : laidOutB Try.prog = true := by kernel_rfl

set_option maxRecDepth 100000 in
theorem lifted (os : Os) (started : os.Started) (H : Type) (enc : TypeId × Value → H) :
    ReturnsInHanded {} Try.checked os 4 .any (Rows.slabClassSpec.pre6 enc Try.prog Try.f4 Rows.slabClassRow.domain false) (Rows.slabClassSpec.post enc Try.prog Try.f4 false true false false) := by
  refine returnsInHanded_of_change (C := Try.checked) own started (by kernel_rfl) Try.func4
    (ChangeSpec.witness6 (enc := enc) (C := Try.checked) false ⟨#[], #[.int .i64 0, .int .i64 0], []⟩ 8 (by kernel_rfl) (by kernel_rfl) (by kernel_rfl) (by kernel_rfl)) ?_
  intro W base args ds gs before hval0 hW hcnd _
  have hval : ∀ (j : Nat) t v, Try.f4.params.toList[j]? = some t → args.toList[j]? = some v → Value.okWide Try.prog W .any base t v := fun j t v h1 h2 => hval0 j t v (by simpa using h1) (by simpa using h2)
  have hW' := hW
  obtain ⟨p, q, hA0, hV, rfl, hfz, hnd⟩ := hW
  have hA : DataW.TrodAll enc Try.prog W 0 (fun _ => true) true Try.f4.params.toList args.toList ds p := hA0
  obtain ⟨rfl, rfl⟩ := trodVars_none hV
  have hlt : ∀ x ∈ p, x.block < W.heap.size := fun x hx => hW'.lt x (by simp [hx])
  have hps : Try.f4.params.toList = [3, 3] := by rw [Try.params4]
  rw [hps] at hA hval
  obtain ⟨m, h, avs, x, g1, _, _, g2, g3, g4⟩ := (good_as1 (good_int Try.underlying3 (by kernel_rfl)) rfl (by kernel_rfl) (good_as1 (good_int Try.underlying3 (by kernel_rfl)) rfl (by kernel_rfl) good_as0)) H enc W base args.toList ds p hval hA _ _ (HRo.start W)
  obtain ⟨a0, a1, _⟩ := x
  obtain ⟨_, _, rfl, ⟨e0, w0⟩, ⟨_, _, rfl, ⟨e1, w1⟩, rfl⟩⟩ := g3
  obtain rfl := (List.cons.inj e0).1
  obtain rfl := (List.cons.inj e1).1
  have hcall := law_any mixed (k := 100000 + 10) Try.func4 (by kernel_rfl) runs_ok g1 g2 (law_run 100000 (by decide) h a0 w0 a1 w1)
  refine hcall.mono fun e W' ⟨he, hg⟩ => ?_
  subst he
  simp only [List.append_nil] at hW' hA0 ⊢
  have hlen : ds.length = 2 := trodAll_len hA
  have hvars : (Rows.slabClassSpec.fn H (ds ++ [])).vars = [] ∧ (Rows.slabClassSpec.fn H (ds ++ [])).args = ds ∧ (Rows.slabClassSpec.fn H (ds ++ [])).results = [.lit (.bool true)] := by
    rw [List.append_nil]
    match ds, hlen with
    | [d0, d1], _ => exact ⟨rfl, rfl, rfl⟩
  obtain ⟨hv1, hv2, hv3⟩ := hvars
  refine ⟨_, rfl, law_post hW' rfl hg (fun _ _ _ => ?_) (fun sp hsp => ?_) hv1
    (ok_one (by kernel_rfl) rfl (okWide_bool_mk Try.underlying4 _))⟩
  · rw [hv3]
    exact (trodAll_cons_mk (shut_bool Try.underlying4 _) trodAll_mk0)
  · have hA1 := trodAll_below laid hg sp (ts := [3, 3]) (by decide +kernel) hlt hsp hA
    rw [hv2, hps]
    exact hA1

theorem over : Rows.slabClassRow.holds Try.pinned (OpenSpec.ofChange Rows.slabClassSpec) :=
  OpenClaim.holds_of_wide 4 Try.f4 rfl rfl rfl rfl rfl rfl rfl ⟨rfl, rfl, rfl, rfl, rfl⟩ rfl rfl rfl rfl rfl (by kernel_rfl) Try.func4 (by kernel_rfl)
    (of_decide_eq_true (by kernel_rfl)) (by unfold Func.isWrapper; first | (rw [if_pos (by decide +kernel)]; kernel_rfl) | (rw [if_neg (by decide +kernel)]; exact ⟨rfl, rfl⟩))
    (fun os started H enc _ => lifted os started H enc)

/-- The statement. -/
theorem proved : Rows.SlabClassSaid :=
  over
#print axioms proved
end Go.Proofs.Ytmoigchjmmjljaa.cSlabClass
