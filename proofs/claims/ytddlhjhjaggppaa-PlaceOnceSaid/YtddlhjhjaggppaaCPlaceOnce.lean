/- The law PlaceOnce returns true for every input, and its input reads behind the call as it did; no conditions. The kit's model is followed by an abstract machine that is shown to tell what the model does; the contracts of the functions are proved over that machine. -/
import Derived.Test.YtddlhjhjaggppaaRows
import Derived.Test.YtddlhjhjaggppaaRuns16
import Derived.Test.YtddlhjhjaggppaaPlace
import Derived.WalkKit
import Derived.ProofKit
import Derived.OpenShut
namespace Go.Proofs.Ytddlhjhjaggppaa.cPlaceOnce
open Go Go.ChangeShapes Go.WideShapes Go.ChangeAt Go.RowKit Go.YtddlhjhjaggppaaAbs
set_option linter.unusedSimpArgs false
set_option linter.unusedVariables false

theorem stripe_at {f n s j : Nat} (h : j < n) : (stripe f n s)[j]? = some (((f + j) % s : Nat) : Int) := by
  simp [stripe, List.getElem?_range h]
theorem mod_inj {f s i j : Nat} (hi : i < s) (hj : j < s) (h : (f + i) % s = (f + j) % s) : i = j := by
  have h1 := Nat.sub_mod_eq_zero_of_mod_eq h
  have h2 := Nat.sub_mod_eq_zero_of_mod_eq h.symm
  rw [Nat.mod_eq_of_lt (by omega)] at h1 h2
  omega
theorem stripe_get {f n s j : Nat} {x : Int} (h : (stripe f n s)[j]? = some x) : j < n ∧ x = (((f + j) % s : Nat) : Int) := by
  simp only [stripe, List.getElem?_map] at h
  by_cases hj : j < n
  · rw [List.getElem?_range hj] at h
    exact ⟨hj, (Option.some.inj h).symm⟩
  · rw [List.getElem?_eq_none (by simp; omega)] at h
    cases h
theorem posF_first (x : Int) : ∀ (l : List Int) (i : Nat), ((∀ j : Nat, l[j]? ≠ some x) ∧ posF l x i = -1) ∨ ∃ j : Nat, l[j]? = some x ∧ posF l x i = ((i + j : Nat) : Int)
  | [], i => .inl ⟨fun j => by simp, rfl⟩
  | y :: l, i => by
    simp only [posF]
    by_cases hy : y = x
    · exact .inr ⟨0, by simp [hy], by rw [if_pos hy]; rfl⟩
    · rw [if_neg hy]
      rcases posF_first x l (i + 1) with ⟨h1, h2⟩ | ⟨j, h1, h2⟩
      · refine .inl ⟨fun j => ?_, h2⟩
        cases j with
        | zero => simpa using hy
        | succ j => simpa using h1 j
      · exact .inr ⟨j + 1, by simpa using h1, by rw [h2]; congr 1; omega⟩
theorem pos_all {f s i : Nat} (hi : i < s) : posF (stripe f s s) (((f + i) % s : Nat) : Int) 0 = (i : Nat) := by
  rcases posF_first (((f + i) % s : Nat) : Int) (stripe f s s) 0 with ⟨h1, _⟩ | ⟨j, h1, h2⟩
  · exact absurd (stripe_at hi) (h1 i)
  · obtain ⟨a1, a2⟩ := stripe_get h1
    have := mod_inj hi a1 (Int.ofNat.inj a2)
    rw [h2, ← this, Nat.zero_add]

/-- The marks of the first i slots. -/
def mk (f s : Nat) : Nat → Nat → Bool
  | 0, _ => false
  | i + 1, x => Nat.beq ((f + i) % s) x || mk f s i x
theorem mk_iff (f s x : Nat) : ∀ i, mk f s i x = true ↔ ∃ j, j < i ∧ (f + j) % s = x
  | 0 => by simp [mk]
  | i + 1 => by
    simp only [mk, Bool.or_eq_true, mk_iff f s x i, Nat.beq_eq]
    constructor
    · rintro (h | ⟨j, a, b⟩)
      · exact ⟨i, Nat.lt_succ_self _, h⟩
      · exact ⟨j, Nat.lt_succ_of_lt a, b⟩
    · rintro ⟨j, a, b⟩
      rcases Nat.lt_succ_iff_lt_or_eq.1 a with q | rfl
      · exact .inr ⟨j, q, b⟩
      · exact .inl b
def marks (f s i : Nat) (c : List AV) : Prop := c.length = 12 ∧ ∀ x, x < 12 → c[x]? = some (.bool (mk f s i x))
theorem marks_zero (f s : Nat) : marks f s 0 [.bool false, .bool false, .bool false, .bool false, .bool false, .bool false, .bool false, .bool false, .bool false, .bool false, .bool false, .bool false] := by
  refine ⟨rfl, fun x hx => ?_⟩
  match x, hx with
  | 0, _ | 1, _ | 2, _ | 3, _ | 4, _ | 5, _ | 6, _ | 7, _ | 8, _ | 9, _ | 10, _ | 11, _ => rfl
theorem marks_set {f s i : Nat} {c : List AV} (hi : i < s) (hs : s ≤ 12) (m : marks f s i c) : marks f s (i + 1) (c.set ((f + i) % s) (.bool true)) := by
  obtain ⟨m1, m2⟩ := m
  refine ⟨by simpa using m1, fun x hx => ?_⟩
  rw [List.getElem?_set]
  have hlt : (f + i) % s < s := Nat.mod_lt _ (by omega)
  by_cases hxe : (f + i) % s = x
  · rw [if_pos hxe, if_pos (by omega)]
    simp [mk, hxe]
  · rw [if_neg hxe, m2 x hx]
    have : Nat.beq ((f + i) % s) x = false := by
      cases q : Nat.beq ((f + i) % s) x with
      | false => rfl
      | true => exact absurd (Nat.eq_of_beq_eq_true q) hxe
    simp [mk, this]
theorem marks_new {f s i : Nat} {c : List AV} (hi : i < s) (hs : s ≤ 12) (m : marks f s i c) : c[(f + i) % s]? = some (.bool false) := by
  have hlt : (f + i) % s < s := Nat.mod_lt _ (by omega)
  rw [m.2 _ (by omega)]
  have : mk f s i ((f + i) % s) = false := by
    cases q : mk f s i ((f + i) % s) with
    | false => rfl
    | true =>
      obtain ⟨j, a, b⟩ := (mk_iff f s _ i).1 q
      have := mod_inj (by omega) hi b
      omega
  rw [this]

set_option maxHeartbeats 1000000 in
theorem law_run (k : Nat) (hk : 3000 < k) (h : Heap) (a0 : ByteArray) (w0 : a0.size ≤ maxLen) (a1 : Int) (w1 : (Lit.int .i64 a1).wf = true) (a2 : Int) (w2 : (Lit.int .i64 a2).wf = true) :
    ∃ v h', afuncT Try.prog [] (orRuns 3 (acall Try.prog (k + 10))) (k + 10) Try.f5 [.str a0, .int .i64 a1, .int .i64 a2] h = some (v, h') ∧ v = .bool true := by
  refine afuncT_ex rfl (by simp [Try.f5]) ?_
  simp [Try.f5, -W_cond]
  refine W_mono (Q := fun e s => e = .normal ∧ s.h = h ∧ s.t.get 1 = some (.int .i64 a1) ∧ s.t.get 2 = some (.int .i64 a2) ∧
    ∃ key : ByteArray, key.size ≤ 500 ∧ s.t.get 0 = some (.str key)) ?_ ?_
  · by_cases hbig : (a0.size : Int) ≤ 500
    · simp [hbig]
      omega
    · simp [hbig, aslice_strTo Try.underlying9 (s := a0) (k := .i64) (n := 500) (by omega) (by omega)]
      omega
  rintro e ⟨t, h0⟩ ⟨rfl, rfl, q1, q2, key, hkey, q0⟩
  simp only at q0 q1 q2
  have e1 : acall Try.prog (k + 10) 12 [.int .i64 a2, .int .i64 1, .int .i64 12] h0 = _ := within_ok (k + 9) a2 1 12 (by omega) (by omega) (by omega) h0
  have b1 : 0 ≤ a2 % (12 - 1 + 1) := Int.emod_nonneg _ (by omega)
  have b2 : a2 % (12 - 1 + 1) < 12 - 1 + 1 := Int.emod_lt_of_pos _ (by omega)
  generalize a2 % (12 - 1 + 1) = z at e1 b1 b2
  obtain ⟨s, hs⟩ := Int.eq_ofNat_of_zero_le (show 0 ≤ 1 + z by omega)
  rw [hs] at e1
  have e2 : acall Try.prog (k + 10) 12 [.int .i64 a1, .int .i64 0, .int .i64 (s : Nat)] h0 = _ := within_ok (k + 9) a1 0 (s : Nat) (by omega) (by omega) (by omega) h0
  have b3 : 0 ≤ a1 % ((s : Nat) - 0 + 1) := Int.emod_nonneg _ (by omega)
  have b4 : a1 % ((s : Nat) - 0 + 1) < (s : Nat) - 0 + 1 := Int.emod_lt_of_pos _ (by omega)
  generalize a1 % ((s : Nat) - 0 + 1) = y at e2 b3 b4
  obtain ⟨n, hn⟩ := Int.eq_ofNat_of_zero_le (show 0 ≤ 0 + y by omega)
  rw [hn] at e2
  simp [q0, q1, q2, e1, e2]
  refine use (stripe_ok (k + 8) key (by omega) (by omega) (n : Nat) (s : Nat) h0) ?_
  intro v h1 hh
  have hv := hh.1
  have k1 := hh.2
  clear hh
  rw [stripeL_ok (by omega) (by omega) (by omega)] at hv
  simp [q0]
  refine use (stripe_ok (k + 8) key (by omega) (by omega) (s : Nat) (s : Nat) h1) ?_
  intro v2 h2 hh
  have hv2 := hh.1
  have k2 := hh.2
  clear hh
  rw [stripeL_ok (by omega) (by omega) (by omega)] at hv2
  generalize hf : hash key.data.toList % s = f at hv hv2
  have sl1 := (hv.sl).ext k2
  have sl2 := hv2.sl
  rw [stripe_len] at sl1 sl2
  obtain ⟨v3, f1, sl3⟩ := sl2.to (P := Try.prog) (ty := 22) Try.underlying22 ts3 (k := .i64) (j := n) (by omega)
  rw [Nat.mul_one, ← List.map_take, stripe_take (by omega)] at sl3
  have e4 : acall Try.prog (k + 10) 11 [v3, v] h2 = _ := same_ok (k + 9) (stripe f n s) (stripe f n s) v3 v h2 (by rw [stripe_len]; exact sl3) (by rw [stripe_len]; exact sl1) (by rw [stripe_len]; omega) (by rw [stripe_len]; omega)
  simp [sl1.len', sl2.len', f1, e4]
  have lit : AV.one (.bool false) = true := rfl
  simp [lit]
  refine W_cutLoop 0 (fun st => True) ?_ ?_
  · refine W_loop (fun m st => ∃ i c, m = s - i ∧ i ≤ s ∧ Keep h2.next nob h2 st.h ∧ h2.next < st.h.next ∧ st.h.get h2.next = some (.cells c false) ∧ marks f s i c ∧ st.t.get 0 = some (.str key) ∧ st.t.get 7 = some (.int .i64 (s : Nat)) ∧ st.t.get 10 = some v2 ∧
      st.t.get 11 = some (.ptr h2.next 0) ∧ st.t.get 12 = some (.int .i64 (i : Nat))) s (by omega) ⟨0, _, by simp, by omega, Keep.new (Nat.le_refl _) _, Nat.lt_succ_self _, get_new_self _ _, marks_zero _ _, by simp [q0]⟩ ?_
    rintro m ⟨t, h3⟩ ⟨i, c, rfl, hi, k3, hb, hc, hm, q0, q7, q10, q11, q12⟩
    simp only at q0 q7 q10 q11 q12 k3 hb hc
    by_cases hlt : i < s
    · obtain ⟨b, o, c2, ro, p1, p2, p3⟩ := (sl2.ext k3).at1 (P := Try.prog) (ty := 22) (e := 3) (k := .i64) Try.underlying22 ts3 (iv_get (stripe_at hlt))
      have hat := stripe_at (f := f) (s := s) hlt
      have hxs : (f + i) % s < s := Nat.mod_lt _ (by omega)
      have hnew := marks_new hlt (by omega) hm
      have hset := marks_set hlt (by omega) hm
      have hpos := pos_all (f := f) hlt
      generalize hx0 : (f + i) % s = x at p3 hxs hnew hset hpos
      have g1 : (x : Int) < (s : Int) := by omega
      have g2 : ¬ (s : Int) ≤ (x : Int) := by omega
      have g3 : (0 : Int) ≤ (x : Int) := by omega
      have g4 : (x : Int) < 12 := by omega
      have p4 : aindex Try.prog 29 (.ptr h2.next 0) (.int .i64 (x : Nat)) = some (.ptr h2.next x) := by
        simp [aindex, g4]
      simp [q0, q7, q10, q11, q12, hlt, p1, aload, Heap.row, p2, p3, iv, g1, g2, g3, Nat.not_le.2 hlt, Nat.not_le.2 hxs, hxs, p4, hc, hnew]
      refine use (pos_ok (k + 7) key (by omega) (by omega) (s : Nat) (s : Nat) (x : Nat) h3) ?_
      intro v5 h5 hh
      have hv5 := hh.1
      have k5 := hh.2
      clear hh
      rw [stripeL_ok (by omega) (by omega) (by omega), hf, hpos] at hv5
      rw [hv5]
      have k35 := k3.trans (k5.weak k3.1 fun _ _ q => q)
      have hc5 : h5.get h2.next = some (.cells c false) := by rw [k5.2 _ hb id]; exact hc
      obtain ⟨b', o', c2', ro', p1', p2', p3'⟩ := (sl2.ext k35).at1 (P := Try.prog) (ty := 22) (e := 3) (k := .i64) Try.underlying22 ts3 (iv_get hat)
      rw [hx0] at p3'
      have lay : alay h5 h2.next x [.bool true] = some (h5.set h2.next (.cells (c.set x (.bool true)) false)) := by
        unfold alay
        rw [hc5]
        simp only
        rw [layAt_set (by rw [hm.1]; omega)]
      simp [q0, q7, q10, q11, q12, p1', aload, Heap.row, p2', p3', iv, p4, AV.row1, AV.row, AV.one, lay, i64w ((i : Int) + 1) (by omega) (by omega)]
      refine ⟨s - (i + 1), by omega, i + 1, rfl, by omega, k35.trans (Keep.set (.inr (Nat.le_refl _)) _), Nat.lt_of_lt_of_le hb k5.1, hset, by omega⟩
    · have : i = s := by omega
      subst this
      simp [q7, q12]
  · rintro ⟨t, h3⟩ _
    simp


theorem own : ownKnob Try.prog.godebug = none := by kernel_rfl
theorem laid : laidOutB Try.prog = true := by kernel_rfl

set_option maxRecDepth 100000 in
theorem lifted (os : Os) (started : os.Started) (H : Type) (enc : TypeId × Value → H) :
    ReturnsInHanded {} Try.checked os 5 .any (Rows.placeOnceSpec.pre6 enc Try.prog Try.f5 Rows.placeOnceRow.domain false) (Rows.placeOnceSpec.post enc Try.prog Try.f5 false true false false) := by
  refine returnsInHanded_of_change (C := Try.checked) own started (by kernel_rfl) Try.func5
    (ChangeSpec.witness6 (enc := enc) (C := Try.checked) false ⟨#[], #[.string ByteArray.empty, .int .i64 0, .int .i64 0], []⟩ 8 (by kernel_rfl) (by kernel_rfl) (by kernel_rfl) (by kernel_rfl)) ?_
  intro W base args ds gs before hval0 hW hcnd _
  have hval : ∀ (j : Nat) t v, Try.f5.params.toList[j]? = some t → args.toList[j]? = some v → Value.okWide Try.prog W .any base t v := fun j t v h1 h2 => hval0 j t v (by simpa using h1) (by simpa using h2)
  have hW' := hW
  obtain ⟨p, q, hA0, hV, rfl, hfz, hnd⟩ := hW
  have hA : DataW.TrodAll enc Try.prog W 0 (fun _ => true) true Try.f5.params.toList args.toList ds p := hA0
  obtain ⟨rfl, rfl⟩ := trodVars_none hV
  have hlt : ∀ x ∈ p, x.block < W.heap.size := fun x hx => hW'.lt x (by simp [hx])
  have hps : Try.f5.params.toList = [9, 3, 3] := by rw [Try.params5]
  rw [hps] at hA hval
  obtain ⟨m, h, avs, x, g1, _, _, g2, g3⟩ := (good_as1 (good_str Try.underlying9 (by kernel_rfl)) rfl (by kernel_rfl) (good_as1 (good_int Try.underlying3 (by kernel_rfl)) rfl (by kernel_rfl) (good_as1 (good_int Try.underlying3 (by kernel_rfl)) rfl (by kernel_rfl) good_as0))) H enc W base args.toList ds p hval hA _ _ (HRo.start W)
  obtain ⟨a0, a1, a2, _⟩ := x
  obtain ⟨_, _, rfl, ⟨e0, w0⟩, ⟨_, _, rfl, ⟨e1, w1⟩, ⟨_, _, rfl, ⟨e2, w2⟩, rfl⟩⟩⟩ := g3
  obtain rfl := (List.cons.inj e0).1
  obtain rfl := (List.cons.inj e1).1
  obtain rfl := (List.cons.inj e2).1
  have hcall := law_any mixed (k := 5000 + 10) Try.func5 (by kernel_rfl) runs_ok g1 g2 (law_run 5000 (by decide) h a0 w0 a1 w1 a2 w2)
  refine hcall.mono fun e W' ⟨he, hg⟩ => ?_
  subst he
  simp only [List.append_nil] at hW' hA0 ⊢
  have hlen : ds.length = 3 := trodAll_len hA
  have hvars : (Rows.placeOnceSpec.fn H (ds ++ [])).vars = [] ∧ (Rows.placeOnceSpec.fn H (ds ++ [])).args = ds ∧ (Rows.placeOnceSpec.fn H (ds ++ [])).results = [.lit (.bool true)] := by
    rw [List.append_nil]
    match ds, hlen with
    | [d0, d1, d2], _ => exact ⟨rfl, rfl, rfl⟩
  obtain ⟨hv1, hv2, hv3⟩ := hvars
  refine ⟨_, rfl, law_post hW' rfl hg (fun _ _ _ => ?_) (fun sp hsp => ?_) hv1
    (ok_one (by kernel_rfl) rfl (okWide_bool_mk Try.underlying4 _))⟩
  · rw [hv3]
    exact (trodAll_cons_mk (shut_bool Try.underlying4 _) trodAll_mk0)
  · have hA1 := trodAll_below laid hg sp (ts := [9, 3, 3]) (by decide +kernel) hlt hsp hA
    rw [hv2, hps]
    exact hA1

theorem over : Rows.placeOnceRow.holds Try.pinned (OpenSpec.ofChange Rows.placeOnceSpec) :=
  OpenClaim.holds_of_wide 5 Try.f5 rfl rfl rfl rfl rfl rfl rfl ⟨rfl, rfl, rfl, rfl, rfl⟩ rfl rfl rfl rfl rfl (by kernel_rfl) Try.func5 (by kernel_rfl)
    (of_decide_eq_true (by kernel_rfl)) (by unfold Func.isWrapper; first | (rw [if_pos (by decide +kernel)]; kernel_rfl) | (rw [if_neg (by decide +kernel)]; exact ⟨rfl, rfl⟩))
    (fun os started H enc _ => lifted os started H enc)

/-- The statement. -/
theorem proved : Rows.PlaceOnceSaid :=
  over
#print axioms proved
end Go.Proofs.Ytddlhjhjaggppaa.cPlaceOnce
