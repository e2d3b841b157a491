/- The law RsDistance returns true for every input, and its input reads behind the call as it did; no conditions. The kit's model is followed by an abstract machine that is shown to tell what the model does; the contracts of the functions are proved over that machine. -/
import Derived.Test.YtmmibaaidfcbhaaRows
import Derived.Test.YtmmibaaidfcbhaaRsDistanceA
import Derived.Test.YtmmibaaidfcbhaaRsDistanceB
import Derived.WalkKit
import Derived.ProofKit
import Derived.OpenShut
import Derived.JoinedCond
namespace Go.Proofs.Ytmmibaaidfcbhaa.cRsDistance
open Go Go.ChangeShapes Go.WideShapes Go.ChangeAt Go.RowKit Go.YtmmibaaidfcbhaaAbs
set_option linter.unusedSimpArgs false
set_option linter.unusedVariables false

set_option maxRecDepth 4000
set_option maxHeartbeats 8000000 in
theorem law_run (k : Nat) (hk : 3000 < k) (h : Heap) (a0 : Int) (w0 : (Lit.int .i64 a0).wf = true) (a1 : Int) (w1 : (Lit.int .i64 a1).wf = true) (a2 : ByteArray) (w2 : a2.size ≤ maxLen) (a3 : Int) (w3 : (Lit.int .i64 a3).wf = true) (a4 : UInt8) :
    ∃ v h', afuncT Try.prog [9] (orRuns 3 (acall Try.prog (k + 10))) (k + 10) Try.f6 [.int .i64 a0, .int .i64 a1, .str a2, .int .i64 a3, .int .u8 (a4.toNat : Nat)] h = some (v, h') ∧ v = .bool true := by
  obtain ⟨a, m, W1, s1, W2, h1, b, rv, E1, C, K1⟩ := rs_start k (by omega) h a0 a1
  have ha := C.k1
  have ha8 := C.k8
  have hm := C.km
  have E2 : acall Try.prog (k + 10) 15 [.str a2, .int .i64 100] h1 = _ := short3_ok (k + 9) a2 100 h1
  have hs := shortN_le 100 a2
  generalize shortN 100 a2 = s at *
  have nc : aeql Try.prog 22 (.ptr b 0) .nilp = some false := nn_code b
  refine afuncT_ex rfl (by simp [Try.f6]) ?_
  obtain ⟨X, hX⟩ : ∃ X, bl s = X := ⟨_, rfl⟩
  have lX : X.length = s.size := by rw [← hX, bl_len]
  have sE : s = ⟨⟨X⟩⟩ := by rw [← hX]; rfl
  have hemp : s.toList.isEmpty = X.isEmpty := by rw [Lib.toList_data, ← hX]; rfl
  by_cases hs0 : X = []
  · rw [hs0] at hemp
    simp [Try.f6, W1, s1, W2, E1, E2, hemp]
  have hemp : s.toList.isEmpty = false := by
    rw [hemp]
    cases X with
    | nil => exact absurd rfl hs0
    | cons => rfl
  have lpos : 0 < X.length := List.length_pos_iff.2 hs0
  by_cases ht : a4 = 0
  · subst ht
    simp [Try.f6, W1, s1, W2, E1, E2, hemp]
  have ht1 := (b_not0 ht).1
  have ht2 := (b_not0 ht).2.1
  obtain ⟨n, hn⟩ : ∃ n, X.length = n := ⟨_, rfl⟩
  have hns : s.size = n := by omega
  have n1 : fwrap .i64 ((n : Int) - 1) = (n : Int) - 1 := i64w _ (by omega) (by omega)
  -- the other value
  obtain ⟨p, W3, p0, p1⟩ := within_nat (k + 9) a3 0 ((n : Int) - 1) (by omega) (by omega) (by omega) (h1.new (.cells (X.map bb) false))
  have hpn : p < n := by omega
  have Mw0 : Mine 1 n (h1.new (.cells (X.map bb) false)) (.sl h1.next 0 n n 1 false) (X.map bb) := by
    have := Mine.new (sz := 1) (n := n) (m := n) h1 (X.map bb) (by simp [hn]) (Nat.le_refl _) (by have := bb_one X; rw [List.all_eq_true] at this ⊢; exact fun x hx => this x (List.mem_of_mem_take hx)) false
    rw [Nat.mul_one, List.take_of_length_le (by simp [hn])] at this
    exact this
  have K2 : Keep h1.next nob h1 (h1.new (.cells (X.map bb) false)) := Keep.new (Nat.le_refl _) _
  obtain ⟨wv, hwv⟩ : ∃ wv, AV.sl h1.next 0 n n 1 false = wv := ⟨_, rfl⟩
  have Fw : ∀ d, Has wv d → h1.next ≤ d := fun d hd => by rw [← hwv] at hd; cases hd; exact Nat.le_refl _
  have lw : ∀ (k : Heap) (e : TypeId), vlen' k wv (some (.slice e)) = some (.int .i64 (n : Nat)) := fun k e => by rw [← hwv]; rfl
  rw [hwv] at Mw0
  obtain ⟨h2, e2⟩ : ∃ h2, h1.new (.cells (X.map bb) false) = h2 := ⟨_, rfl⟩
  rw [e2] at W3 Mw0 K2
  obtain ⟨x, hx⟩ : ∃ x, X[p]? = some x := ⟨X[p]'(by omega), by simp⟩
  have ixw := Mw0.sl.idx1 (P := Try.prog) Try.underlying47 ts5 (j := p) hpn .i64
  have ldw : aload Try.prog h2 5 wv.blk (wv.off + p) = some (.int .u8 (x.toNat : Nat)) := Mw0.sl.ld (P := Try.prog) ta5 (bb_get hx)
  obtain ⟨h3, a3', M3, K3, _⟩ := Mw0.lay1 (j := p) (x := .int .u8 ((x ^^^ a4).toNat : Nat)) hpn rfl
  have e3 : (X.map bb).set p (.int .u8 ((x ^^^ a4).toNat : Nat)) = (X.set p (x ^^^ a4)).map bb := by rw [List.map_set]; rfl
  rw [e3] at M3
  rw [UInt8.toNat_xor] at a3'
  have K13 : Keep h1.next nob h1 h3 := K2.trans ⟨K3.1, fun d hd _ => K3.2 d (Nat.lt_of_lt_of_le hd K2.1) fun q => by have := Fw d q; omega⟩
  obtain ⟨Y, hY⟩ : ∃ Y, X.set p (x ^^^ a4) = Y := ⟨_, rfl⟩
  rw [hY] at M3
  have lY : Y.length = n := by rw [← hY, List.length_set, hn]
  have hne : X ≠ Y := fun q => by
    have e : X[p]? = Y[p]? := by rw [q]
    rw [hx, ← hY, List.getElem?_set_self (by omega)] at e
    have e := Option.some.inj e
    refine ht ?_
    have : x ^^^ (x ^^^ a4) = x ^^^ x := by rw [← e]
    rw [← UInt8.xor_assoc, UInt8.xor_self, UInt8.zero_xor] at this
    exact this
  have C3 := C.ext K13
  obtain ⟨vp, h4, E4, M4, F4, K4⟩ := enc_ok (k + 7) h3 b a m rv C3 s (by omega) (by omega)
  obtain ⟨vq, h5, E5, M5, F5, K5⟩ := enc_ok (k + 7) h4 b a m rv (C3.ext K4) ⟨⟨Y⟩⟩ (by rw [ba_size]; omega) (by rw [ba_size]; omega)
  rw [bl_mk] at M5
  rw [hX] at M4
  have cy : aconv Try.prog h4 47 9 wv = some (.str ⟨⟨Y⟩⟩, h4) := aconv_bs (M3.sl.ext K4) Try.underlying47 Try.underlying9 Try.underlying5
  have ow := sl_old M3.sl
  have g1 := agree_keep (Nat.le_refl _) K4
  have dist := dist_ok ha ha8 hm (X := X) (Y := Y) (by omega) hne
  obtain ⟨P, hP⟩ : ∃ P, encP a m X = P := ⟨_, rfl⟩
  obtain ⟨Q, hQ⟩ : ∃ Q, encP a m Y = Q := ⟨_, rfl⟩
  obtain ⟨N, hN⟩ : ∃ N, a + m = N := ⟨_, rfl⟩
  rw [hP, hQ, hN] at dist
  rw [hP, hN] at M4
  rw [hQ, hN] at M5
  have lP : P.length = N := by rw [← hP, encP_len, hN]
  have lQ : Q.length = N := by rw [← hQ, encP_len, hN]
  have S4 := M4.sl.ext K5
  have S5 := M5.sl
  have l4 := S4.len'
  have l5 := S5.len'
  have hXm : X.map (fun b => AV.int .u8 (b.toNat : Nat)) = X.map bb := rfl
  have hsd : s.data.toList = X := hX
  simp [Try.f6, W1, s1, W2, E1, E2, hemp, ht, ht1, ht2, hsd, hns, hXm, e2, hwv, lw, n1, W3, ixw, ldw, xor_u8, a3']
  refine W_split 6 h3.next (by rfl) (by kernel_rfl) (by rfl) ?_
  dsimp only [List.take, List.drop]
  simp [obl, mayEff, mayRead, sameAV, E4, cy, E5, ow, g1]
  refine W_cutLoop 0 (fun st => st.t.get 12 = some (.int .i64 (m : Nat)) ∧ st.t.get 19 = some (.int .i64 (diffs P Q N : Nat)) ∧ st.h = h5) ?_ ?_
  · refine W_loop (fun mm st => ∃ i : Nat, mm = N - i ∧ i ≤ N ∧ st.t.get 12 = some (.int .i64 (m : Nat)) ∧ st.t.get 17 = some vp ∧ st.t.get 18 = some vq ∧ st.t.get 19 = some (.int .i64 (diffs P Q i : Nat)) ∧ st.t.get 20 = some (.int .i64 (i : Nat)) ∧ st.h = h5) N (by omega)
      ⟨0, by omega, by omega, by simp, by simp, by simp, by simp [diffs], by simp, by simp⟩ ?_
    rintro mm ⟨t, h6⟩ ⟨i, rfl, hi, q12, q17, q18, q19, q20, e⟩
    simp only at q12 q17 q18 q19 q20 e
    replace e := e.symm
    subst e
    by_cases hlt : i < N
    · obtain ⟨ix4, ld4, lt4⟩ := txs_at S4 (i := i) (by omega)
      obtain ⟨ix5, ld5, lt5⟩ := txs_at S5 (i := i) (by omega)
      have hd := diffs_succ P Q i
      have hdl := diffs_le P Q i
      generalize diffs P Q i = d0 at *
      generalize rowA P i = u at *
      generalize rowA Q i = v at *
      simp only [tx] at ld4 ld5
      by_cases huv : u = v
      · rw [if_pos huv] at hd
        have hbs : (⟨⟨u⟩⟩ : ByteArray) = ⟨⟨v⟩⟩ := by rw [huv]
        simp [q12, q17, q18, q19, q20, l4, l5, isLt (show (i : Int) < (N : Int) by omega), ix4, ld4, ix5, ld5, huv, i64w ((i : Int) + 1) (by omega) (by omega)]
        exact ⟨N - (i + 1), by omega, i + 1, rfl, by omega, by omega, by simp⟩
      · rw [if_neg huv] at hd
        have hbs : (u == v) = false := beq_false_of_ne huv
        simp [q12, q17, q18, q19, q20, l4, l5, isLt (show (i : Int) < (N : Int) by omega), ix4, ld4, ix5, ld5, huv, hbs, i64w ((i : Int) + 1) (by omega) (by omega), i64w ((d0 : Int) + 1) (by omega) (by omega)]
        exact ⟨N - (i + 1), by omega, i + 1, rfl, by omega, by omega, by simp⟩
    · have e : i = N := by omega
      subst e
      simp [q12, q17, q18, q19, q20, l4]
  rintro ⟨t, h6⟩ ⟨q12, q19, e⟩
  simp only at q12 q19 e
  subst e
  generalize diffs P Q N = d at *
  simp [q12, q19, i64w ((m : Int) + 1) (by omega) (by omega), isLe (show (m : Int) + 1 ≤ (d : Int) by omega)]


theorem own : ownKnob Try.prog.godebug = none := by kernel_rfl
theorem laid : laidOutB Try.prog = true := by kernel_rfl

set_option maxRecDepth 100000 in
theorem lifted (os : Os) (started : os.Started) (H : Type) (enc : TypeId × Value → H) :
    ReturnsInHanded {} Try.checked os 6 .any (Rows.rsDistanceSpec.pre6 enc Try.prog Try.f6 Rows.rsDistanceRow.domain false) (Rows.rsDistanceSpec.post enc Try.prog Try.f6 false true false false) := by
  refine returnsInHanded_of_change (C := Try.checked) own started (by kernel_rfl) Try.func6
    (ChangeSpec.witness6 (enc := enc) (C := Try.checked) false ⟨#[], #[.int .i64 0, .int .i64 0, .string ByteArray.empty, .int .i64 0, .int .u8 0], []⟩ 8 (by kernel_rfl) (by kernel_rfl) (by kernel_rfl) (by kernel_rfl)) ?_
  intro W base args ds gs before hval0 hW hcnd _
  have hval : ∀ (j : Nat) t v, Try.f6.params.toList[j]? = some t → args.toList[j]? = some v → Value.okWide Try.prog W .any base t v := fun j t v h1 h2 => hval0 j t v (by simpa using h1) (by simpa using h2)
  have hW' := hW
  obtain ⟨p, q, hA0, hV, rfl, hfz, hnd⟩ := hW
  have hA : DataW.TrodAll enc Try.prog W 0 (fun _ => true) true Try.f6.params.toList args.toList ds p := hA0
  obtain ⟨rfl, rfl⟩ := trodVars_none hV
  have hlt : ∀ x ∈ p, x.block < W.heap.size := fun x hx => hW'.lt x (by simp [hx])
  have hps : Try.f6.params.toList = [3, 3, 9, 3, 5] := by rw [Try.params6]
  rw [hps] at hA hval
  obtain ⟨m, h, avs, x, g1, _, _, g2, g3, g4⟩ := (good_as1 (good_int Try.underlying3 (by kernel_rfl)) rfl (by kernel_rfl) (good_as1 (good_int Try.underlying3 (by kernel_rfl)) rfl (by kernel_rfl) (good_as1 (good_str Try.underlying9 (by kernel_rfl)) rfl (by kernel_rfl) (good_as1 (good_int Try.underlying3 (by kernel_rfl)) rfl (by kernel_rfl) (good_as1 (good_byte Try.underlying5 (by kernel_rfl)) rfl (by kernel_rfl) good_as0))))) H enc W base args.toList ds p hval hA _ _ (HRo.start W)
  obtain ⟨a0, a1, a2, a3, a4, _⟩ := x
  obtain ⟨_, _, rfl, ⟨e0, w0⟩, ⟨_, _, rfl, ⟨e1, w1⟩, ⟨_, _, rfl, ⟨e2, w2⟩, ⟨_, _, rfl, ⟨e3, w3⟩, ⟨_, _, rfl, e4, rfl⟩⟩⟩⟩⟩ := g3
  obtain rfl := (List.cons.inj e0).1
  obtain rfl := (List.cons.inj e1).1
  obtain rfl := (List.cons.inj e2).1
  obtain rfl := (List.cons.inj e3).1
  obtain rfl := (List.cons.inj e4).1
  have hcall := law_any mixed (k := 3000000 + 10) Try.func6 (by kernel_rfl) runs_ok g1 g2 (law_run 3000000 (by decide) h a0 w0 a1 w1 a2 w2 a3 w3 a4)
  refine hcall.mono fun e W' ⟨he, hg⟩ => ?_
  subst he
  simp only [List.append_nil] at hW' hA0 ⊢
  have hlen : ds.length = 5 := trodAll_len hA
  have hvars : (Rows.rsDistanceSpec.fn H (ds ++ [])).vars = [] ∧ (Rows.rsDistanceSpec.fn H (ds ++ [])).args = ds ∧ (Rows.rsDistanceSpec.fn H (ds ++ [])).results = [.lit (.bool true)] := by
    rw [List.append_nil]
    match ds, hlen with
    | [d0, d1, d2, d3, d4], _ => exact ⟨rfl, rfl, rfl⟩
  obtain ⟨hv1, hv2, hv3⟩ := hvars
  refine ⟨_, rfl, law_post hW' rfl hg (fun _ _ _ => ?_) (fun sp hsp => ?_) hv1
    (ok_one (by kernel_rfl) rfl (okWide_bool_mk Try.underlying4 _))⟩
  · rw [hv3]
    exact (trodAll_cons_mk (shut_bool Try.underlying4 _) trodAll_mk0)
  · have hA1 := trodAll_below laid hg sp (ts := [3, 3, 9, 3, 5]) (by decide +kernel) hlt hsp hA
    rw [hv2, hps]
    exact hA1

theorem over : Rows.rsDistanceRow.holds Try.pinned (OpenSpec.ofChange Rows.rsDistanceSpec) :=
  OpenClaim.holds_of_wide 6 Try.f6 rfl rfl rfl rfl rfl rfl rfl ⟨rfl, rfl, rfl, rfl, rfl⟩ rfl rfl rfl rfl rfl (by kernel_rfl) Try.func6 (by kernel_rfl)
    (of_decide_eq_true (by kernel_rfl)) (by unfold Func.isWrapper; first | (rw [if_pos (by decide +kernel)]; kernel_rfl) | (rw [if_neg (by decide +kernel)]; exact ⟨rfl, rfl⟩))
    (fun os started H enc _ => lifted os started H enc)

/-- The statement. -/
theorem proved : Rows.RsDistanceSaid :=
  over
#print axioms proved
end Go.Proofs.Ytmmibaaidfcbhaa.cRsDistance
