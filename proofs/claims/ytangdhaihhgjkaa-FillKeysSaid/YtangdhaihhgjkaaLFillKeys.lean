/- The law FillKeys returns true for every input, and its input reads behind the call as it did; no conditions. The kit's model is followed by an abstract machine that is shown to tell what the model does; the contracts of the functions are proved over that machine. -/
import Derived.Test.YtangdhaihhgjkaaRows
import Derived.Test.YtangdhaihhgjkaaFillKeysA
import Derived.WalkKit
import Derived.ProofKit
import Derived.OpenShut
import Derived.JoinedCond
namespace Go.Proofs.Ytangdhaihhgjkaa.cFillKeys
open Go Go.ChangeShapes Go.WideShapes Go.ChangeAt Go.RowKit Go.YtangdhaihhgjkaaAbs
set_option linter.unusedSimpArgs false
set_option linter.unusedVariables false

set_option maxRecDepth 4000
def textB (T : List ByteArray) : List UInt8 := (T.map packT).flatten
theorem textB_snoc (T : List ByteArray) (x : ByteArray) : textB (T ++ [x]) = textB T ++ packT x := by simp [textB]
theorem packT_pos (x : ByteArray) : 0 < (packT x).length := by
  unfold packT
  rw [List.length_append]
  have := (packN_len (x.size : Nat)).1
  omega
theorem packT_len (x : ByteArray) : (packT x).length ≤ 11 + x.size := by
  unfold packT
  rw [List.length_append, sb_len]
  have := (packN_len (x.size : Nat)).2
  omega
theorem textB_len : ∀ (T : List ByteArray), (∀ x, x ∈ T → x.size ≤ 250) → (textB T).length ≤ 261 * T.length
  | [], _ => by simp [textB]
  | x :: T, h => by
    have := textB_len T (fun y hy => h y (by simp [hy]))
    have := packT_len x
    have := h x (by simp)
    have e : textB (x :: T) = packT x ++ textB T := by simp [textB]
    rw [e, List.length_append, List.length_cons]
    omega
theorem keysP_enc : ∀ (T : List ByteArray) (l : List UInt8) (n p : Nat), l.drop p = textB T → (∀ x, x ∈ T → x.size ≤ 250) → keysP l n p = (T.take n).filter fun x => keyP (sb x)
  | _, _, 0, _, _, _ => by simp [keysP]
  | [], l, n + 1, p, h, _ => by
    have : l.length ≤ p := by
      have := congrArg List.length h
      rw [List.length_drop] at this
      simp [textB] at this
      omega
    unfold keysP
    rw [if_neg (by omega)]
    rfl
  | x :: T, l, n + 1, p, h, hs => by
    have e : textB (x :: T) = (packN ((sb x).length : Nat) ++ sb x) ++ textB T := by
      rw [sb_len]
      simp [textB, packT]
    have hp : p < l.length := by
      have := congrArg List.length h
      rw [List.length_drop, e, List.length_append, List.length_append] at this
      have := (packN_len ((sb x).length : Nat)).1
      omega
    rw [e] at h
    have hx := hs x (by simp)
    have r := rdText_app (most := 250) (by rw [sb_len]; omega) (by rw [sb_len]; omega) h
    unfold keysP
    rw [if_pos hp, r]
    simp only [if_true]
    rw [keysP_enc T l n _ (drop_drop' h) (fun y hy => hs y (by simp [hy])), List.take_succ_cons, List.filter_cons]
    have ex : txt (sb x) = x := (txt_eq _ _).2 rfl
    rw [ex]
    split <;> rfl
theorem take_snoc (T : List ByteArray) (x : ByteArray) (p : ByteArray → Bool) : ((T ++ [x]).take 16).filter p = (T.take 16).filter p ++ (if T.length < 16 ∧ p x = true then [x] else []) := by
  by_cases h : T.length < 16
  · rw [List.take_of_length_le (by simp; omega), List.take_of_length_le (by omega), List.filter_append]
    cases hp : p x <;> simp [h, hp]
  · rw [if_neg (by omega), List.append_nil, List.take_append_of_le_length (by omega)]
/-- What holds while the texts are written. -/
def WInv (h : Heap) (v1 : AV) (s : ByteArray) (a1 : List ByteArray) (m : Nat) (z : St) : Prop :=
  ∃ (i : Nat) (bv wv : AV) (T W : List ByteArray), m = 30 - i ∧ i ≤ 30 ∧ i ≤ a1.length ∧ T = (a1.take i).filter (fun x => decide (x.size ≤ 250)) ∧ W = (T.take 16).filter (fun x => keyP (sb x)) ∧ T.length ≤ i ∧
    z.t.get 0 = some (.str s) ∧ z.t.get 1 = some v1 ∧ z.t.get 5 = some bv ∧ z.t.get 6 = some wv ∧ z.t.get 7 = some (.int .i64 (T.length : Nat)) ∧ z.t.get 8 = some (.int .i64 (i : Nat)) ∧
    Keep h.next nob h z.h ∧ Sl 1 (textB T).length z.h bv ((textB T).map bb) ∧ Mine 1 W.length z.h wv (W.map ss) ∧ (∀ d, Has wv d → h.next ≤ d) ∧ (∀ d, Has bv d → ¬ Has wv d) ∧ bv.one = true
theorem sl_ltB {n : Nat} {h : Heap} {v : AV} {l : List AV} (S : Sl 1 n h v l) {d : Nat} (hd : Has v d) : d < h.next := by
  rcases S with ⟨rfl, _⟩ | ⟨rfl, _⟩ | ⟨b, i, cap, ex, c, ro, rfl, q, _⟩
  · cases hd
  · cases hd
  · cases hd; exact q
theorem sl_keepK {sz n : Nat} {F : Nat → Prop} {h h' : Heap} {v : AV} {l : List AV} (S : Sl sz n h v l) (K : Keep h.next F h h') (hF : ∀ d, Has v d → ¬ F d) : Sl sz n h' v l := by
  refine S.keep K ?_
  rintro b i n c s x rfl
  refine ⟨?_, hF b rfl⟩
  rcases S with ⟨e, _⟩ | ⟨e, _⟩ | ⟨_, _, _, _, _, _, e, q, _⟩
  · cases e
  · cases e
  · cases e; exact q
set_option maxHeartbeats 4000000 in
theorem law_run (k : Nat) (hk : 20000 < k) (h : Heap) (a0 : ByteArray) (w0 : a0.size ≤ maxLen) (v1 : AV) (a1 : (List ByteArray)) (w1 : SlA kStr h v1 a1) :
    ∃ v h', afuncT Try.prog [] (orRuns 3 (acall Try.prog (k + 10))) (k + 10) Try.f6 [.str a0, v1] h = some (v, h') ∧ v = .bool true := by
  obtain ⟨S1, hS1⟩ := sla_strs w1
  refine afuncT_ex rfl (by simp [Try.f6]) ?_
  simp [Try.f6, -W_cond]
  refine W_cutN (fun z => ∃ s : ByteArray, s.size ≤ 500 ∧ z.t.get 0 = some (.str s) ∧ z.t.get 1 = some v1 ∧ z.h = h) ?_ ?_
  · by_cases hs : (a0.size : Int) ≤ 500
    · simp [hs]
      omega
    · have cut := aslice_strTo (P := Try.prog) (ty := 9) Try.underlying9 (s := a0) (k := .i64) (n := 500) (by omega) (by omega)
      simp [isLt (show (500 : Int) < (a0.size : Int) by omega), cut]
      omega
  rintro ⟨t, h'⟩ ⟨s, hs, q0, q1, e⟩
  simp only at q0 q1 e
  subst e
  simp [q0, q1]
  refine W_cutLoop 0 (fun z => ∃ (bv wv : AV) (T : List ByteArray), (∀ x, x ∈ T → x.size ≤ 250) ∧ T.length ≤ 30 ∧ z.t.get 0 = some (.str s) ∧ z.t.get 5 = some bv ∧ z.t.get 6 = some wv ∧ Keep h'.next nob h' z.h ∧ Sl 1 (textB T).length z.h bv ((textB T).map bb) ∧ Sl 1 ((T.take 16).filter (fun x => keyP (sb x))).length z.h wv (((T.take 16).filter (fun x => keyP (sb x))).map ss)) ?_ ?_
  · refine W_loop (WInv h' v1 s a1) 30 (by omega) ?_ ?_
    · unfold WInv
      exact ⟨0, .nils, .nils, [], [], rfl, by omega, by omega, rfl, rfl, Nat.le_refl _, by simp [q0], by simp [q1], by simp, by simp, by simp, by simp, Keep.refl _ _ _, (Mine.nil 1 _).sl, Mine.nil 1 _, fun d hd => (by cases hd), fun d hd => (by cases hd), rfl⟩
    rintro m ⟨t, h2⟩ hI
    unfold WInv at hI
    obtain ⟨i, bv, wv, T, W, rfl, hi, hil, hT, hW, hTl, q0, q1, q5, q6, q7, q8, K2, SB, MW, hwv, hap, ob⟩ := hI
    simp only at q0 q1 q5 q6 q7 q8 K2 SB MW
    have hT250 : ∀ x, x ∈ T → x.size ≤ 250 := fun x hx => by
      rw [hT] at hx
      exact of_decide_eq_true (List.mem_filter.1 hx).2
    have S2 := S1.ext K2
    have l1 := S2.len'
    have hWl : W.length ≤ 16 := by
      rw [hW]
      have := List.length_filter_le (fun x => keyP (sb x)) (T.take 16)
      rw [List.length_take] at this
      omega
    have done : ∃ (bv_1 wv_1 : AV) (T : List ByteArray), (∀ x, x ∈ T → x.size ≤ 250) ∧ T.length ≤ 30 ∧ bv = bv_1 ∧ wv = wv_1 ∧ Keep h'.next nob h' h2 ∧ Sl 1 (textB T).length h2 bv_1 ((textB T).map bb) ∧ Sl 1 ((T.take 16).filter (fun x => keyP (sb x))).length h2 wv_1 (((T.take 16).filter (fun x => keyP (sb x))).map ss) := ⟨bv, wv, T, hT250, by omega, rfl, rfl, K2, SB, by rw [← hW]; exact MW.sl⟩
    by_cases h1 : i < a1.length
    case neg =>
      simp [q0, q1, q5, q6, q7, q8, l1, isLe (show (a1.length : Int) ≤ (i : Int) by omega), -exists_and_left, -exists_and_right]
      exact done
    by_cases h2' : i < 30
    case neg =>
      simp [q0, q1, q5, q6, q7, q8, l1, isLt (show (i : Int) < (a1.length : Int) by omega), isLe (show (30 : Int) ≤ (i : Int) by omega), -exists_and_left, -exists_and_right]
      exact done
    obtain ⟨x, hx⟩ : ∃ x, a1[i]? = some x := ⟨a1[i], by simp⟩
    have ix := S2.idx1 (P := Try.prog) Try.underlying32 ts9 (j := i) h1 .i64
    have ld : aload Try.prog h2 9 v1.blk (v1.off + i) = some (.str x) := S2.ld ta9 (ss_get hx)
    have hT1 : (a1.take (i + 1)).filter (fun x => decide (x.size ≤ 250)) = T ++ (if x.size ≤ 250 then [x] else []) := by
      rw [List.take_add_one, hx, List.filter_append, ← hT]
      by_cases q : x.size ≤ 250 <;> simp [q]
    have w8 := i64w ((i : Int) + 1) (by omega) (by omega)
    by_cases h3 : (x.size : Int) ≤ 250
    case neg =>
      rw [if_neg (by omega), List.append_nil] at hT1
      simp [q0, q1, q5, q6, q7, q8, l1, isLt (show (i : Int) < (a1.length : Int) by omega), isLt (show (i : Int) < 30 by omega), ix, ld, isLt (show (250 : Int) < (x.size : Int) by omega), w8]
      refine ⟨30 - (i + 1), by omega, ?_⟩
      unfold WInv
      exact ⟨i + 1, bv, wv, T, W, rfl, by omega, by omega, hT1.symm, hW, by omega, by simp [q0], by simp [q1], by simp [q5], by simp [q6], by simp [q7], by simp, K2, SB, MW, hwv, hap, ob⟩
    rw [if_pos (by omega)] at hT1
    have tl := textB_len T hT250
    obtain ⟨bv', h3', E3, VB, K3⟩ := packText_ok (k + 8) (by omega) h2 bv (textB T) x SB (by omega) (by omega)
    have S3 := S2.ext K3
    have ix3 := S3.idx1 (P := Try.prog) Try.underlying32 ts9 (j := i) h1 .i64
    have ld3 : aload Try.prog h3' 9 v1.blk (v1.off + i) = some (.str x) := S3.ld ta9 (ss_get hx)
    have w7 := i64w ((T.length : Int) + 1) (by omega) (by omega)
    have M3 := MW.ext K3
    rw [← textB_snoc] at VB
    have SB3 := VB.sl
    have ob3 := SB3.oneV
    have hap3 : ∀ d, Has bv' d → h2.next ≤ d := fun d hd => by
      rcases VB.from hd with q | q
      · exact q.elim
      · exact q
    have Y := wkey_ok (k + 9) x (by omega) (by omega) h3'
    have K03 : Keep h'.next nob h' h3' := K2.trans (K3.weak K2.1 fun _ _ q => q)
    have fin : ∀ (t' : Tr AV) (h4 : Heap) (wv' : AV) (W' : List ByteArray), W' = ((T ++ [x]).take 16).filter (fun x => keyP (sb x)) → t'.get 0 = some (.str s) → t'.get 1 = some v1 → t'.get 5 = some bv' → t'.get 6 = some wv' → t'.get 7 = some (.int .i64 ((T.length : Int) + 1)) → t'.get 8 = some (.int .i64 ((i : Int) + 1)) →
        Keep h'.next nob h' h4 → Sl 1 (textB (T ++ [x])).length h4 bv' ((textB (T ++ [x])).map bb) → Mine 1 W'.length h4 wv' (W'.map ss) → (∀ d, Has wv' d → h'.next ≤ d) → (∀ d, Has bv' d → ¬ Has wv' d) → ∃ m, m < 30 - i ∧ WInv h' v1 s a1 m ⟨t', h4⟩ := by
      intro t' h4 wv' W' e1 a0 a1' a5 a6 a7 a8 K4 S4 M4 hw4 hap4
      refine ⟨30 - (i + 1), by omega, ?_⟩
      unfold WInv
      exact ⟨i + 1, bv', wv', T ++ [x], W', rfl, by omega, by omega, hT1.symm, e1, by simp; omega, a0, a1', a5, a6, by rw [List.length_append, List.length_singleton]; exact a7, a8, K4, S4, M4, hw4, hap4, ob3⟩
    have napart : ∀ d, Has bv' d → ¬ Has wv d := fun d hd q => by
      have := hap3 d hd
      have := MW.lt q
      omega
    by_cases h4 : T.length < 16
    case neg =>
      simp [q0, q1, q5, q6, q7, q8, l1, isLt (show (i : Int) < (a1.length : Int) by omega), isLt (show (i : Int) < 30 by omega), ix, ld, h3, E3, w7, isLt (show (16 : Int) < (T.length : Int) + 1 by omega), w8]
      exact fin _ h3' wv W (by rw [take_snoc, if_neg (by omega), List.append_nil]; exact hW) (by simp [q0]) (by simp [q1]) (by simp) (by simp [q6]) (by simp) (by simp) K03 SB3 M3 hwv napart
    by_cases h5 : keyP (sb x) = true
    case neg =>
      have Y : acall Try.prog (k + 10) 17 [.str x] h3' = some (.bool false, h3') := by
        have : keyP x.data.toList = false := by simpa [sb] using h5
        rw [this] at Y
        exact Y
      simp [q0, q1, q5, q6, q7, q8, l1, isLt (show (i : Int) < (a1.length : Int) by omega), isLt (show (i : Int) < 30 by omega), ix, ld, ix3, ld3, h3, E3, w7, isLe (show (T.length : Int) + 1 ≤ 16 by omega), Y, w8]
      exact fin _ h3' wv W (by rw [take_snoc, if_neg (by simp [h5]), List.append_nil]; exact hW) (by simp [q0]) (by simp [q1]) (by simp) (by simp [q6]) (by simp) (by simp) K03 SB3 M3 hwv napart
    have Y : acall Try.prog (k + 10) 17 [.str x] h3' = some (.bool true, h3') := by
      have : keyP x.data.toList = true := h5
      rw [this] at Y
      exact Y
    obtain ⟨wv', h6, a6, M6, F6, K6⟩ := M3.push (P := Try.prog) el32 (a := [ss x]) (ex := true) rfl rfl (by omega)
    have a6 : aappend Try.prog (h3'.new (.cells [.str x] false)) 32 32 wv (.sl h3'.next 0 1 1 1 true) = some (wv', h6) := a6
    simp [q0, q1, q5, q6, q7, q8, l1, isLt (show (i : Int) < (a1.length : Int) by omega), isLt (show (i : Int) < 30 by omega), ix, ld, ix3, ld3, h3, E3, w7, isLe (show (T.length : Int) + 1 ≤ 16 by omega), Y, w8, aalloc, afill, a6]
    exact fin _ h6 wv' (W ++ [x]) (by rw [take_snoc, if_pos ⟨h4, h5⟩, ← hW]) (by simp [q0]) (by simp [q1]) (by simp) (by simp) (by simp) (by simp) (K03.trans (K6.weak K03.1 fun d hd q => by have := hwv d q; omega)) (sl_keepK SB3 K6 napart) (by simpa using M6) (fun d hd => by
      rcases F6 d hd with z | z
      · exact hwv d z
      · exact Nat.le_trans K03.1 z) (fun d hd q => by
      rcases F6 d q with z | z
      · exact napart d hd z
      · have := sl_ltB SB3 hd; omega)
  · rintro ⟨t, h2⟩ ⟨bv, wv, T, hT, hTl, q0, q5, q6, K2, SB, SW⟩
    simp only at q0 q5 q6 K2 SB SW
    obtain ⟨v3, h3, E3, M3, _, K3⟩ := keys_ok (k + 5) (by omega) s (by omega) h2
    obtain ⟨v4, h4, E4, M4, _, K4⟩ := rkeys_ok (k + 5) (by omega) s (by omega) h3
    have kl := keysP_len s.data.toList 16 0
    have E5 := sameS_ok (k + 9) h4 v3 v4 _ (M3.sl.ext K4) M4.sl (by omega) (by omega)
    have K24 : Keep h2.next nob h2 h4 := K3.trans (K4.weak K3.1 fun _ _ q => q)
    have SB4 := SB.ext K24
    have cv : aconv Try.prog h4 43 9 bv = some (.str ⟨⟨textB T⟩⟩, h4) := aconv_bs SB4 Try.underlying43 Try.underlying9 Try.underlying5
    have tl := textB_len T hT
    obtain ⟨v6, h6, E6, M6, _, K6⟩ := keys_ok (k + 5) (by omega) ⟨⟨textB T⟩⟩ (by show (textB T).length < 1000000; omega) h4
    have ke : keysP (textB T) 16 0 = (T.take 16).filter (fun x => keyP (sb x)) := keysP_enc T (textB T) 16 0 rfl hT
    have M6 : Mine 1 (keysP (textB T) 16 0).length h6 v6 ((keysP (textB T) 16 0).map ss) := M6
    rw [ke] at M6
    have kl2 := List.length_filter_le (fun x => keyP (sb x)) (T.take 16)
    rw [List.length_take] at kl2
    have E7 := sameS_ok (k + 9) h6 v6 wv _ M6.sl ((SW.ext K24).ext K6) (by omega) (by omega)
    simp [q0, q5, q6, E3, E4, E5, cv, E6, E7]


theorem own : ownKnob Try.prog.godebug = none := by kernel_rfl
theorem laid : laidOutB Try.prog = true := by kernel_rfl

set_option maxRecDepth 100000 in
theorem lifted (os : Os) (started : os.Started) (H : Type) (enc : TypeId × Value → H) :
    ReturnsInHanded {} Try.checked os 6 .any (Rows.fillKeysSpec.pre6 enc Try.prog Try.f6 Rows.fillKeysRow.domain false) (Rows.fillKeysSpec.post enc Try.prog Try.f6 false true false false) := by
  refine returnsInHanded_of_change (C := Try.checked) own started (by kernel_rfl) Try.func6
    (ChangeSpec.witness6 (enc := enc) (C := Try.checked) false ⟨#[], #[.string ByteArray.empty, .slice none 0 0], []⟩ 8 (by kernel_rfl) (by kernel_rfl) (by kernel_rfl) (by kernel_rfl)) ?_
  intro W base args ds gs before hval0 hW hcnd _
  have hval : ∀ (j : Nat) t v, Try.f6.params.toList[j]? = some t → args.toList[j]? = some v → Value.okWide Try.prog W .any base t v := fun j t v h1 h2 => hval0 j t v (by simpa using h1) (by simpa using h2)
  have hW' := hW
  obtain ⟨p, q, hA0, hV, rfl, hfz, hnd⟩ := hW
  have hA : DataW.TrodAll enc Try.prog W 0 (fun _ => true) true Try.f6.params.toList args.toList ds p := hA0
  obtain ⟨rfl, rfl⟩ := trodVars_none hV
  have hlt : ∀ x ∈ p, x.block < W.heap.size := fun x hx => hW'.lt x (by simp [hx])
  have hps : Try.f6.params.toList = [9, 32] := by rw [Try.params6]
  rw [hps] at hA hval
  obtain ⟨m, h, avs, x, g1, _, _, g2, g3, g4⟩ := (good_as1 (good_str Try.underlying9 (by kernel_rfl)) rfl (by kernel_rfl) (good_as1 (good_slice Try.underlying32 (by kernel_rfl) (by decide) (good_str Try.underlying9 (by kernel_rfl))) rfl (by kernel_rfl) good_as0)) H enc W base args.toList ds p hval hA _ _ (HRo.start W)
  obtain ⟨a0, a1, _⟩ := x
  obtain ⟨_, _, rfl, ⟨e0, w0⟩, ⟨v1, _, rfl, ⟨u1, e1, w1⟩, rfl⟩⟩ := g3
  obtain rfl := (List.cons.inj e0).1
  obtain rfl := (List.cons.inj e1).1
  have hcall := law_any mixed (k := 3000000 + 10) Try.func6 (by kernel_rfl) runs_ok g1 g2 (law_run 3000000 (by decide) h a0 w0 v1 a1 w1)
  refine hcall.mono fun e W' ⟨he, hg⟩ => ?_
  subst he
  simp only [List.append_nil] at hW' hA0 ⊢
  have hlen : ds.length = 2 := trodAll_len hA
  have hvars : (Rows.fillKeysSpec.fn H (ds ++ [])).vars = [] ∧ (Rows.fillKeysSpec.fn H (ds ++ [])).args = ds ∧ (Rows.fillKeysSpec.fn H (ds ++ [])).results = [.lit (.bool true)] := by
    rw [List.append_nil]
    match ds, hlen with
    | [d0, d1], _ => exact ⟨rfl, rfl, rfl⟩
  obtain ⟨hv1, hv2, hv3⟩ := hvars
  refine ⟨_, rfl, law_post hW' rfl hg (fun _ _ _ => ?_) (fun sp hsp => ?_) hv1
    (ok_one (by kernel_rfl) rfl (okWide_bool_mk Try.underlying4 _))⟩
  · rw [hv3]
    exact (trodAll_cons_mk (shut_bool Try.underlying4 _) trodAll_mk0)
  · have hA1 := trodAll_below laid hg sp (ts := [9, 32]) (by decide +kernel) hlt hsp hA
    rw [hv2, hps]
    exact hA1

theorem over : Rows.fillKeysRow.holds Try.pinned (OpenSpec.ofChange Rows.fillKeysSpec) :=
  OpenClaim.holds_of_wide 6 Try.f6 rfl rfl rfl rfl rfl rfl rfl ⟨rfl, rfl, rfl, rfl, rfl⟩ rfl rfl rfl rfl rfl (by kernel_rfl) Try.func6 (by kernel_rfl)
    (of_decide_eq_true (by kernel_rfl)) (by unfold Func.isWrapper; first | (rw [if_pos (by decide +kernel)]; kernel_rfl) | (rw [if_neg (by decide +kernel)]; exact ⟨rfl, rfl⟩))
    (fun os started H enc _ => lifted os started H enc)

/-- The statement. -/
theorem proved : Rows.FillKeysSaid :=
  over
#print axioms proved
end Go.Proofs.Ytangdhaihhgjkaa.cFillKeys
