/- The law ChainTwins returns true for every input, and its input reads behind the call as it did; no conditions. The kit's model is followed by an abstract machine that is shown to tell what the model does; the contracts of the functions are proved over that machine. -/
import Derived.Test.YtdnjhipgfbhecaaRows
import Derived.Test.YtdnjhipgfbhecaaRuns
import Derived.Test.YtdnjhipgfbhecaaTell
import Derived.WalkKit
import Derived.ProofKit
import Derived.OpenShut
import Derived.JoinedCond
namespace Go.Proofs.Ytdnjhipgfbhecaa.cChainTwins
open Go Go.ChangeShapes Go.WideShapes Go.ChangeAt Go.RowKit Go.YtdnjhipgfbhecaaAbs
set_option linter.unusedSimpArgs false
set_option linter.unusedVariables false

set_option maxRecDepth 4000
set_option maxHeartbeats 2000000 in
theorem law_run (k : Nat) (hk : 300000 < k) (h : Heap) (v0 : AV) (a0 : (List (Int × (Int × (ByteArray × Unit))))) (w0 : SlA (kPair (kInt .i64) (kPair (kInt .i64) (kPair kStr kNil))) h v0 a0) (v1 : AV) (a1 : (List (Int × (Int × (ByteArray × Unit))))) (w1 : SlA (kPair (kInt .i64) (kPair (kInt .i64) (kPair kStr kNil))) h v1 a1) :
    ∃ v h', afuncT Try.prog [] (orRuns 3 (acall Try.prog (k + 10))) (k + 10) Try.f8 [v0, v1] h = some (v, h') ∧ v = .bool true := by
  obtain ⟨s0, r0⟩ := sla_its w0
  obtain ⟨s1, r1⟩ := sla_its w1
  obtain ⟨p1, h1, E1, ba, vna, voa, rna, roa, e1, OA, fA, k1⟩ := new_ok (k + 9) h
  subst e1
  obtain ⟨p2, h2, E2, bb, vnb, vob, rnb, rob, e2, OB, fB, k2⟩ := new_ok (k + 9) h1
  subst e2
  have OA2 := OA.ext k2
  have k12 : Keep h.next nob h h2 := k1.trans (k2.weak k1.1 fun _ _ q => q)
  have sep : ∀ d, d ∈ fpC ba vna voa rna roa → d ∉ fpC bb vnb vob rnb rob := fun d hd q => by have := OA.fp_lt hd; have := fB d q; omega
  have fB' : ∀ d, d ∈ fpC bb vnb vob rnb rob → h.next ≤ d := fun d hd => Nat.le_trans k1.1 (fB d hd)
  refine afuncT_ex rfl (by simp [Try.f8]) ?_
  simp [Try.f8, E1, E2, aeql]
  refine W_cutLoop 0 (fun st => st.t.get 1 = some v1 ∧ st.t.get 5 = some (.ptr ba 0) ∧ st.t.get 6 = some (.ptr bb 0) ∧ st.t.get 7 = some (.fn 24 []) ∧ Keep h.next nob h st.h ∧ ∃ (c : Ch) (vna voa : AV) (rna roa : List AV) (vnb vob : AV) (rnb rob : List AV),
      ChI 60 c ∧ ChO st.h ba c vna voa rna roa ∧ ChO st.h bb c vnb vob rnb rob ∧ (∀ d, d ∈ fpC ba vna voa rna roa → h.next ≤ d ∧ d ∉ fpC bb vnb vob rnb rob) ∧ (∀ d, d ∈ fpC bb vnb vob rnb rob → h.next ≤ d)) ?_ ?_
  · refine W_loop (fun m st => ∃ (i : Nat) (c : Ch) (vna voa : AV) (rna roa : List AV) (vnb vob : AV) (rnb rob : List AV), m = min a0.length 60 - i ∧ i ≤ min a0.length 60 ∧ st.t.get 0 = some v0 ∧ st.t.get 1 = some v1 ∧ st.t.get 5 = some (.ptr ba 0) ∧ st.t.get 6 = some (.ptr bb 0) ∧ st.t.get 7 = some (.fn 24 []) ∧ st.t.get 8 = some (.int .i64 (i : Nat)) ∧ Keep h.next nob h st.h ∧
      ChI i c ∧ ChO st.h ba c vna voa rna roa ∧ ChO st.h bb c vnb vob rnb rob ∧ (∀ d, d ∈ fpC ba vna voa rna roa → h.next ≤ d ∧ d ∉ fpC bb vnb vob rnb rob) ∧ (∀ d, d ∈ fpC bb vnb vob rnb rob → h.next ≤ d)) (min a0.length 60) (by omega)
      ⟨0, .new, vna, voa, rna, roa, vnb, vob, rnb, rob, by simp, by omega, rfl, rfl, rfl, rfl, rfl, rfl, k12, ChI.new 0, OA2, OB, fun d hd => ⟨fA d hd, sep d hd⟩, fB'⟩ ?_
    rintro m ⟨t, h3⟩ ⟨i, c, vna, voa, rna, roa, vnb, vob, rnb, rob, rfl, hi, q0, q1, q5, q6, q7, q8, K, I, OA, OB, fA, fB⟩
    simp only at q0 q1 q5 q6 q7 q8 K OA OB
    have S0 := s0.ext K
    by_cases hlt : i < min a0.length 60
    · obtain ⟨x, hx⟩ : ∃ x, a0[i]? = some x := ⟨a0[i]'(by omega), by simp⟩
      have ix := S0.idx (P := Try.prog) Try.underlying39 ts43 (j := i) (by omega) .i64
      have ld := S0.lds (P := Try.prog) ta43 ts43 (j := i * 3) (by rw [cat_len itC_len]; omega) (by omega)
      rw [cat_at itC_len hx] at ld
      obtain ⟨u4, h4, E4, e4, ⟨vna4, voa4, rna4, roa4, OA4, fA4⟩, K4⟩ := tell_ok (k + 6) (by omega) h3 ba c vna voa rna roa OA I (by omega) x
      subst e4
      have OB4 := OB.keep K4 fun d hd q => (fA d q).2 hd
      obtain ⟨u5, h5, E5, e5, ⟨vnb5, vob5, rnb5, rob5, OB5, fB5⟩, K5⟩ := tell_ok (k + 6) (by omega) h4 bb c vnb vob rnb rob OB4 I (by omega) x
      subst e5
      have sepA4 : ∀ d, d ∈ fpC ba vna4 voa4 rna4 roa4 → h.next ≤ d ∧ d ∉ fpC bb vnb vob rnb rob := fun d hd => by
        rcases fA4 d hd with z | z
        · exact fA d z
        · exact ⟨Nat.le_trans K.1 z, fun q => by have := OB.fp_lt q; omega⟩
      have OA5 := OA4.keep K5 fun d hd q => (sepA4 d hd).2 q
      have sepA5 : ∀ d, d ∈ fpC ba vna4 voa4 rna4 roa4 → h.next ≤ d ∧ d ∉ fpC bb vnb5 vob5 rnb5 rob5 := fun d hd => ⟨(sepA4 d hd).1, fun q => by
        rcases fB5 d q with z | z
        · exact (sepA4 d hd).2 z
        · have := OA4.fp_lt hd; omega⟩
      have fB5' : ∀ d, d ∈ fpC bb vnb5 vob5 rnb5 rob5 → h.next ≤ d := fun d hd => by
        rcases fB5 d hd with z | z
        · exact fB d z
        · exact Nat.le_trans K.1 (Nat.le_trans K4.1 z)
      have KK : Keep h.next nob h h5 := K.trans ⟨Nat.le_trans K4.1 K5.1, fun d hd _ => by
        rw [K5.2 d (Nat.lt_of_lt_of_le hd (Nat.le_trans K.1 K4.1)) (fun q => by have := fB d q; omega), K4.2 d (Nat.lt_of_lt_of_le hd K.1) (fun q => by have := (fA d q).1; omega)]⟩
      have K04 : Keep h.next nob h h4 := K.trans ⟨K4.1, fun d hd _ => K4.2 d (Nat.lt_of_lt_of_le hd K.1) (fun q => by have := (fA d q).1; omega)⟩
      have ld4 := (s0.ext K04).lds (P := Try.prog) ta43 ts43 (j := i * 3) (by rw [cat_len itC_len]; omega) (by omega)
      rw [cat_at itC_len hx] at ld4
      simp [q0, q1, q5, q6, q7, q8, S0.len', isLt (show (i : Int) < (a0.length : Int) by omega), isLt (show (i : Int) < 60 by omega), ix, ld, ld4, E4, E5, i64s (n := (i : Int) + 1) (by omega) (by omega)]
      exact ⟨min a0.length 60 - (i + 1), by omega, i + 1, rfl, by omega, by omega, KK, (tellC c x).2, I.tell x, vna4, voa4, rna4, roa4, OA5, vnb5, vob5, rnb5, rob5, OB5, sepA5, fB5'⟩
    · have fin : ChI 60 c := I.mono (by omega)
      by_cases hl3 : i < a0.length
      · simp [q0, q1, q5, q6, q7, q8, S0.len', isLt (show (i : Int) < (a0.length : Int) by omega), isLe (show (60 : Int) ≤ (i : Int) by omega)]
        exact ⟨K, c, fin, vna, voa, rna, roa, OA, vnb, vob, rnb, rob, OB, fA, fB⟩
      · simp [q0, q1, q5, q6, q7, q8, S0.len', isLe (show (a0.length : Int) ≤ (i : Int) by omega)]
        exact ⟨K, c, fin, vna, voa, rna, roa, OA, vnb, vob, rnb, rob, OB, fA, fB⟩
  rintro ⟨t, h3⟩ ⟨q1, q5, q6, q7, K, c, vna, voa, rna, roa, vnb, vob, rnb, rob, I, OA, OB, fA, fB⟩
  simp only at q1 q5 q6 q7 K OA OB
  have sh : acall Try.prog (k + 10) 11 [.ptr ba 0] h3 = _ := shape_ok (k + 9) h3 ba c vna voa rna roa OA
  have ln : acall Try.prog (k + 10) 13 [.ptr ba 0] h3 = _ := len_ok (k + 9) h3 ba c vna voa rna roa OA
  simp [q1, q5, q6, q7, sh, ln]
  refine W_cutLoop 2 (fun st => st.t.get 5 = some (.ptr ba 0) ∧ st.t.get 13 = some (.int .i64 (c.now.length : Nat)) ∧ st.t.get 14 = some (.int .i64 (c.old.length : Nat)) ∧ st.t.get 15 = some (.int .i64 (c.moved : Nat)) ∧ st.t.get 16 = some (.int .i64 (c.len : Nat)) ∧ ChO st.h ba c vna voa rna roa) ?_ ?_
  · refine W_loop (fun m st => ∃ (i : Nat) (c' : Ch) (vnb vob : AV) (rnb rob : List AV), m = min a1.length 30 - i ∧ i ≤ min a1.length 30 ∧ st.t.get 1 = some v1 ∧ st.t.get 5 = some (.ptr ba 0) ∧ st.t.get 6 = some (.ptr bb 0) ∧ st.t.get 7 = some (.fn 24 []) ∧ st.t.get 17 = some (.int .i64 (i : Nat)) ∧
      st.t.get 13 = some (.int .i64 (c.now.length : Nat)) ∧ st.t.get 14 = some (.int .i64 (c.old.length : Nat)) ∧ st.t.get 15 = some (.int .i64 (c.moved : Nat)) ∧ st.t.get 16 = some (.int .i64 (c.len : Nat)) ∧ Keep h.next nob h st.h ∧
      ChI (60 + i) c' ∧ ChO st.h ba c vna voa rna roa ∧ ChO st.h bb c' vnb vob rnb rob ∧ (∀ d, d ∈ fpC ba vna voa rna roa → h.next ≤ d ∧ d ∉ fpC bb vnb vob rnb rob) ∧ (∀ d, d ∈ fpC bb vnb vob rnb rob → h.next ≤ d)) (min a1.length 30) (by omega)
      ⟨0, c, vnb, vob, rnb, rob, by omega, by omega, by simp [q1], by simp [q5], by simp [q6], by simp [q7], by simp, by simp, by simp, by simp, by simp, K, I, OA, OB, fA, fB⟩ ?_
    rintro m ⟨t, h4⟩ ⟨i, c', vnb, vob, rnb, rob, rfl, hi, q1, q5, q6, q7, q17, q13, q14, q15, q16, K, I, OA, OB, fA, fB⟩
    simp only at q1 q5 q6 q7 q17 q13 q14 q15 q16 K OA OB
    have S1 := s1.ext K
    by_cases hlt : i < min a1.length 30
    · obtain ⟨x, hx⟩ : ∃ x, a1[i]? = some x := ⟨a1[i]'(by omega), by simp⟩
      have ix := S1.idx (P := Try.prog) Try.underlying39 ts43 (j := i) (by omega) .i64
      have ld := S1.lds (P := Try.prog) ta43 ts43 (j := i * 3) (by rw [cat_len itC_len]; omega) (by omega)
      rw [cat_at itC_len hx] at ld
      obtain ⟨u5, h5, E5, e5, ⟨vnb5, vob5, rnb5, rob5, OB5, fB5⟩, K5⟩ := tell_ok (k + 6) (by omega) h4 bb c' vnb vob rnb rob OB I (by omega) x
      subst e5
      have OA5 := OA.keep K5 fun d hd q => (fA d hd).2 q
      have sepA5 : ∀ d, d ∈ fpC ba vna voa rna roa → h.next ≤ d ∧ d ∉ fpC bb vnb5 vob5 rnb5 rob5 := fun d hd => ⟨(fA d hd).1, fun q => by
        rcases fB5 d q with z | z
        · exact (fA d hd).2 z
        · have := OA.fp_lt hd; omega⟩
      have fB5' : ∀ d, d ∈ fpC bb vnb5 vob5 rnb5 rob5 → h.next ≤ d := fun d hd => by
        rcases fB5 d hd with z | z
        · exact fB d z
        · exact Nat.le_trans K.1 z
      have KK : Keep h.next nob h h5 := K.trans ⟨K5.1, fun d hd _ => K5.2 d (Nat.lt_of_lt_of_le hd K.1) (fun q => by have := fB d q; omega)⟩
      simp [q1, q5, q6, q7, q17, q13, q14, q15, q16, S1.len', isLt (show (i : Int) < (a1.length : Int) by omega), isLt (show (i : Int) < 30 by omega), ix, ld, E5, i64s (n := (i : Int) + 1) (by omega) (by omega)]
      exact ⟨min a1.length 30 - (i + 1), by omega, i + 1, rfl, by omega, by omega, KK, (tellC c' x).2, I.tell x, OA5, vnb5, vob5, rnb5, rob5, OB5, sepA5, fB5'⟩
    · by_cases hl3 : i < a1.length
      · simp [q1, q5, q6, q7, q17, q13, q14, q15, q16, S1.len', isLt (show (i : Int) < (a1.length : Int) by omega), isLe (show (30 : Int) ≤ (i : Int) by omega)]
        exact OA
      · simp [q1, q5, q6, q7, q17, q13, q14, q15, q16, S1.len', isLe (show (a1.length : Int) ≤ (i : Int) by omega)]
        exact OA
  rintro ⟨t, h4⟩ ⟨q5, q13, q14, q15, q16, OA⟩
  simp only at q5 q13 q14 q15 q16 OA
  have sh : acall Try.prog (k + 10) 11 [.ptr ba 0] h4 = _ := shape_ok (k + 9) h4 ba c vna voa rna roa OA
  have ln : acall Try.prog (k + 10) 13 [.ptr ba 0] h4 = _ := len_ok (k + 9) h4 ba c vna voa rna roa OA
  simp [q5, q13, q14, q15, q16, sh, ln]


theorem own : ownKnob Try.prog.godebug = none := by kernel_rfl
theorem laid : laidOutB Try.prog = true := by kernel_rfl

set_option maxRecDepth 100000 in
theorem lifted (os : Os) (started : os.Started) (H : Type) (enc : TypeId × Value → H) :
    ReturnsInHanded {} Try.checked os 8 .any (Rows.chainTwinsSpec.pre6 enc Try.prog Try.f8 Rows.chainTwinsRow.domain false) (Rows.chainTwinsSpec.post enc Try.prog Try.f8 false true false false) := by
  refine returnsInHanded_of_change (C := Try.checked) own started (by kernel_rfl) Try.func8
    (ChangeSpec.witness6 (enc := enc) (C := Try.checked) false ⟨#[], #[.slice none 0 0, .slice none 0 0], []⟩ 8 (by kernel_rfl) (by kernel_rfl) (by kernel_rfl) (by kernel_rfl)) ?_
  intro W base args ds gs before hval0 hW hcnd _
  have hval : ∀ (j : Nat) t v, Try.f8.params.toList[j]? = some t → args.toList[j]? = some v → Value.okWide Try.prog W .any base t v := fun j t v h1 h2 => hval0 j t v (by simpa using h1) (by simpa using h2)
  have hW' := hW
  obtain ⟨p, q, hA0, hV, rfl, hfz, hnd⟩ := hW
  have hA : DataW.TrodAll enc Try.prog W 0 (fun _ => true) true Try.f8.params.toList args.toList ds p := hA0
  obtain ⟨rfl, rfl⟩ := trodVars_none hV
  have hlt : ∀ x ∈ p, x.block < W.heap.size := fun x hx => hW'.lt x (by simp [hx])
  have hps : Try.f8.params.toList = [39, 39] := by rw [Try.params8]
  rw [hps] at hA hval
  obtain ⟨m, h, avs, x, g1, _, _, g2, g3, g4⟩ := (good_as1 (good_slice Try.underlying39 (by kernel_rfl) (by decide) (good_struct Try.underlying43 (by kernel_rfl) (good_fs rfl (good_int Try.underlying3 (by kernel_rfl)) (good_fs rfl (good_int Try.underlying3 (by kernel_rfl)) (good_fs rfl (good_str Try.underlying9 (by kernel_rfl)) (good_fs0 _)))))) rfl (by kernel_rfl) (good_as1 (good_slice Try.underlying39 (by kernel_rfl) (by decide) (good_struct Try.underlying43 (by kernel_rfl) (good_fs rfl (good_int Try.underlying3 (by kernel_rfl)) (good_fs rfl (good_int Try.underlying3 (by kernel_rfl)) (good_fs rfl (good_str Try.underlying9 (by kernel_rfl)) (good_fs0 _)))))) rfl (by kernel_rfl) good_as0)) H enc W base args.toList ds p hval hA _ _ (HRo.start W)
  obtain ⟨a0, a1, _⟩ := x
  obtain ⟨v0, _, rfl, ⟨u0, e0, w0⟩, ⟨v1, _, rfl, ⟨u1, e1, w1⟩, rfl⟩⟩ := g3
  obtain rfl := (List.cons.inj e0).1
  obtain rfl := (List.cons.inj e1).1
  have hcall := law_any mixed (k := 400000 + 10) Try.func8 (by kernel_rfl) runs_ok g1 g2 (law_run 400000 (by decide) h v0 a0 w0 v1 a1 w1)
  refine hcall.mono fun e W' ⟨he, hg⟩ => ?_
  subst he
  simp only [List.append_nil] at hW' hA0 ⊢
  have hlen : ds.length = 2 := trodAll_len hA
  have hvars : (Rows.chainTwinsSpec.fn H (ds ++ [])).vars = [] ∧ (Rows.chainTwinsSpec.fn H (ds ++ [])).args = ds ∧ (Rows.chainTwinsSpec.fn H (ds ++ [])).results = [.lit (.bool true)] := by
    rw [List.append_nil]
    match ds, hlen with
    | [d0, d1], _ => exact ⟨rfl, rfl, rfl⟩
  obtain ⟨hv1, hv2, hv3⟩ := hvars
  refine ⟨_, rfl, law_post hW' rfl hg (fun _ _ _ => ?_) (fun sp hsp => ?_) hv1
    (ok_one (by kernel_rfl) rfl (okWide_bool_mk Try.underlying4 _))⟩
  · rw [hv3]
    exact (trodAll_cons_mk (shut_bool Try.underlying4 _) trodAll_mk0)
  · have hA1 := trodAll_below laid hg sp (ts := [39, 39]) (by decide +kernel) hlt hsp hA
    rw [hv2, hps]
    exact hA1

theorem over : Rows.chainTwinsRow.holds Try.pinned (OpenSpec.ofChange Rows.chainTwinsSpec) :=
  OpenClaim.holds_of_wide 8 Try.f8 rfl rfl rfl rfl rfl rfl rfl ⟨rfl, rfl, rfl, rfl, rfl⟩ rfl rfl rfl rfl rfl (by kernel_rfl) Try.func8 (by kernel_rfl)
    (of_decide_eq_true (by kernel_rfl)) (by unfold Func.isWrapper; first | (rw [if_pos (by decide +kernel)]; kernel_rfl) | (rw [if_neg (by decide +kernel)]; exact ⟨rfl, rfl⟩))
    (fun os started H enc _ => lifted os started H enc)

/-- The statement. -/
theorem proved : Rows.ChainTwinsSaid :=
  over
#print axioms proved
end Go.Proofs.Ytdnjhipgfbhecaa.cChainTwins
