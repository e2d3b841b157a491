/- The law ChainPlays returns true for every input, and its input reads behind the call as it did; no conditions. The kit's model is followed by an abstract machine that is shown to tell what the model does; the contracts of the functions are proved over that machine. -/
import Derived.Test.YtdnjhipgfbhecaaRows
import Derived.Test.YtdnjhipgfbhecaaRuns
import Derived.Test.YtdnjhipgfbhecaaRefE
import Derived.Test.YtdnjhipgfbhecaaTell
import Derived.Test.YtdnjhipgfbhecaaBook
import Derived.WalkKit
import Derived.ProofKit
import Derived.OpenShut
import Derived.JoinedCond
namespace Go.Proofs.Ytdnjhipgfbhecaa.cChainPlays
open Go Go.ChangeShapes Go.WideShapes Go.ChangeAt Go.RowKit Go.YtdnjhipgfbhecaaAbs
set_option linter.unusedSimpArgs false
set_option linter.unusedVariables false

set_option maxRecDepth 4000
set_option maxHeartbeats 4000000 in
theorem law_run (k : Nat) (hk : 390000 < k) (h : Heap) (v0 : AV) (a0 : (List (Int × (Int × (ByteArray × Unit))))) (w0 : SlA (kPair (kInt .i64) (kPair (kInt .i64) (kPair kStr kNil))) h v0 a0) :
    ∃ v h', afuncT Try.prog [12, 24] (orRuns 3 (acall Try.prog (k + 10))) (k + 10) Try.f6 [v0] h = some (v, h') ∧ v = .bool true := by
  obtain ⟨s0, r0⟩ := sla_its w0
  obtain ⟨p1, h1, E1, ba, vna, voa, rna, roa, e1, OA, fA, k1⟩ := new_ok (k + 9) h
  subst e1
  obtain ⟨p2, h2, E2, bb, vnb, vob, rnb, rob, e2, OB, fB, k2⟩ := rcnew_ok (k + 9) h1
  subst e2
  have OA2 := OA.ext k2
  have k12 : Keep h.next nob h h2 := k1.trans (k2.weak k1.1 fun _ _ q => q)
  have sep : ∀ d, d ∈ fpC ba vna voa rna roa → d ∉ fpC bb vnb vob rnb rob := fun d hd q => by have := OA.fp_lt hd; have := fB d q; omega
  have fB' : ∀ d, d ∈ fpC bb vnb vob rnb rob → h.next ≤ d := fun d hd => Nat.le_trans k1.1 (fB d hd)
  refine afuncT_ex rfl (by simp [Try.f6]) ?_
  simp [Try.f6, E1, E2, aeql]
  refine W_cutLoop 0 (fun st => True) ?_ ?_
  · refine W_loop (fun m st => ∃ (i : Nat) (c r : Ch) (vna voa : AV) (rna roa : List AV) (vnb vob : AV) (rnb rob : List AV), m = min a0.length 120 - i ∧ i ≤ min a0.length 120 ∧ st.t.get 0 = some v0 ∧ st.t.get 3 = some (.ptr ba 0) ∧ st.t.get 4 = some (.ptr bb 0) ∧ st.t.get 5 = some (.int .i64 (i : Nat)) ∧ Keep h.next nob h st.h ∧
      SR i c r ∧ ChO st.h ba c vna voa rna roa ∧ ChO st.h bb r vnb vob rnb rob ∧ (∀ d, d ∈ fpC ba vna voa rna roa → h.next ≤ d ∧ d ∉ fpC bb vnb vob rnb rob) ∧ (∀ d, d ∈ fpC bb vnb vob rnb rob → h.next ≤ d)) (min a0.length 120) (by omega)
      ⟨0, .new, .new, vna, voa, rna, roa, vnb, vob, rnb, rob, by simp, by omega, rfl, rfl, rfl, rfl, k12, SR.new 0, OA2, OB, fun d hd => ⟨fA d hd, sep d hd⟩, fB'⟩ ?_
    clear OA2 OB sep fB' fA fB OA E1 E2 k1 k2 k12
    rintro m ⟨t, h3⟩ ⟨i, c, r, vna, voa, rna, roa, vnb, vob, rnb, rob, rfl, hi, q0, q3, q4, q5, K, S, OA, OB, fA, fB⟩
    simp only at q0 q3 q4 q5 K OA OB
    have S0 := s0.ext K
    by_cases hlt : i < min a0.length 120
    rotate_left
    · by_cases hl3 : i < a0.length
      · simp [q0, q3, q4, q5, S0.len', isLt (show (i : Int) < (a0.length : Int) by omega), isLe (show (120 : Int) ≤ (i : Int) by omega)]
      · simp [q0, q3, q4, q5, S0.len', isLe (show (a0.length : Int) ≤ (i : Int) by omega)]
    obtain ⟨x, hx⟩ : ∃ x, a0[i]? = some x := ⟨a0[i]'(by omega), by simp⟩
    have ix := S0.idx (P := Try.prog) Try.underlying39 ts43 (j := i) (by omega) .i64
    have ldf : ∀ h', Keep h.next nob h h' → aload Try.prog h' 3 v0.blk (v0.off + i * 3) = some (.int .i64 x.1) ∧ aload Try.prog h' 3 v0.blk (v0.off + i * 3 + 1) = some (.int .i64 x.2.1) ∧ aload Try.prog h' 9 v0.blk (v0.off + i * 3 + 2) = some (.str x.2.2.1) := fun h' K => by
      have T := s0.ext K
      refine ⟨T.ld ta3 (j := i * 3) (by have := cat_get itC_len hx (o := 0) (by omega); exact this), ?_, ?_⟩
      · rw [Nat.add_assoc]
        exact T.ld ta3 (j := i * 3 + 1) (by have := cat_get itC_len hx (o := 1) (by omega); exact this)
      · rw [Nat.add_assoc]
        exact T.ld ta9 (j := i * 3 + 2) (by have := cat_get itC_len hx (o := 2) (by omega); exact this)
    obtain ⟨d0, d1, d2⟩ := ldf h3 K
    have vlt : v0.blk < h.next := s0.blk_lt (by omega)
    obtain ⟨key, hkey⟩ : ∃ key, short x.2.2.1 = key := ⟨_, rfl⟩
    have hks : key.size ≤ 300 := by rw [← hkey]; exact short_le _
    have sh : acall Try.prog (k + 10) 14 [.str x.2.2.1] h3 = _ := short_ok (k + 9) x.2.2.1 h3
    rw [hkey] at sh
    have ha : acall Try.prog (k + 10) 12 [.str key] h3 = _ := hash_ok (k + 9) key (by omega) (by omega) h3
    have hb : acall Try.prog (k + 10) 18 [.str key] h3 = _ := rhash_ok (k + 9) key (by omega) (by omega) h3
    have vs0 := S0
    simp [q0, q3, q4, q5, S0.len', isLt (show (i : Int) < (a0.length : Int) by omega), isLt (show (i : Int) < 120 by omega), ix, d0, d2, sh, ha, hb, -W_regionL, W_stopL 10]
    refine W_cutN (fun st => st.h = h3 ∧ st.t.get 0 = some v0 ∧ st.t.get 3 = some (.ptr ba 0) ∧ st.t.get 4 = some (.ptr bb 0) ∧ st.t.get 5 = some (.int .i64 (i : Nat)) ∧ st.t.get 6 = some (.str key) ∧ st.t.get 46 = some (.int .i64 x.1)) ?_ ?_
    · rw [W_regionL rfl]
      simp [q0, q3, q4, q5, ix, d0]
    clear q0 q3 q4 q5
    rintro ⟨t, h3'⟩ ⟨e3', q0, q3, q4, q5, q6, q46⟩
    simp only at e3' q0 q3 q4 q5 q6 q46
    replace e3' := e3'.symm
    subst e3'
    simp only [onEx_normal]
    refine W_cutN (fun st => ∃ (c r : Ch) (vna voa : AV) (rna roa : List AV) (vnb vob : AV) (rnb rob : List AV), st.t.get 0 = some v0 ∧ st.t.get 3 = some (.ptr ba 0) ∧ st.t.get 4 = some (.ptr bb 0) ∧ st.t.get 5 = some (.int .i64 (i : Nat)) ∧ Keep h.next nob h st.h ∧
      SR (i + 1) c r ∧ ChO st.h ba c vna voa rna roa ∧ ChO st.h bb r vnb vob rnb rob ∧ (∀ d, d ∈ fpC ba vna voa rna roa → h.next ≤ d ∧ d ∉ fpC bb vnb vob rnb rob) ∧ (∀ d, d ∈ fpC bb vnb vob rnb rob → h.next ≤ d)) ?_ ?_
    · have Cc := S.ic.ok (by omega)
      have Cc1 := S.ic.step.ok (by omega)
      have Cr := S.ir.ok (by omega)
      have Cr1 := S.ir.step.ok (by omega)
      -- both are told, one behind the other
      have both : ∀ {c' r' : Ch} {h4 h5 : Heap}, SR (i + 1) c' r' → (∃ vn' vo' rn' ro', ChO h4 ba c' vn' vo' rn' ro' ∧ ∀ d, d ∈ fpC ba vn' vo' rn' ro' → d ∈ fpC ba vna voa rna roa ∨ h3.next ≤ d) → Keep h3.next (fun d => d ∈ fpC ba vna voa rna roa) h3 h4 →
          (∃ vn' vo' rn' ro', ChO h5 bb r' vn' vo' rn' ro' ∧ ∀ d, d ∈ fpC bb vn' vo' rn' ro' → d ∈ fpC bb vnb vob rnb rob ∨ h4.next ≤ d) → Keep h4.next (fun d => d ∈ fpC bb vnb vob rnb rob) h4 h5 →
          Keep h.next nob h h4 ∧ Keep h.next nob h h5 ∧ ∃ (c r : Ch) (vna voa : AV) (rna roa : List AV) (vnb vob : AV) (rnb rob : List AV), SR (i + 1) c r ∧ ChO h5 ba c vna voa rna roa ∧ ChO h5 bb r vnb vob rnb rob ∧ (∀ d, d ∈ fpC ba vna voa rna roa → h.next ≤ d ∧ d ∉ fpC bb vnb vob rnb rob) ∧ (∀ d, d ∈ fpC bb vnb vob rnb rob → h.next ≤ d) := by
        rintro c' r' h4 h5 S' ⟨vna4, voa4, rna4, roa4, OA4, fA4⟩ K4 ⟨vnb5, vob5, rnb5, rob5, OB5, fB5⟩ K5
        have sepA4 : ∀ d, d ∈ fpC ba vna4 voa4 rna4 roa4 → h.next ≤ d ∧ d ∉ fpC bb vnb vob rnb rob := fun d hd => by
          rcases fA4 d hd with z | z
          · exact fA d z
          · exact ⟨Nat.le_trans K.1 z, fun q => by have := OB.fp_lt q; omega⟩
        have OA5 := OA4.keep K5 fun d hd q => (sepA4 d hd).2 q
        have sepA5 : ∀ d, d ∈ fpC ba vna4 voa4 rna4 roa4 → h.next ≤ d ∧ d ∉ fpC bb vnb5 vob5 rnb5 rob5 := fun d hd => ⟨(sepA4 d hd).1, fun q => by
          rcases fB5 d q with z | z
          · exact (sepA4 d hd).2 z
          · have := OA4.fp_lt hd; omega⟩
        have fB5' : ∀ d, d ∈ fpC bb vnb5 vob5 rnb5 rob5 → h.next ≤ d := fun d hd => by
          rcases fB5 d hd with z | z
          · exact fB d z
          · exact Nat.le_trans K.1 (Nat.le_trans K4.1 z)
        have K04 : Keep h.next nob h h4 := K.trans ⟨K4.1, fun d hd _ => K4.2 d (Nat.lt_of_lt_of_le hd K.1) (fun q => by have := (fA d q).1; omega)⟩
        have K05 : Keep h.next nob h h5 := K04.trans ⟨K5.1, fun d hd _ => K5.2 d (Nat.lt_of_lt_of_le hd K04.1) (fun q => by have := fB d q; omega)⟩
        exact ⟨K04, K05, c', r', vna4, voa4, rna4, roa4, vnb5, vob5, rnb5, rob5, S', OA5, OB5, sepA5, fB5'⟩
      by_cases c1 : x.1 = 1
      · obtain ⟨e12, S'⟩ := S.put (key := key) (by omega) x.2.1
        obtain ⟨_, h4, E4, rfl, XA, K4⟩ := put_ok (k + 7) (by omega) h3 ba c vna voa rna roa OA Cc Cc1 key (by omega) x.2.1
        have OB4 := OB.keep K4 fun d hd q => (fA d q).2 hd
        obtain ⟨_, h5, E5, rfl, XB, K5⟩ := rcput_ok (k + 7) (by omega) h4 bb r vnb vob rnb rob OB4 Cr Cr1 S.ir.step.m0 key (by omega) x.2.1
        obtain ⟨K04, K05, Y⟩ := both S' XA K4 XB K5
        rw [← e12] at E5
        obtain ⟨dd0, dd1, dd2⟩ := ldf h4 K04
        have ag4 : Agree h.next h3 h4 := fun c hc => by rw [K04.2 c hc id, K.2 c hc id]
        have ag5 : Agree h.next h4 h5 := fun c hc => by rw [K05.2 c hc id, K04.2 c hc id]
        have E4 : acall Try.prog (k + 10) 10 [.ptr ba 0, .str key, .int .i64 x.2.1] h3 = _ := E4
        have E5 : acall Try.prog (k + 10) 19 [.ptr bb 0, .str key, .int .i64 x.2.1] h4 = _ := E5
        have d0' := d0
        simp [q0, q3, q4, q5, q6, q46, c1]
        refine W_drawn h.next (by rfl) (by kernel_rfl) ?_
        simp [q0, q3, q4, q5, q6, q46, ix, d1, dd1, vlt, E4, E5, ag4, ag5, ncmp, obl, mayEff, mayRead, sameAV]
        obtain ⟨c', r', y1, y2, y3, y4, y5, y6, y7, y8, y9, y10, y11, y12, y13⟩ := Y
        exact ⟨K05, c', r', y9, y1, y2, y3, y4, y10, y5, y6, y7, y8, y11, y12, y13⟩
      by_cases c2 : x.1 = 2
      · obtain ⟨_, h4, E4, rfl, k4⟩ := get_ok (k + 7) (by omega) h3 ba c vna voa rna roa OA Cc key (by omega)
        have OB4 := OB.ext k4
        have OA4 := OA.ext k4
        obtain ⟨_, h5, E5, rfl, e5⟩ := rcget_ok (k + 7) (by omega) h4 bb r vnb vob rnb rob OB4 Cr key (by omega)
        rw [e5] at E5
        rw [S.get] at E4
        have E4 : acall Try.prog (k + 10) 16 [.ptr ba 0, .str key] h3 = _ := E4
        have E5 : acall Try.prog (k + 10) 20 [.ptr bb 0, .str key] h4 = _ := E5
        simp [q0, q3, q4, q5, q6, q46, c2, E4, E5, ncmp]
        exact ⟨K.trans (k4.weak K.1 fun _ _ q => q), c, r, S.mono (Nat.le_succ _), vna, voa, rna, roa, OA4, vnb, vob, rnb, rob, OB4, fA, fB⟩
      by_cases c3 : x.1 = 3
      · obtain ⟨e12, S'⟩ := S.drop key
        obtain ⟨_, h4, E4, rfl, XA, K4⟩ := drop_ok (k + 7) (by omega) h3 ba c vna voa rna roa OA Cc Cc1 key (by omega) (fun i hi => (found_pos S.ic.step hi).2)
        have OB4 := OB.keep K4 fun d hd q => (fA d q).2 hd
        obtain ⟨_, h5, E5, rfl, XB, K5⟩ := rcdrop_ok (k + 7) (by omega) h4 bb r vnb vob rnb rob OB4 Cr Cr1 key (by omega) (fun i hi => (found_pos S.ir.step hi).2)
        obtain ⟨K04, K05, Y⟩ := both (S'.mono (Nat.le_succ _)) XA K4 XB K5
        rw [← e12] at E5
        have E4 : acall Try.prog (k + 10) 21 [.ptr ba 0, .str key] h3 = _ := E4
        have E5 : acall Try.prog (k + 10) 22 [.ptr bb 0, .str key] h4 = _ := E5
        simp [q0, q3, q4, q5, q6, q46, c3, E4, E5, ncmp]
        obtain ⟨c', r', y1, y2, y3, y4, y5, y6, y7, y8, y9, y10, y11, y12, y13⟩ := Y
        exact ⟨K05, c', r', y9, y1, y2, y3, y4, y10, y5, y6, y7, y8, y11, y12, y13⟩
      · simp [q0, q3, q4, q5, q6, q46, c1, c2, c3]
        exact ⟨K, c, r, S.mono (Nat.le_succ _), vna, voa, rna, roa, OA, vnb, vob, rnb, rob, OB, fA, fB⟩
    clear q0 q3 q4 q5 q6 q46
    rintro ⟨t, h4⟩ ⟨c', r', vna', voa', rna', roa', vnb', vob', rnb', rob', q0, q3, q4, q5, K', S', OA', OB', fA', fB'⟩
    simp only at q0 q3 q4 q5 K' OA' OB'
    simp only [onEx_normal]
    have s1 : acall Try.prog (k + 10) 11 [.ptr ba 0] h4 = _ := shape_ok (k + 9) h4 ba c' vna' voa' rna' roa' OA'
    have s2 : acall Try.prog (k + 10) 23 [.ptr bb 0] h4 = _ := rcshape_ok (k + 9) h4 bb r' vnb' vob' rnb' rob' OB'
    have ln : acall Try.prog (k + 10) 13 [.ptr ba 0] h4 = _ := len_ok (k + 9) h4 ba c' vna' voa' rna' roa' OA'
    have l3 := OB'.ld3 (ty := 3) ta3
    have shp := S'.shp
    unfold Ch.shp at shp
    simp only [Prod.mk.injEq] at shp
    obtain ⟨p1, p2, p3, p4⟩ := shp
    rw [← p1, ← p2, ← p3] at s2
    rw [← p4] at l3
    have blt := OB'.lt
    have ag : Agree h4.next h4 h4 := fun _ _ => rfl
    simp [q0, q3, q4, q5, s1, s2]
    refine W_drawn h4.next (by rfl) (by kernel_rfl) ?_
    simp [q0, q3, q4, q5, ln, l3, blt, ag, ncmp, obl, mayEff, mayRead, sameAV]
    exact ⟨min a0.length 120 - (i + 1), by omega, i + 1, rfl, by omega, i64s (n := (i : Int) + 1) (by omega) (by omega), K', c', r', S', vna', voa', rna', roa', OA', vnb', vob', rnb', rob', OB', fA', fB'⟩
  rintro ⟨t, h3⟩ _
  simp


theorem own : ownKnob Try.prog.godebug = none := by kernel_rfl
theorem laid : laidOutB Try.prog = true := by kernel_rfl

set_option maxRecDepth 100000 in
theorem lifted (os : Os) (started : os.Started) (H : Type) (enc : TypeId × Value → H) :
    ReturnsInHanded {} Try.checked os 6 .any (Rows.chainPlaysSpec.pre6 enc Try.prog Try.f6 Rows.chainPlaysRow.domain false) (Rows.chainPlaysSpec.post enc Try.prog Try.f6 false true false false) := by
  refine returnsInHanded_of_change (C := Try.checked) own started (by kernel_rfl) Try.func6
    (ChangeSpec.witness6 (enc := enc) (C := Try.checked) false ⟨#[], #[.slice none 0 0], []⟩ 8 (by kernel_rfl) (by kernel_rfl) (by kernel_rfl) (by kernel_rfl)) ?_
  intro W base args ds gs before hval0 hW hcnd _
  have hval : ∀ (j : Nat) t v, Try.f6.params.toList[j]? = some t → args.toList[j]? = some v → Value.okWide Try.prog W .any base t v := fun j t v h1 h2 => hval0 j t v (by simpa using h1) (by simpa using h2)
  have hW' := hW
  obtain ⟨p, q, hA0, hV, rfl, hfz, hnd⟩ := hW
  have hA : DataW.TrodAll enc Try.prog W 0 (fun _ => true) true Try.f6.params.toList args.toList ds p := hA0
  obtain ⟨rfl, rfl⟩ := trodVars_none hV
  have hlt : ∀ x ∈ p, x.block < W.heap.size := fun x hx => hW'.lt x (by simp [hx])
  have hps : Try.f6.params.toList = [39] := by rw [Try.params6]
  rw [hps] at hA hval
  obtain ⟨m, h, avs, x, g1, _, _, g2, g3, g4⟩ := (good_as1 (good_slice Try.underlying39 (by kernel_rfl) (by decide) (good_struct Try.underlying43 (by kernel_rfl) (good_fs rfl (good_int Try.underlying3 (by kernel_rfl)) (good_fs rfl (good_int Try.underlying3 (by kernel_rfl)) (good_fs rfl (good_str Try.underlying9 (by kernel_rfl)) (good_fs0 _)))))) rfl (by kernel_rfl) good_as0) H enc W base args.toList ds p hval hA _ _ (HRo.start W)
  obtain ⟨a0, _⟩ := x
  obtain ⟨v0, _, rfl, ⟨u0, e0, w0⟩, rfl⟩ := g3
  obtain rfl := (List.cons.inj e0).1
  have hcall := law_any mixed (k := 400000 + 10) Try.func6 (by kernel_rfl) runs_ok g1 g2 (law_run 400000 (by decide) h v0 a0 w0)
  refine hcall.mono fun e W' ⟨he, hg⟩ => ?_
  subst he
  simp only [List.append_nil] at hW' hA0 ⊢
  have hlen : ds.length = 1 := trodAll_len hA
  have hvars : (Rows.chainPlaysSpec.fn H (ds ++ [])).vars = [] ∧ (Rows.chainPlaysSpec.fn H (ds ++ [])).args = ds ∧ (Rows.chainPlaysSpec.fn H (ds ++ [])).results = [.lit (.bool true)] := by
    rw [List.append_nil]
    match ds, hlen with
    | [d0], _ => exact ⟨rfl, rfl, rfl⟩
  obtain ⟨hv1, hv2, hv3⟩ := hvars
  refine ⟨_, rfl, law_post hW' rfl hg (fun _ _ _ => ?_) (fun sp hsp => ?_) hv1
    (ok_one (by kernel_rfl) rfl (okWide_bool_mk Try.underlying4 _))⟩
  · rw [hv3]
    exact (trodAll_cons_mk (shut_bool Try.underlying4 _) trodAll_mk0)
  · have hA1 := trodAll_below laid hg sp (ts := [39]) (by decide +kernel) hlt hsp hA
    rw [hv2, hps]
    exact hA1

theorem over : Rows.chainPlaysRow.holds Try.pinned (OpenSpec.ofChange Rows.chainPlaysSpec) :=
  OpenClaim.holds_of_wide 6 Try.f6 rfl rfl rfl rfl rfl rfl rfl ⟨rfl, rfl, rfl, rfl, rfl⟩ rfl rfl rfl rfl rfl (by kernel_rfl) Try.func6 (by kernel_rfl)
    (of_decide_eq_true (by kernel_rfl)) (by unfold Func.isWrapper; first | (rw [if_pos (by decide +kernel)]; kernel_rfl) | (rw [if_neg (by decide +kernel)]; exact ⟨rfl, rfl⟩))
    (fun os started H enc _ => lifted os started H enc)

/-- The statement. -/
theorem proved : Rows.ChainPlaysSaid :=
  over
#print axioms proved
end Go.Proofs.Ytdnjhipgfbhecaa.cChainPlays
