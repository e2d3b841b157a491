/- The law SlabHolds returns true for every input, and its input reads behind the call as it did; no conditions. The kit's model is followed by an abstract machine that is shown to tell what the model does; the contracts of the functions are proved over that machine. -/
import Derived.Test.YtmoigchjmmjljaaRows
import Derived.Test.YtmoigchjmmjljaaRuns
import Derived.Test.YtmoigchjmmjljaaSlabH
import Derived.Test.YtmoigchjmmjljaaBook
import Derived.WalkKit
import Derived.ProofKit
import Derived.OpenShut
import Derived.JoinedCond
namespace Go.Proofs.Ytmoigchjmmjljaa.cSlabHolds
open Go Go.ChangeShapes Go.WideShapes Go.ChangeAt Go.RowKit Go.YtmoigchjmmjljaaAbs
set_option linter.unusedSimpArgs false
set_option linter.unusedVariables false

set_option maxRecDepth 4000
def SHI (P Q : Nat) (h0 h : Heap) (b : Nat) (vc : AV) (s : Sb) (hs : List (Nat × Nat)) (ds : List ByteArray) (vh vd : AV) : Prop := HS h0 h b s vc hs ds vh vd ∧ (∃ pgs, SbI P Q s pgs) ∧ HoldI s hs ds
set_option maxHeartbeats 8000000 in
theorem law_run (k : Nat) (hk : 90000 < k) (h : Heap) (a0 : Int) (w0 : (Lit.int .i64 a0).wf = true) (a1 : Int) (w1 : (Lit.int .i64 a1).wf = true) (v2 : AV) (a2 : (List (Int × (Int × (Int × (ByteArray × ((Int × (Int × Unit)) × (Bool × Unit)))))))) (w2 : SlA (kPair (kInt .i64) (kPair (kInt .i64) (kPair (kInt .i64) (kPair kStr (kPair (kPair (kInt .i64) (kPair (kInt .i64) kNil)) (kPair kBool kNil)))))) h v2 a2) :
    ∃ v h', afuncT Try.prog [24] (orRuns 3 (acall Try.prog (k + 10))) (k + 10) Try.f6 [.int .i64 a0, .int .i64 a1, v2] h = some (v, h') ∧ v = .bool true := by
  obtain ⟨s0, _⟩ := sla_flat flat_as (by decide) w2
  have s0 : Sl 7 a2.length h v2 (cat asC a2) := s0
  have W1 : acall Try.prog (k + 10) 15 [.int .i64 a0, .int .i64 1, .int .i64 8] h = _ := within_ok (k + 9) a0 1 8 (by omega) (by omega) (by omega) h
  obtain ⟨P, hP⟩ : ∃ P : Nat, (1 : Int) + a0 % (8 - 1 + 1) = (P : Int) := ⟨((1 : Int) + a0 % (8 - 1 + 1)).toNat, by omega⟩
  have hP2 : 1 ≤ P ∧ P ≤ 8 := by omega
  rw [hP] at W1
  have W2 : acall Try.prog (k + 10) 15 [.int .i64 a1, .int .i64 64, .int .i64 2000] h = _ := within_ok (k + 9) a1 64 2000 (by omega) (by omega) (by omega) h
  obtain ⟨Q, hQ⟩ : ∃ Q : Nat, (64 : Int) + a1 % (2000 - 64 + 1) = (Q : Int) := ⟨((64 : Int) + a1 % (2000 - 64 + 1)).toNat, by omega⟩
  have hQ2 : 64 ≤ Q ∧ Q ≤ 2000 := by omega
  rw [hQ] at W2
  clear hP hQ
  obtain ⟨_, h1, E1, b, cls, vc, rfl, O, F, l1, l2, l3, l4, f1, k1⟩ := new_ok (k + 9) (by omega) h P Q (by omega) (by omega) (by omega) (by omega)
  have S1 : SHI P Q h h1 b vc ⟨Q, P, 0, cls⟩ [] [] .nils .nils := by
    refine ⟨⟨O, Mine.nil _ _, Mine.nil _ _, (fun e q => by cases q), (fun e q => by cases q), (fun e q => by cases q), k1, f1, (fun e q => by cases q), (fun e q => by cases q)⟩, ⟨_, SbI.new F l1 l2 l3⟩, ⟨List.nodup_nil, rfl, (fun j x d hx => by simp at hx), ?_, ?_⟩⟩
    · unfold liveN
      have : cls.map (fun c => c.live.length) = List.replicate cls.length 0 := by
        refine List.ext_getElem? fun j => ?_
        rw [List.getElem?_map, List.getElem?_replicate]
        cases hc : cls[j]? with
        | none => rw [if_neg (fun q => by rw [List.getElem?_eq_none_iff] at hc; omega)]; rfl
        | some c => rw [if_pos (List.getElem?_eq_some_iff.1 hc).1, Option.map_some, (F j c hc).2.2.1]; rfl
      simp only [this]
      simp
    · unfold weight
      have : cls.map (fun c => c.live.length * c.size) = List.replicate cls.length 0 := by
        refine List.ext_getElem? fun j => ?_
        rw [List.getElem?_map, List.getElem?_replicate]
        cases hc : cls[j]? with
        | none => rw [if_neg (fun q => by rw [List.getElem?_eq_none_iff] at hc; omega)]; rfl
        | some c => rw [if_pos (List.getElem?_eq_some_iff.1 hc).1, Option.map_some, (F j c hc).2.2.1]; simp
      simp only [this]
      simp
  clear O F l1 l2 l3 l4 f1
  refine afuncT_ex rfl (by simp [Try.f6]) ?_
  simp [Try.f6, W1, W2, E1, aeql]
  refine W_cutLoop 0 (fun st => True) ?_ ?_
  · refine W_loop (fun m st => ∃ (i : Nat) (s : Sb) (hs : List (Nat × Nat)) (ds : List ByteArray) (vh vd : AV), m = min a2.length 60 - i ∧ i ≤ min a2.length 60 ∧ st.t.get 2 = some v2 ∧ st.t.get 7 = some (.int .i64 (P : Nat)) ∧ st.t.get 8 = some (.int .i64 (Q : Nat)) ∧ st.t.get 9 = some (.ptr b 0) ∧
      st.t.get 11 = some vh ∧ st.t.get 12 = some vd ∧ st.t.get 13 = some (.int .i64 (i : Nat)) ∧ hs.length ≤ i ∧ SHI P Q h st.h b vc s hs ds vh vd) (min a2.length 60) (by omega)
      ⟨0, _, [], [], .nils, .nils, by omega, by omega, rfl, rfl, rfl, rfl, rfl, rfl, rfl, Nat.le_refl _, S1⟩ ?_
    clear S1 W1 W2 E1 k1
    rintro m ⟨t, h2⟩ ⟨i, s, hs, ds, vh, vd, rfl, hi, q2, q7, q8, q9, q11, q12, q13, hhl, ⟨S, ⟨pgs, I⟩, H⟩⟩
    simp only at q2 q7 q8 q9 q11 q12 q13 S
    have sa := s0.ext S.kb
    have la := sa.len'
    by_cases hlt : i < min a2.length 60
    · obtain ⟨x, hx⟩ : ∃ x, a2[i]? = some x := ⟨a2[i]'(by omega), by simp⟩
      have ix := sa.idx (P := Try.prog) Try.underlying42 ts48 (j := i) (by omega) .i64
      have ld := sa.lds (P := Try.prog) ta48 ts48 (j := i * 7) (by rw [cat_len asC_len]; omega) (by omega)
      rw [cat_at asC_len hx] at ld
      have rwA : (AV.agg (asC x)).row1 = some (asC x) := rfl
      have lnA : (asC x).length = 7 := rfl
      have al : alay (h2.new (.cells [.int .i64 0, .int .i64 0, .int .i64 0, .str .empty, .int .i64 0, .int .i64 0, .bool false] false)) h2.next 0 (asC x) = some (h2.new (.cells (asC x) false)) := alay_new rfl
      obtain ⟨h3, e3⟩ : ∃ h3, h2.new (.cells (asC x) false) = h3 := ⟨_, rfl⟩
      have k3 : Keep h2.next nob h2 h3 := by rw [← e3]; exact Keep.new (Nat.le_refl _) _
      have g3 : h3.get h2.next = some (.cells (asC x) false) := by rw [← e3]; exact get_new_self _ _
      have n3 : h3.next = h2.next + 1 := by rw [← e3]; rfl
      rw [e3] at al
      have S3 := S.ext k3
      have fpn : h2.next ∉ fpS b s vc := fun q => by have := S.o.fp_lt q; omega
      have hvn : ¬ Has vh h2.next := fun q => by have := S.mh.lt q; omega
      have dvn : ¬ Has vd h2.next := fun q => by have := S.md.lt q; omega
      have l0 := ldc (P := Try.prog) (ty := 3) g3 ta3 (i := 0) (x := .int .i64 x.1) rfl
      have l1 := ldc (P := Try.prog) (ty := 3) g3 ta3 (i := 1) (x := .int .i64 x.2.1) rfl
      have lA : ∀ h' : Heap, h'.get h2.next = some (.cells (asC x) false) → aload Try.prog h' 48 h2.next 0 = some (.agg (asC x)) := fun h' g => by simp [aload, Heap.row, g, ta48, ts48, asC]
      have lh := S.mh.sl.len'
      simp [q2, q7, q8, q9, q11, q12, q13, la, isLt (show (i : Int) < (a2.length : Int) by omega), isLt (show (i : Int) < 60 by omega), ix, ld, rwA, lnA, al, afill, aalloc, W_stopL 11, -W_regionL]
      refine W_cutN (fun st => st.h = h3 ∧ st.t.get 2 = some v2 ∧ st.t.get 7 = some (.int .i64 (P : Nat)) ∧ st.t.get 8 = some (.int .i64 (Q : Nat)) ∧ st.t.get 9 = some (.ptr b 0) ∧ st.t.get 11 = some vh ∧ st.t.get 12 = some vd ∧ st.t.get 13 = some (.int .i64 (i : Nat)) ∧ st.t.get 14 = some (.ptr h2.next 0) ∧
        st.t.get 63 = some (.bool (decide (x.1 = 2 ∧ 0 < hs.length)))) ?_ ?_
      · rw [W_regionL rfl]
        by_cases c1 : x.1 = 2
        · rw [c1] at l0
          by_cases c2 : 0 < hs.length
          · simp [q2, q7, q8, q9, q11, q12, q13, l0, lh, c1, c2, isLt (show (0 : Int) < (hs.length : Int) by omega)]
            intro z; rw [z] at c2; simp at c2
          · simp [q2, q7, q8, q9, q11, q12, q13, l0, lh, c1, c2, isLe (show (hs.length : Int) ≤ 0 by omega)]
            exact List.eq_nil_of_length_eq_zero (by omega)
        · simp [q2, q7, q8, q9, q11, q12, q13, l0, lh, c1]
      clear q2 q7 q8 q9 q11 q12 q13 ix ld al
      rintro ⟨t, h3'⟩ ⟨e3', q2, q7, q8, q9, q11, q12, q13, q14, q63⟩
      simp only at e3' q2 q7 q8 q9 q11 q12 q13 q14 q63
      replace e3' := e3'.symm
      subst e3'
      simp only [onEx_normal]
      refine W_cutN (fun st => ∃ (s : Sb) (hs : List (Nat × Nat)) (ds : List ByteArray) (vh vd : AV), st.t.get 2 = some v2 ∧ st.t.get 7 = some (.int .i64 (P : Nat)) ∧ st.t.get 8 = some (.int .i64 (Q : Nat)) ∧ st.t.get 9 = some (.ptr b 0) ∧ st.t.get 11 = some vh ∧ st.t.get 12 = some vd ∧ st.t.get 13 = some (.int .i64 (i : Nat)) ∧
        hs.length ≤ i + 1 ∧ SHI P Q h st.h b vc s hs ds vh vd) ?_ ?_
      · by_cases c1 : x.1 = 2 ∧ 0 < hs.length
        · rw [decide_eq_true c1] at q63
          obtain ⟨c1, c2⟩ := c1
          have hk1 : k + 10 = (k + 8) + 2 := rfl
          have sl1 := i64w ((hs.length : Int) - 1) (by omega) (by omega)
          have W3 : acall Try.prog (k + 10) 15 [.int .i64 x.2.1, .int .i64 0, .int .i64 ((hs.length : Int) - 1)] h3 = _ := within_ok (k + 9) x.2.1 0 ((hs.length : Int) - 1) (by omega) (by omega) (by omega) h3
          have m1 : 0 ≤ x.2.1 % ((hs.length : Int) - 1 - 0 + 1) := Int.emod_nonneg _ (by omega)
          have m2 : x.2.1 % ((hs.length : Int) - 1 - 0 + 1) < (hs.length : Int) - 1 - 0 + 1 := Int.emod_lt_of_pos _ (by omega)
          obtain ⟨j, hj⟩ : ∃ j : Nat, (0 : Int) + x.2.1 % ((hs.length : Int) - 1 - 0 + 1) = (j : Int) := ⟨((0 : Int) + x.2.1 % ((hs.length : Int) - 1 - 0 + 1)).toNat, by omega⟩
          have hjl : j < hs.length := by omega
          rw [hj] at W3
          clear hj m1 m2
          obtain ⟨⟨ci, K⟩, hjx⟩ : ∃ y, hs[j]? = some y := ⟨hs[j], by simp⟩
          obtain ⟨c, d, hc, hd⟩ := H.mem (List.mem_of_getElem? hjx)
          simp only at hc hd
          obtain ⟨y, hy⟩ : ∃ y, lk K c.live = some y := by
            unfold dataOf at hd
            rw [Option.map_eq_some_iff] at hd
            exact ⟨_, hd.choose_spec.1⟩
          have hlen := I.l2
          obtain ⟨_, h4, E4, rfl, c4, z1, z2, z3, z4, z5, O4, f4, K4⟩ := free_ok (k + 8) (by omega) h3 b s vc S3.o (by omega) hc hy (by have := (I.small (by omega) (by omega) hc).2.1; omega)
          obtain ⟨pgs4, I4⟩ := I.free hc hy z1 z2 z3 z4
          have H4 := H.free I hjx hc hy z4 z1
          have S4 := S3.slab O4 f4 K4
          have hr : readS { s with cls := s.cls.set ci c4 } (ci : Nat) (K : Nat) = none := by
            obtain ⟨st, hst⟩ := lk_some hy
            unfold readS
            rw [if_neg (by omega), Int.toNat_natCast]
            simp only
            rw [List.getElem?_set_self (List.getElem?_eq_some_iff.1 hc).1]
            simp only
            unfold lkI
            rw [if_pos (by omega), Int.toNat_natCast, z4]
            obtain ⟨pg, hpg, J, _⟩ := I.pg hc
            exact erase_none (List.nodup_append.1 J.nd).2.1 hst
          obtain ⟨_, h5, E5, rfl, k5⟩ := free_no (k + 8) (by omega) h4 b _ vc O4 (by simp only [List.length_set]; omega) (ci : Nat) (K : Nat) hr
          have S5 := S4.ext k5
          have ixh := S3.mh.sl.idx (P := Try.prog) Try.underlying46 ts34 (j := j) hjl .i64
          have ldh : ∀ h' : Heap, HS h h' b s vc hs ds vh vd ∨ HS h h' b { s with cls := s.cls.set ci c4 } vc hs ds vh vd → aload Try.prog h' 34 vh.blk (vh.off + j * 2) = some (.agg [.int .i64 (ci : Nat), .int .i64 (K : Nat)]) := fun h' z => by
            have z : Mine 2 hs.length h' vh (cat hC hs) := z.elim (·.mh) (·.mh)
            have := z.sl.lds (P := Try.prog) ta34 ts34 (j := j * 2) (by rw [cat_len hC_len]; omega) (by omega)
            rw [cat_at hC_len hjx] at this
            exact this
          have ld3 := ldh h3 (.inl S3)
          have ld4 := ldh h4 (.inr S4)
          obtain ⟨s1, s2, u1, h6, u2, h7, a1, a2, a3, a4, a5, k7, f7⟩ := S5.mh.cut (P := Try.prog) el46 (j := j) hjl (by omega)
          have S7 := S5.md.ext k7
          have hdl := H.len
          obtain ⟨s3, s4, u3, h8, u4, h9, b1, b2, b3, b4, b5, k9, f9⟩ := S7.cut (P := Try.prog) el59 (j := j) (by omega) (by omega)
          have el1 : (hs.take j ++ hs.drop (j + 1)).length = hs.length - 1 := by rw [List.length_append, List.length_take, List.length_drop]; omega
          have el2 : (ds.take j ++ ds.drop (j + 1)).length = ds.length - 1 := by rw [List.length_append, List.length_take, List.length_drop]; omega
          have S9 := S5.both (hs' := hs.take j ++ hs.drop (j + 1)) (ds' := ds.take j ++ ds.drop (j + 1)) (vh' := u2) (vd' := u4)
            (by rw [el1, cat_append, ← cat_take hC_len, ← cat_drop hC_len]; exact a5.ext k9) (by rw [el2, List.map_append, List.map_take, List.map_drop]; simpa using b5)
            ((k7.trans (k9.weak k7.1 fun _ _ q => q)).weak (Nat.le_refl _) fun _ _ q => q.elim) (fun e he => .inr (f7 e he)) (fun e he => .inr (Nat.le_trans k7.1 (f9 e he))) (fun e he z => by have := f9 e z; have := a5.lt he; omega)
          have sj := i64w ((j : Int) + 1) (by omega) (by omega)
          simp [q63, q2, q7, q8, q9, q11, q12, q13, q14, l1, lh, sl1, W3, ixh, ld3, ld4, E4, E5, aalloc, afill, a1, a2, a3, a4, b1, b2, b3, b4, sj]
          exact ⟨_, _, by rw [el1]; omega, _, S9, ⟨_, I4⟩, H4⟩
        · rw [decide_eq_false c1] at q63
          have lA3 := lA h3 g3
          obtain ⟨_, h4, E4, rfl, k4⟩ := data_ok (k + 8) h3 x
          have dl := dataS_le x
          obtain ⟨D, hD⟩ : ∃ D, dataS x = D := ⟨_, rfl⟩
          rw [hD] at E4 dl
          have S4 := S3.ext k4
          have g4 : h4.get h2.next = some (.cells (asC x) false) := by rw [k4.2 _ (by omega) id]; exact g3
          have hlen := I.l2
          -- what Alloc does
          obtain ⟨ci, K, er, s5, hs5, ds5, h5, E5, S5, I5, H5, her, hsz, hnew, g5, n5⟩ : ∃ (ci K : Nat) (er : Int) (s5 : Sb) (hs5 : List (Nat × Nat)) (ds5 : List ByteArray) (h5 : Heap), acall Try.prog (k + 10) 13 [.ptr b 0, .str D] h4 = some (.tup [.agg [.int .i64 (ci : Nat), .int .i64 (K : Nat)], .int .i64 er], h5) ∧
              HS h h5 b s5 vc hs ds vh vd ∧ (∃ pgs, SbI P Q s5 pgs) ∧ HoldI s5 hs5 ds5 ∧ ((er ≠ 0 ∧ hs5 = hs ∧ ds5 = ds) ∨ (er = 0 ∧ hs5 = hs ++ [(ci, K)] ∧ ds5 = ds ++ [D])) ∧ s5.page = s.page ∧ (er = 0 → (ci, K) ∉ hs) ∧ h5.get h2.next = some (.cells (asC x) false) ∧ h2.next < h5.next := by
            have keepg : ∀ {F : Nat → Prop} {h' : Heap}, Keep h4.next F h4 h' → ¬ F h2.next → h'.get h2.next = some (.cells (asC x) false) ∧ h2.next < h'.next := fun K hF => ⟨by rw [K.2 _ (by have := k4.1; omega) hF]; exact g4, by have := K.1; have := k4.1; omega⟩
            cases hc : clsE (D.size : Nat) s.cls with
            | none =>
              obtain ⟨_, h5, E5, rfl, k5⟩ := alloc_long (k + 8) (by omega) h4 b s vc S4.o (by omega) D hc
              obtain ⟨y1, y2⟩ := keepg k5 id
              exact ⟨0, 0, 2, s, hs, ds, h5, E5, S4.ext k5, ⟨_, I⟩, H, .inl ⟨by decide, rfl, rfl⟩, rfl, (fun z => absurd z (by decide)), y1, y2⟩
            | some ci =>
              obtain ⟨⟨c, hci, hle⟩, _⟩ := clsE_some' hc
              have hle : D.size ≤ c.size := by omega
              obtain ⟨z1, z2, z3⟩ := I.small (by omega) (by omega) hci
              have hsz := I.size hci
              by_cases hroom : c.free ≠ [] ∨ s.left ≠ 0
              · have htot := I.tot
                obtain ⟨_, h5, E5, c2, F, cnt, left, used, K, e1, e2, e3, e4, hK, rfl, y1, y2, y3, y4, O5, f5, k5⟩ := alloc_ok (k + 8) (by omega) h4 b s vc S4.o (by omega) D (by have : maxLen = 9223372036854775807 := rfl; omega) hc hci (by rw [I.page]; omega) (by omega) (by rw [I.page]; omega) (by omega) (by omega) hroom
                obtain ⟨fr, hl, hcl, pgs5, I5⟩ := I.alloc hci hroom e1 e2 e3 e4 hK y1 y2 y3 y4
                obtain ⟨x1, x2⟩ := keepg k5 fpn
                exact ⟨ci, K, 0, _, hs ++ [(ci, K)], ds ++ [D], h5, E5, S4.slab O5 f5 k5, ⟨_, I5⟩, H.alloc I hci fr hl y1 hle, .inr ⟨rfl, rfl, rfl⟩, rfl, fun _ => H.fresh hci fr, x1, x2⟩
              · have hf : c.free = [] := Classical.byContradiction fun z => hroom (.inl z)
                have h0 : s.left = 0 := Classical.byContradiction fun z => hroom (.inr z)
                obtain ⟨_, h5, E5, rfl, k5⟩ := alloc_full (k + 8) h4 b s vc (by omega) S4.o (by omega) D (by have : maxLen = 9223372036854775807 := rfl; omega) hc hci hf h0
                obtain ⟨y1, y2⟩ := keepg k5 id
                exact ⟨0, 0, 6, s, hs, ds, h5, E5, S4.ext k5, ⟨_, I⟩, H, .inl ⟨by decide, rfl, rfl⟩, rfl, (fun z => absurd z (by decide)), y1, y2⟩
          have rwH : (AV.agg [.int .i64 (ci : Nat), .int .i64 (K : Nat)]).row1 = some [.int .i64 (ci : Nat), .int .i64 (K : Nat)] := rfl
          have alH : alay (h5.new (.cells [.int .i64 0, .int .i64 0] false)) h5.next 0 [.int .i64 (ci : Nat), .int .i64 (K : Nat)] = some (h5.new (.cells [.int .i64 (ci : Nat), .int .i64 (K : Nat)] false)) := alay_new rfl
          have k6 : Keep h5.next nob h5 (h5.new (.cells [.int .i64 (ci : Nat), .int .i64 (K : Nat)] false)) := Keep.new (Nat.le_refl _) _
          have g6 : (h5.new (.cells [.int .i64 (ci : Nat), .int .i64 (K : Nat)] false)).get h5.next = some (.cells [.int .i64 (ci : Nat), .int .i64 (K : Nat)] false) := get_new_self _ _
          have n6 : (h5.new (.cells [.int .i64 (ci : Nat), .int .i64 (K : Nat)] false)).next = h5.next + 1 := rfl
          obtain ⟨h6, e6⟩ : ∃ h6, h5.new (.cells [.int .i64 (ci : Nat), .int .i64 (K : Nat)] false) = h6 := ⟨_, rfl⟩
          rw [e6] at alH k6 g6 n6
          have S6 := S5.ext k6
          have hlh := S6.mh.sl.len'
          rcases her with ⟨ne, rfl, rfl⟩ | ⟨rfl, rfl, rfl⟩
          · simp [q63, q2, q7, q8, q9, q11, q12, q13, q14, lA3, E4, E5, rwH, aalloc, afill, alH, ne]
            exact ⟨_, _, by omega, _, S6, I5, H5⟩
          have hnew := hnew rfl
          simp [q63, q2, q7, q8, q9, q11, q12, q13, q14, lA3, E4, E5, rwH, aalloc, afill, alH]
          refine W_cutLoop 2 (fun st => st.h = h6 ∧ st.t.get 2 = some v2 ∧ st.t.get 7 = some (.int .i64 (P : Nat)) ∧ st.t.get 8 = some (.int .i64 (Q : Nat)) ∧ st.t.get 9 = some (.ptr b 0) ∧ st.t.get 11 = some vh ∧ st.t.get 12 = some vd ∧ st.t.get 13 = some (.int .i64 (i : Nat)) ∧ st.t.get 14 = some (.ptr h2.next 0) ∧ st.t.get 16 = some (.ptr h5.next 0)) ?_ ?_
          · refine W_loop (fun m st => ∃ (j : Nat), m = hs.length - j ∧ j ≤ hs.length ∧ st.h = h6 ∧ st.t.get 2 = some v2 ∧ st.t.get 7 = some (.int .i64 (P : Nat)) ∧ st.t.get 8 = some (.int .i64 (Q : Nat)) ∧ st.t.get 9 = some (.ptr b 0) ∧ st.t.get 11 = some vh ∧ st.t.get 12 = some vd ∧ st.t.get 13 = some (.int .i64 (i : Nat)) ∧ st.t.get 14 = some (.ptr h2.next 0) ∧ st.t.get 16 = some (.ptr h5.next 0) ∧ st.t.get 18 = some (.int .i64 (j : Nat))) hs.length (by omega)
              ⟨0, by omega, by omega, rfl, by simp [q2], by simp [q7], by simp [q8], by simp [q9], by simp [q11], by simp [q12], by simp [q13], by simp [q14], by simp, by simp⟩ ?_
            clear q2 q7 q8 q9 q11 q12 q13 q14 q63
            rintro m ⟨t, h7⟩ ⟨j, rfl, hj, e7, q2, q7, q8, q9, q11, q12, q13, q14, q16, q18⟩
            simp only at e7 q2 q7 q8 q9 q11 q12 q13 q14 q16 q18
            replace e7 := e7.symm
            subst e7
            by_cases hlt2 : j < hs.length
            · obtain ⟨⟨ci', K'⟩, hjx⟩ : ∃ y, hs[j]? = some y := ⟨hs[j], by simp⟩
              have ixh := S6.mh.sl.idx (P := Try.prog) Try.underlying46 ts34 (j := j) hlt2 .i64
              have ldh := S6.mh.sl.lds (P := Try.prog) ta34 ts34 (j := j * 2) (by rw [cat_len hC_len]; omega) (by omega)
              rw [cat_at hC_len hjx] at ldh
              have ldh : aload Try.prog h6 34 vh.blk (vh.off + j * 2) = some (.agg [.int .i64 (ci' : Nat), .int .i64 (K' : Nat)]) := ldh
              have l6 : aload Try.prog h6 34 h5.next 0 = some (.agg [.int .i64 (ci : Nat), .int .i64 (K : Nat)]) := by simp [aload, Heap.row, g6, ta34, ts34]
              have eqf := fun {t : Tr AV} {d : Option Tmp} {tv v : TypeId} {pos : String} {af : Array Edge} {gd : Option (Nat × Bool)} {i j : Nat} (hx : ev t (.tmp i) = .agg [.int .i64 (ci' : Nat), .int .i64 (K' : Nat)]) (hy : ev t (.tmp j) = .agg [.int .i64 (ci : Nat), .int .i64 (K : Nat)]) => aback_h (t := t) (d := d) (tv := tv) (v := v) (pos := pos) (af := af) (gd := gd) (i := i) (j := j) hx hy
              have dn : decide (((ci' : Nat) : Int) = (ci : Nat) ∧ ((K' : Nat) : Int) = (K : Nat)) = false := decide_eq_false fun z => hnew (by
                have e1 : ci' = ci := by omega
                have e2 : K' = K := by omega
                rw [← e1, ← e2]; exact List.mem_of_getElem? hjx)
              rw [dn] at eqf
              simp [q2, q7, q8, q9, q11, q12, q13, q14, q16, q18, hlh, isLt (show (j : Int) < (hs.length : Int) by omega), ixh, ldh, l6, eqf]
              exact ⟨hs.length - (j + 1), by omega, j + 1, rfl, by omega, i64w ((j : Int) + 1) (by omega) (by omega)⟩
            · simp [q2, q7, q8, q9, q11, q12, q13, q14, q16, q18, hlh, isLe (show (hs.length : Int) ≤ (j : Int) by omega)]
          clear q2 q7 q8 q9 q11 q12 q13 q14 q63
          rintro ⟨t, h7⟩ ⟨e7, q2, q7, q8, q9, q11, q12, q13, q14, q16⟩
          simp only at e7 q2 q7 q8 q9 q11 q12 q13 q14 q16
          replace e7 := e7.symm
          subst e7
          have l6 : aload Try.prog h6 34 h5.next 0 = some (.agg [.int .i64 (ci : Nat), .int .i64 (K : Nat)]) := by simp [aload, Heap.row, g6, ta34, ts34]
          have hn56 : h2.next < h6.next := by omega
          have g62 : h6.get h2.next = some (.cells (asC x) false) := by rw [k6.2 _ n5 id]; exact g5
          have A1 : AgreeG (fun c => c = h2.next ∨ c = h5.next) h6 (h6.new (.cells [.int .i64 (ci : Nat), .int .i64 (K : Nat)] false)) := fun c hc => by
            rw [Heap.get_new, if_neg (by rcases hc with z | z <;> omega)]
          obtain ⟨vh8, h8, E8, M8, F8, K8⟩ := S6.mh.push (P := Try.prog) el46 (a := hC (ci, K)) (ex := true) rfl rfl (by omega)
          have E8 : aappend Try.prog (h6.new (.cells [.int .i64 (ci : Nat), .int .i64 (K : Nat)] false)) 46 46 vh (.sl h6.next 0 1 1 2 true) = some (vh8, h8) := E8
          have hv5 : ¬ Has vh h5.next := fun z => by have := S5.mh.lt z; omega
          have k67 : Keep h6.next nob h6 (h6.new (.cells [.int .i64 (ci : Nat), .int .i64 (K : Nat)] false)) := Keep.new (Nat.le_refl _) _
          have A2 : AgreeG (fun c => c = h2.next ∨ c = h5.next) (h6.new (.cells [.int .i64 (ci : Nat), .int .i64 (K : Nat)] false)) h8 := fun c hc => by
            rcases hc with rfl | rfl
            · rw [K8.2 _ hn56 hvn, k67.2 _ hn56 id]
            · rw [K8.2 _ (by omega) hv5, k67.2 _ (by omega) id]
          have S8 := S6.both (hs' := hs ++ [(ci, K)]) (ds' := ds) (by rw [List.length_append, List.length_singleton, cat_append, cat_one]; exact M8) (S6.md.keep K8 fun e he z => S6.hd e z he) (K8.weak (Nat.le_refl _) fun _ _ z => .inl z) F8 (From.refl _ _) (fun e he z => by
            rcases F8 e he with w | w
            · exact S6.hd e w z
            · have := S6.md.lt z; omega)
          have g8 : h8.get h2.next = some (.cells (asC x) false) := by rw [K8.2 _ hn56 hvn]; exact g62
          have lA8 := lA h8 g8
          obtain ⟨_, h9, E9, rfl, k9⟩ := data_ok (k + 8) h8 x
          rw [hD] at E9
          have S9 := S8.ext k9
          obtain ⟨vd10, h10, E10, M10, F10, K10⟩ := S9.md.push (P := Try.prog) el59 (a := [.str D]) (ex := true) rfl rfl (by have := H.len; omega)
          have S10 := S9.both (hs' := hs ++ [(ci, K)]) (ds' := ds ++ [D]) (S9.mh.keep K10 fun e he z => S9.hd e he z) (by rw [List.length_append, List.length_singleton, List.map_append]; exact M10) (K10.weak (Nat.le_refl _) fun _ _ z => .inr z) (From.refl _ _) F10 (fun e he z => by
            rcases F10 e z with w | w
            · exact S9.hd e he w
            · have := S9.mh.lt he; omega)
          have sA : sameAVs (asC x) (asC x) = true := by simp [sameAVs, sameAV, asC]
          have sH : sameAVs [.int .i64 (ci : Nat), .int .i64 (K : Nat)] [.int .i64 (ci : Nat), .int .i64 (K : Nat)] = true := by simp [sameAVs, sameAV]
          simp only [Ex.out_exit, if_true, tick_eq, onEx_normal]
          refine W_lateG [0, 0, 2, 7, 0, 0, 47, 111, 255, 511, 1023] [] 6 (fun c => c = h2.next ∨ c = h5.next) (by rfl) (by kernel_rfl) (by kernel_rfl) (by kernel_rfl) (by kernel_rfl) (fun c hc => by rcases hc with z | z <;> (show c < h6.next; omega)) ?_
          simp [resv, nextOk, freeOk, memN, isEff, isAlloc, isStore, mayEff, mayRead, aalloc, afill, insFl, oblG, sameAV, sA, sH, AV.row1, AV.row, AV.one, q2, q7, q8, q9, q11, q12, q13, q14, q16, l6, A1, E8, A2, lA8, E9, E10]
          exact ⟨_, hs ++ [(ci, K)], by rw [List.length_append, List.length_singleton]; omega, ds ++ [D], S10, I5, H5⟩
      clear q2 q7 q8 q9 q11 q12 q13 q14 q63 S S3 H I fpn hvn dvn l0 l1 lA lh k3 g3 n3 e3
      rintro ⟨t, h4⟩ ⟨s, hs, ds, vh, vd, q2, q7, q8, q9, q11, q12, q13, hhl', ⟨S, ⟨pgs, I⟩, H⟩⟩
      simp only at q2 q7 q8 q9 q11 q12 q13 S
      simp only [onEx_normal]
      have hlen := I.l2
      have htot := I.tot
      have lh := S.mh.sl.len'
      obtain ⟨szs, hszs⟩ : ∃ szs, szs = s.cls.map (·.size) := ⟨_, rfl⟩
      obtain ⟨vz, h5, E5, Z5, k5⟩ := classes_ok (k + 9) (by omega) h4 b s vc S.o (by omega) szs hszs
      have S5 := S.ext k5
      have szl : szs.length = s.cls.length := by rw [hszs, List.length_map]
      simp [q2, q7, q8, q9, q11, q12, q13, E5]
      have hw := I.weight
      rw [H.wt] at hw
      have hwP : s.used * Q ≤ 8 * 2000 := Nat.mul_le_mul (by omega) (by omega)
      have hpre : ∀ j : Nat, ((hs.take j).map fun x => 64 * 2 ^ x.1).sum ≤ (hs.map fun x => 64 * 2 ^ x.1).sum := fun j => by
        conv => rhs; rw [← List.take_append_drop j hs, List.map_append, List.sum_append]
        omega
      refine W_cutLoop 4 (fun st => st.t.get 2 = some v2 ∧ st.t.get 7 = some (.int .i64 (P : Nat)) ∧ st.t.get 8 = some (.int .i64 (Q : Nat)) ∧ st.t.get 9 = some (.ptr b 0) ∧ st.t.get 11 = some vh ∧ st.t.get 12 = some vd ∧ st.t.get 13 = some (.int .i64 (i : Nat)) ∧
        st.t.get 20 = some (.int .i64 (((hs.map fun x => 64 * 2 ^ x.1).sum : Nat) : Int)) ∧ HS h st.h b s vc hs ds vh vd) ?_ ?_
      · refine W_loop (fun m st => ∃ (j : Nat), m = hs.length - j ∧ j ≤ hs.length ∧ st.t.get 2 = some v2 ∧ st.t.get 7 = some (.int .i64 (P : Nat)) ∧ st.t.get 8 = some (.int .i64 (Q : Nat)) ∧ st.t.get 9 = some (.ptr b 0) ∧ st.t.get 11 = some vh ∧ st.t.get 12 = some vd ∧ st.t.get 13 = some (.int .i64 (i : Nat)) ∧
          st.t.get 19 = some vz ∧ st.t.get 20 = some (.int .i64 ((((hs.take j).map fun x => 64 * 2 ^ x.1).sum : Nat) : Int)) ∧ st.t.get 21 = some (.int .i64 (j : Nat)) ∧ Sl 1 s.cls.length st.h vz (szs.map nn) ∧ HS h st.h b s vc hs ds vh vd) hs.length (by omega)
          ⟨0, by omega, by omega, by simp [q2], by simp [q7], by simp [q8], by simp [q9], by simp [q11], by simp [q12], by simp [q13], by simp, by simp, by simp, Z5.sl, S5⟩ ?_
        clear q2 q7 q8 q9 q11 q12 q13 E5 Z5 S5 S k5
        rintro m ⟨t, h6⟩ ⟨j, rfl, hj, q2, q7, q8, q9, q11, q12, q13, q19, q20, q21, Z, S⟩
        simp only at q2 q7 q8 q9 q11 q12 q13 q19 q20 q21 Z S
        by_cases hlt2 : j < hs.length
        · obtain ⟨⟨ci, K⟩, hjx⟩ : ∃ y, hs[j]? = some y := ⟨hs[j], by simp⟩
          obtain ⟨d, hjd⟩ : ∃ d, ds[j]? = some d := ⟨ds[j]'(by rw [H.len]; exact hlt2), by simp⟩
          obtain ⟨c, hc, hd, hds⟩ := H.live j _ d hjx hjd
          simp only at hc hd
          have hcl := (List.getElem?_eq_some_iff.1 hc).1
          obtain ⟨_, h7, E7, rfl, k7⟩ := read_ok (k + 9) h6 b s vc (by omega) S.o (by omega) (ci : Nat) (K : Nat)
          have hr : (readS s (ci : Nat) (K : Nat)).map (·.2.1) = some d := by
            unfold readS
            rw [if_neg (by omega), Int.toNat_natCast, hc]
            simp only
            unfold lkI
            rw [if_pos (by omega), Int.toNat_natCast]
            exact hd
          have hr2 : (readS s (ci : Nat) (K : Nat)).isSome = true := by
            cases hq : readS s (ci : Nat) (K : Nat) with
            | none => rw [hq] at hr; cases hr
            | some y => rfl
          rw [hr, hr2] at E7
          have S7 := S.ext k7
          have Z7 := Z.ext k7
          have ixh := S.mh.sl.idx (P := Try.prog) Try.underlying46 ts34 (j := j) hlt2 .i64
          have ldh := S.mh.sl.lds (P := Try.prog) ta34 ts34 (j := j * 2) (by rw [cat_len hC_len]; omega) (by omega)
          rw [cat_at hC_len hjx] at ldh
          have ldh : aload Try.prog h6 34 vh.blk (vh.off + j * 2) = some (.agg [.int .i64 (ci : Nat), .int .i64 (K : Nat)]) := ldh
          have ldc7 : aload Try.prog h7 3 vh.blk (vh.off + j * 2) = some (.int .i64 (ci : Nat)) := S7.mh.sl.ld ta3 (j := j * 2) (by have := cat_get hC_len hjx (o := 0) (by omega); exact this)
          have ixd := S7.md.sl.idx1 (P := Try.prog) Try.underlying59 ts9 (j := j) (by rw [H.len]; exact hlt2) .i64
          have ldd := S7.md.sl.ld (P := Try.prog) (e := 9) ta9 (j := j) (x := .str d) (by rw [List.getElem?_map, hjd]; rfl)
          have ixz := Z7.idx1 (P := Try.prog) Try.underlying27 ts3 (j := ci) hcl .i64
          have ldz := Z7.ld (P := Try.prog) (e := 3) ta3 (j := ci) (x := .int .i64 (c.size : Nat)) (by rw [List.getElem?_map, hszs, List.getElem?_map, hc]; rfl)
          have lz := Z7.len'
          have hcs := I.sz ci c hc
          have et : ((hs.take (j + 1)).map fun x => 64 * 2 ^ x.1).sum = ((hs.take j).map fun x => 64 * 2 ^ x.1).sum + c.size := by
            rw [List.take_add_one, hjx, List.map_append, List.sum_append, hcs]; simp
          have p1 := hpre (j + 1)
          obtain ⟨N1, hN1⟩ : ∃ N1, ((hs.take j).map fun x => 64 * 2 ^ x.1).sum = N1 := ⟨_, rfl⟩
          rw [hN1] at et q20
          have sw := i64w ((N1 : Int) + (c.size : Int)) (by omega) (by omega)
          simp [q2, q7, q8, q9, q11, q12, q13, q19, q20, q21, lh, isLt (show (j : Int) < (hs.length : Int) by omega), ixh, ldh, E7, ldc7, ixd, ldd, lz, ixz, ldz, isLe (show (0 : Int) ≤ (ci : Int) by omega), isLt (show (ci : Int) < (s.cls.length : Int) by omega), isLe (show (d.size : Int) ≤ (c.size : Int) by omega), sw]
          exact ⟨hs.length - (j + 1), by omega, j + 1, rfl, by omega, by rw [← List.map_take, et]; push_cast; rfl, i64w ((j : Int) + 1) (by omega) (by omega), Z7, S7⟩
        · have : j = hs.length := by omega
          subst this
          rw [List.take_length] at q20
          simp [q2, q7, q8, q9, q11, q12, q13, q19, q20, q21, lh]
          exact S
      clear q2 q7 q8 q9 q11 q12 q13 E5 Z5 S5 S k5
      rintro ⟨t, h6⟩ ⟨q2, q7, q8, q9, q11, q12, q13, q20, S⟩
      simp only at q2 q7 q8 q9 q11 q12 q13 q20 S
      have pg : acall Try.prog (k + 10) 12 [.ptr b 0] h6 = _ := pages_ok (k + 9) h6 b s vc S.o
      obtain ⟨_, h7, E7, rfl, k7⟩ := live_ok (k + 9) h6 b s vc (by omega) S.o (by omega) (by rw [H.cnt]; omega)
      rw [H.cnt] at E7
      have S7 := S.ext k7
      obtain ⟨N1, hN1⟩ : ∃ N1, (hs.map fun x => 64 * 2 ^ x.1).sum = N1 := ⟨_, rfl⟩
      rw [hN1] at q20 hw
      have s1 := i64w ((s.used : Int) + (s.left : Int)) (by omega) (by omega)
      have e1 : (s.used : Int) + (s.left : Int) = (P : Int) := by omega
      obtain ⟨M, hM⟩ : ∃ M, s.used * Q = M := ⟨_, rfl⟩
      rw [hM] at hw hwP
      have e2 : (s.used : Int) * (Q : Int) = (M : Int) := by rw [← hM]; push_cast; rfl
      have s2 := i64w (M : Int) (by omega) (by omega)
      rw [e1] at s1
      simp [q2, q7, q8, q9, q11, q12, q13, q20, pg, e1, s1, e2, s2, isLe (show (0 : Int) ≤ (s.used : Int) by omega), isLe (show (0 : Int) ≤ (s.left : Int) by omega), isLe (show (N1 : Int) ≤ (M : Int) by omega), E7, lh]
      exact ⟨min a2.length 60 - (i + 1), by omega, i + 1, rfl, by omega, i64w ((i : Int) + 1) (by omega) (by omega), _, _, hhl', ds, S7, ⟨_, I⟩, H⟩
    · by_cases hl3 : i < a2.length
      · simp [q2, q7, q8, q9, q11, q12, q13, la, isLt (show (i : Int) < (a2.length : Int) by omega), isLe (show (60 : Int) ≤ (i : Int) by omega)]
      · simp [q2, q7, q8, q9, q11, q12, q13, la, isLe (show (a2.length : Int) ≤ (i : Int) by omega)]
  rintro ⟨t, h2⟩ _
  simp


theorem own : ownKnob Try.prog.godebug = none := by kernel_rfl
theorem laid : laidOutB Try.prog = true := by kernel_rfl

set_option maxRecDepth 100000 in
theorem lifted (os : Os) (started : os.Started) (H : Type) (enc : TypeId × Value → H) :
    ReturnsInHanded {} Try.checked os 6 .any (Rows.slabHoldsSpec.pre6 enc Try.prog Try.f6 Rows.slabHoldsRow.domain false) (Rows.slabHoldsSpec.post enc Try.prog Try.f6 false true false false) := by
  refine returnsInHanded_of_change (C := Try.checked) own started (by kernel_rfl) Try.func6
    (ChangeSpec.witness6 (enc := enc) (C := Try.checked) false ⟨#[], #[.int .i64 0, .int .i64 0, .slice none 0 0], []⟩ 8 (by kernel_rfl) (by kernel_rfl) (by kernel_rfl) (by kernel_rfl)) ?_
  intro W base args ds gs before hval0 hW hcnd _
  have hval : ∀ (j : Nat) t v, Try.f6.params.toList[j]? = some t → args.toList[j]? = some v → Value.okWide Try.prog W .any base t v := fun j t v h1 h2 => hval0 j t v (by simpa using h1) (by simpa using h2)
  have hW' := hW
  obtain ⟨p, q, hA0, hV, rfl, hfz, hnd⟩ := hW
  have hA : DataW.TrodAll enc Try.prog W 0 (fun _ => true) true Try.f6.params.toList args.toList ds p := hA0
  obtain ⟨rfl, rfl⟩ := trodVars_none hV
  have hlt : ∀ x ∈ p, x.block < W.heap.size := fun x hx => hW'.lt x (by simp [hx])
  have hps : Try.f6.params.toList = [3, 3, 42] := by rw [Try.params6]
  rw [hps] at hA hval
  obtain ⟨m, h, avs, x, g1, _, _, g2, g3, g4⟩ := (good_as1 (good_int Try.underlying3 (by kernel_rfl)) rfl (by kernel_rfl) (good_as1 (good_int Try.underlying3 (by kernel_rfl)) rfl (by kernel_rfl) (good_as1 (good_slice Try.underlying42 (by kernel_rfl) (by decide) (good_struct Try.underlying48 (by kernel_rfl) (good_fs rfl (good_int Try.underlying3 (by kernel_rfl)) (good_fs rfl (good_int Try.underlying3 (by kernel_rfl)) (good_fs rfl (good_int Try.underlying3 (by kernel_rfl)) (good_fs rfl (good_str Try.underlying9 (by kernel_rfl)) (good_fs rfl (good_struct Try.underlying34 (by kernel_rfl) (good_fs rfl (good_int Try.underlying3 (by kernel_rfl)) (good_fs rfl (good_int Try.underlying3 (by kernel_rfl)) (good_fs0 _)))) (good_fs rfl (good_bool Try.underlying4 (by kernel_rfl)) (good_fs0 _))))))))) rfl (by kernel_rfl) good_as0))) H enc W base args.toList ds p hval hA _ _ (HRo.start W)
  obtain ⟨a0, a1, a2, _⟩ := x
  obtain ⟨_, _, rfl, ⟨e0, w0⟩, ⟨_, _, rfl, ⟨e1, w1⟩, ⟨v2, _, rfl, ⟨u2, e2, w2⟩, rfl⟩⟩⟩ := g3
  obtain rfl := (List.cons.inj e0).1
  obtain rfl := (List.cons.inj e1).1
  obtain rfl := (List.cons.inj e2).1
  have hcall := law_any mixed (k := 100000 + 10) Try.func6 (by kernel_rfl) runs_ok g1 g2 (law_run 100000 (by decide) h a0 w0 a1 w1 v2 a2 w2)
  refine hcall.mono fun e W' ⟨he, hg⟩ => ?_
  subst he
  simp only [List.append_nil] at hW' hA0 ⊢
  have hlen : ds.length = 3 := trodAll_len hA
  have hvars : (Rows.slabHoldsSpec.fn H (ds ++ [])).vars = [] ∧ (Rows.slabHoldsSpec.fn H (ds ++ [])).args = ds ∧ (Rows.slabHoldsSpec.fn H (ds ++ [])).results = [.lit (.bool true)] := by
    rw [List.append_nil]
    match ds, hlen with
    | [d0, d1, d2], _ => exact ⟨rfl, rfl, rfl⟩
  obtain ⟨hv1, hv2, hv3⟩ := hvars
  refine ⟨_, rfl, law_post hW' rfl hg (fun _ _ _ => ?_) (fun sp hsp => ?_) hv1
    (ok_one (by kernel_rfl) rfl (okWide_bool_mk Try.underlying4 _))⟩
  · rw [hv3]
    exact (trodAll_cons_mk (shut_bool Try.underlying4 _) trodAll_mk0)
  · have hA1 := trodAll_below laid hg sp (ts := [3, 3, 42]) (by decide +kernel) hlt hsp hA
    rw [hv2, hps]
    exact hA1

theorem over : Rows.slabHoldsRow.holds Try.pinned (OpenSpec.ofChange Rows.slabHoldsSpec) :=
  OpenClaim.holds_of_wide 6 Try.f6 rfl rfl rfl rfl rfl rfl rfl ⟨rfl, rfl, rfl, rfl, rfl⟩ rfl rfl rfl rfl rfl (by kernel_rfl) Try.func6 (by kernel_rfl)
    (of_decide_eq_true (by kernel_rfl)) (by unfold Func.isWrapper; first | (rw [if_pos (by decide +kernel)]; kernel_rfl) | (rw [if_neg (by decide +kernel)]; exact ⟨rfl, rfl⟩))
    (fun os started H enc _ => lifted os started H enc)

/-- The statement. -/
theorem proved : Rows.SlabHoldsSaid :=
  over
#print axioms proved
end Go.Proofs.Ytmoigchjmmjljaa.cSlabHolds
