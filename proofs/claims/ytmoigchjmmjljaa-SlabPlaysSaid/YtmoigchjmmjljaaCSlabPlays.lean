/- The law SlabPlays returns true for every input, and its input reads behind the call as it did; no conditions. The kit's model is followed by an abstract machine that is shown to tell what the model does; the contracts of the functions are proved over that machine. -/
import Derived.Test.YtmoigchjmmjljaaRows
import Derived.Test.YtmoigchjmmjljaaRuns
import Derived.Test.YtmoigchjmmjljaaSlabQ
import Derived.Test.YtmoigchjmmjljaaBook
import Derived.WalkKit
import Derived.ProofKit
import Derived.OpenShut
import Derived.JoinedCond
namespace Go.Proofs.Ytmoigchjmmjljaa.cSlabPlays
open Go Go.ChangeShapes Go.WideShapes Go.ChangeAt Go.RowKit Go.YtmoigchjmmjljaaAbs
set_option linter.unusedSimpArgs false
set_option linter.unusedVariables false

set_option maxRecDepth 4000
theorem nil_eqA {t : Tr AV} {tv v : TypeId} {pos : String} {af : Array Edge} {g : Option (Nat × Bool)} {x : Operand} {d : Option Tmp} (hx : ev t x = .nilp) : aback0 Try.prog t ⟨d, .binOp .eql 22 x (.const (.pointer none)) tv, v, pos, af, g⟩ = some (.bool true) := by
  have hy0 : ev t (.const (.pointer none)) = .nilp := rfl
  have he : semPure Try.prog (execOp (fun x => ((ev t x).val?).getD undef) ⟨d, .binOp .eql 22 x (.const (.pointer none)) tv, v, pos, af, g⟩) = some (.value (.bool true)) := by
    simp only [execOp, hx, hy0, AV.val?, Option.getD_some]
    rfl
  unfold aback0 aback
  simp [Op.operands, hx, hy0, AV.val?, he]
theorem nil_eqB {t : Tr AV} {tv v : TypeId} {pos : String} {af : Array Edge} {g : Option (Nat × Bool)} {x : Operand} {d : Option Tmp} (hx : ev t x = .nilp) : aback0 Try.prog t ⟨d, .binOp .eql 43 x (.const (.pointer none)) tv, v, pos, af, g⟩ = some (.bool true) := by
  have hy0 : ev t (.const (.pointer none)) = .nilp := rfl
  have he : semPure Try.prog (execOp (fun x => ((ev t x).val?).getD undef) ⟨d, .binOp .eql 43 x (.const (.pointer none)) tv, v, pos, af, g⟩) = some (.value (.bool true)) := by
    simp only [execOp, hx, hy0, AV.val?, Option.getD_some]
    rfl
  unfold aback0 aback
  simp [Op.operands, hx, hy0, AV.val?, he]
theorem nil_neA {t : Tr AV} {tv v : TypeId} {pos : String} {af : Array Edge} {g : Option (Nat × Bool)} {x : Operand} {d : Option Tmp} (hx : ev t x = .nilp) : aback00 Try.prog t ⟨d, .binOp .neq 22 x (.const (.pointer none)) tv, v, pos, af, g⟩ = some (.bool false) := by
  have hy0 : ev t (.const (.pointer none)) = .nilp := rfl
  have he : semPure Try.prog (execOp (fun x => ((ev t x).val?).getD undef) ⟨d, .binOp .neq 22 x (.const (.pointer none)) tv, v, pos, af, g⟩) = some (.value (.bool false)) := by
    simp only [execOp, hx, hy0, AV.val?, Option.getD_some]
    rfl
  unfold aback00 aback
  simp [Op.operands, hx, hy0, AV.val?, he]
theorem nil_neB {t : Tr AV} {tv v : TypeId} {pos : String} {af : Array Edge} {g : Option (Nat × Bool)} {x : Operand} {d : Option Tmp} (hx : ev t x = .nilp) : aback00 Try.prog t ⟨d, .binOp .neq 43 x (.const (.pointer none)) tv, v, pos, af, g⟩ = some (.bool false) := by
  have hy0 : ev t (.const (.pointer none)) = .nilp := rfl
  have he : semPure Try.prog (execOp (fun x => ((ev t x).val?).getD undef) ⟨d, .binOp .neq 43 x (.const (.pointer none)) tv, v, pos, af, g⟩) = some (.value (.bool false)) := by
    simp only [execOp, hx, hy0, AV.val?, Option.getD_some]
    rfl
  unfold aback00 aback
  simp [Op.operands, hx, hy0, AV.val?, he]
theorem bcmp_nil {P : Program} {op : BinOp} {ty : TypeId} : bcmp P op ty .nilp .nilp = none := by
  unfold bcmp
  cases op <;> rfl
theorem ncmp_nil {P : Program} {ty : TypeId} : ncmp P ty .nilp .nilp = none := rfl
theorem aeql_nil {P : Program} {ty : TypeId} : aeql P ty .nilp .nilp = none := by
  unfold aeql
  cases P.underlying ty with
  | none => rfl
  | some u => cases u <;> rfl
theorem blk_put {h : Heap} {n : Nat} {old vs : List AV} {L : List Th} (O : Hold h L) (hm : (.ptr n 0, .blk old) ∈ L) (hl : vs.length = old.length) : ∃ h1, alay h n 0 vs = some h1 ∧ Stp h [(.ptr n 0, .blk old)] h1 [(.ptr n 0, .blk vs)] := by
  obtain ⟨g, hn⟩ := O.blk hm
  have e : alay h n 0 vs = some (h.set n (.cells vs false)) := by
    unfold alay
    rw [g]
    simp only
    rw [layAt_all _ _ _ (by omega)]
    simp [hl]
  refine ⟨_, e, ⟨fun x hx => ?_, ?_⟩, fun d hd => .inl hd, ⟨Nat.le_refl _, fun c hc hF => ?_⟩⟩
  · rw [List.mem_singleton] at hx
    subst hx
    exact ⟨n, rfl, hn, by rw [Heap.get_set, if_pos rfl]⟩
  · exact List.nodup_cons.2 ⟨by simp, List.nodup_nil⟩
  · rw [Heap.get_set, if_neg (fun z => by subst z; exact hF (in_iff.2 ⟨_, List.mem_singleton.2 rfl, rfl⟩))]
theorem wd5 {h0 h h1 : Heap} {A B C D E E' : List Th} (W : Wd h0 h (A ++ (B ++ (C ++ (D ++ E))))) (T : Stp h E h1 E') : Wd h0 h1 (A ++ (B ++ (C ++ (D ++ E')))) := by
  have e : ∀ X : List Th, A ++ (B ++ (C ++ (D ++ X))) = (A ++ B ++ C ++ D) ++ X := fun X => by simp [List.append_assoc]
  rw [e] at W ⊢
  exact W.opB T
theorem play_start {h h1 h2 : Heap} {b rb : Nat} {s : Sb} {r : Rb} {vc rv : AV} (O : SlO h1 b s vc) (k1 : Keep h.next nob h h1) (f1 : ∀ d, d ∈ fpS b s vc → h.next ≤ d) (W2 : Wd h1 h2 (r.th rb rv)) : Wd h h2 (s.th b vc ++ (r.th rb rv ++ ([(.nils, .vec 2 0 [])] ++ []))) := by
  have W1 : Wd h h1 (s.th b vc) := ⟨slo_hold.1 O, k1, fun d hd => f1 d (sb_inn.1 hd)⟩
  have := (W1.join W2).snoc (Keep.refl _ _ _) (v := .nils) (o := .vec 2 0 []) (Mine.nil _ _) (fun d hd => by cases hd)
  simpa only [List.append_assoc, List.append_nil] using this
set_option maxHeartbeats 8000000 in
theorem law_run (k : Nat) (hk : 90000 < k) (h : Heap) (a0 : Int) (w0 : (Lit.int .i64 a0).wf = true) (a1 : Int) (w1 : (Lit.int .i64 a1).wf = true) (v2 : AV) (a2 : (List (Int × (Int × (Int × (ByteArray × ((Int × (Int × Unit)) × (Bool × Unit)))))))) (w2 : SlA (kPair (kInt .i64) (kPair (kInt .i64) (kPair (kInt .i64) (kPair kStr (kPair (kPair (kInt .i64) (kPair (kInt .i64) kNil)) (kPair kBool kNil)))))) h v2 a2) :
    ∃ v h', afuncT Try.prog [18] (orRuns 3 (acall Try.prog (k + 10))) (k + 10) Try.f5 [.int .i64 a0, .int .i64 a1, v2] h = some (v, h') ∧ v = .bool true := by
  obtain ⟨s0, _⟩ := sla_flat flat_as (by decide) w2
  have s0 : Sl 7 a2.length h v2 (cat asC a2) := s0
  by_cases hbad : a0 < 1 ∨ 64 < a0 ∨ a1 < 64 ∨ 65536 < a1
  · obtain ⟨E1, E2⟩ := new_no (k + 9) h a0 a1 hbad
    refine afuncT_ex rfl (by simp [Try.f5]) ?_
    have la := s0.len'
    simp [Try.f5, E1, E2, aeql_nil, bcmp_nil, ncmp_nil, nil_eqA, nil_eqB, nil_neA, nil_neB]
    refine W_cutLoop 0 (fun st => True) ?_ ?_
    · refine W_loop (fun m st => m = 0 ∧ st.h = h ∧ st.t.get 2 = some v2 ∧ st.t.get 7 = some .nilp ∧ st.t.get 13 = some (.int .i64 0)) 0 (by omega) ⟨rfl, rfl, rfl, rfl, rfl⟩ ?_
      rintro m ⟨t, h2⟩ ⟨rfl, e, q2, q7, q13⟩
      simp only at e q2 q7 q13
      subst e
      by_cases hl : a2 = []
      · simp [q2, q7, q13, la, hl]
      · simp [q2, q7, q13, la, hl, aeql_nil, bcmp_nil, ncmp_nil, nil_eqA, nil_eqB, nil_neA, nil_neB]
    rintro ⟨t, h2⟩ _
    simp
  have hg : 1 ≤ a0 ∧ a0 ≤ 64 ∧ 64 ≤ a1 ∧ a1 ≤ 65536 := by omega
  obtain ⟨P, rfl⟩ := Int.eq_ofNat_of_zero_le (show 0 ≤ a0 by omega)
  obtain ⟨Q, rfl⟩ := Int.eq_ofNat_of_zero_le (show 0 ≤ a1 by omega)
  have hP2 : 1 ≤ P ∧ P ≤ 64 := by omega
  have hQ2 : 64 ≤ Q ∧ Q ≤ 65536 := by omega
  clear hbad hg w0 w1
  obtain ⟨_, h1, E1, b, cls, vc, rfl, O, F, l1, l2, l3, l4, f1, k1⟩ := new_ok (k + 9) (by omega) h P Q (by omega) (by omega) (by omega) (by omega)
  obtain ⟨_, h2, E2, rb, rcls, rv, rfl, RW, RF, rl1, rl2, rl3, rl4⟩ := rnew_ok (k + 9) (by omega) h1 P Q (by omega) (by omega) (by omega) (by omega)
  have W2 := play_start O k1 f1 RW
  have B2 : Bth P Q ⟨Q, P, 0, cls⟩ ⟨Q, P, rcls⟩ 0 := by
    refine ⟨RelS.new F RF l3 l4 rl3 rl4 l1 rl1, ⟨_, SbI.new F l1 l2 l3⟩, ?_⟩
    unfold liveN
    have : cls.map (fun c => c.live.length) = List.replicate cls.length 0 := by
      refine List.ext_getElem? fun j => ?_
      rw [List.getElem?_map, List.getElem?_replicate]
      cases hc : cls[j]? with
      | none => rw [if_neg (fun q => by rw [List.getElem?_eq_none_iff] at hc; omega)]; rfl
      | some c => rw [if_pos (List.getElem?_eq_some_iff.1 hc).1, Option.map_some, (F j c hc).2.2.1]; rfl
    simp only [this]
    simp
  clear O F l1 l2 l3 l4 f1 RW RF rl1 rl2 rl3 rl4
  refine afuncT_ex rfl (by simp [Try.f5]) ?_
  simp [Try.f5, E1, E2, aeql]
  refine W_cutLoop 0 (fun st => True) ?_ ?_
  · refine W_loop (fun m st => ∃ (i : Nat) (s : Sb) (r : Rb) (told : List (Nat × Nat)) (live : Nat) (vt : AV), m = min a2.length 60 - i ∧ i ≤ min a2.length 60 ∧ st.t.get 0 = some (.int .i64 (P : Nat)) ∧ st.t.get 2 = some v2 ∧ st.t.get 7 = some (.ptr b 0) ∧ st.t.get 9 = some (.ptr rb 0) ∧
      st.t.get 11 = some vt ∧ st.t.get 12 = some (.int .i64 (live : Nat)) ∧ st.t.get 13 = some (.int .i64 (i : Nat)) ∧ told.length ≤ i ∧ live ≤ i ∧ Bth P Q s r live ∧ Wd h st.h (s.th b vc ++ (r.th rb rv ++ ([(vt, .vec 2 told.length (cat hC told))] ++ [])))) (min a2.length 60) (by omega)
      ⟨0, _, _, [], 0, .nils, by omega, by omega, rfl, rfl, rfl, rfl, rfl, rfl, rfl, Nat.le_refl _, Nat.le_refl _, B2, W2⟩ ?_
    clear W2 B2 E1 E2 k1
    rintro m ⟨t, h3⟩ ⟨i, s, r, told, live, vt, rfl, hi, q0, q2, q7, q9, q11, q12, q13, htl, hll, B, W⟩
    simp only at q0 q2 q7 q9 q11 q12 q13 W
    have sa := s0.ext W.kb
    have la := sa.len'
    by_cases hlt : i < min a2.length 60
    rotate_left
    · by_cases hl3 : i < a2.length
      · simp [q2, q7, q13, la, isLt (show (i : Int) < (a2.length : Int) by omega), isLe (show (60 : Int) ≤ (i : Int) by omega)]
      · simp [q2, q7, q13, la, isLe (show (a2.length : Int) ≤ (i : Int) by omega)]
    obtain ⟨x, hx⟩ : ∃ x, a2[i]? = some x := ⟨a2[i]'(by omega), by simp⟩
    have ix := sa.idx (P := Try.prog) Try.underlying42 ts48 (j := i) (by omega) .i64
    have ld := sa.lds (P := Try.prog) ta48 ts48 (j := i * 7) (by rw [cat_len asC_len]; omega) (by omega)
    rw [cat_at asC_len hx] at ld
    have rwA : (AV.agg (asC x)).row1 = some (asC x) := rfl
    have lnA : (asC x).length = 7 := rfl
    have al : alay (h3.new (.cells [.int .i64 0, .int .i64 0, .int .i64 0, .str .empty, .int .i64 0, .int .i64 0, .bool false] false)) h3.next 0 (asC x) = some (h3.new (.cells (asC x) false)) := alay_new rfl
    have W4 := W.snoc (Keep.new (Nat.le_refl _) (.cells (asC x) false)) (hold_new h3 (asC x)) (fresh_new h3)
    obtain ⟨n14, hn14⟩ : ∃ n14, n14 = h3.next := ⟨_, rfl⟩
    obtain ⟨h4, e4⟩ : ∃ h4, h3.new (.cells (asC x) false) = h4 := ⟨_, rfl⟩
    rw [e4, ← hn14] at al
    rw [e4, ← hn14] at W4
    obtain ⟨ci0, hci0⟩ : ∃ z, z = x.2.2.2.2.1.1 := ⟨_, rfl⟩
    obtain ⟨ch0, hch0⟩ : ∃ z, z = x.2.2.2.2.1.2.1 := ⟨_, rfl⟩
    have alH : alay (h4.new (.cells [.int .i64 0, .int .i64 0] false)) h4.next 0 [.int .i64 ci0, .int .i64 ch0] = some (h4.new (.cells [.int .i64 ci0, .int .i64 ch0] false)) := alay_new rfl
    have rwH : (AV.agg [.int .i64 ci0, .int .i64 ch0]).row1 = some [.int .i64 ci0, .int .i64 ch0] := rfl
    have W5 := W4.snoc (Keep.new (Nat.le_refl _) (.cells [.int .i64 ci0, .int .i64 ch0] false)) (hold_new h4 [.int .i64 ci0, .int .i64 ch0]) (fresh_new h4)
    obtain ⟨n15, hn15⟩ : ∃ n15, n15 = h4.next := ⟨_, rfl⟩
    obtain ⟨h5, e5⟩ : ∃ h5, h4.new (.cells [.int .i64 ci0, .int .i64 ch0] false) = h5 := ⟨_, rfl⟩
    rw [e5, ← hn15] at alH
    rw [e5, ← hn15] at W5
    have g4 := (W4.own.blk (b := n14) (c := asC x) (by simp)).1
    have g5 := (W5.own.blk (b := n14) (c := asC x) (by simp)).1
    have l4H : aload Try.prog h4 34 n14 4 = some (.agg [.int .i64 ci0, .int .i64 ch0]) := by simp [aload, Heap.row, g4, ta34, ts34, asC, hci0, hch0]
    have l5 := ldc (P := Try.prog) (ty := 4) g5 ta4 (i := 5 + 1) (x := .bool x.2.2.2.2.2.1) rfl
    have lt := (show Mine 2 told.length h3 vt (cat hC told) from W.a3.get (i := 0) rfl).sl.len'
    simp [q0, q2, q7, q9, q11, q12, q13, la, isLt (show (i : Int) < (a2.length : Int) by omega), isLt (show (i : Int) < 60 by omega), ix, ld, rwA, lnA, al, afill, aalloc, aeql, ← hn14, l4H, rwH, alH, ← hn15, W_stopL 12, -W_regionL]
    have W5 : Wd h h5 (s.th b vc ++ (r.th rb rv ++ ([(vt, .vec 2 told.length (cat hC told))] ++ ([(AV.ptr n14 0, Ob.blk (asC x))] ++ [(AV.ptr n15 0, Ob.blk [.int .i64 ci0, .int .i64 ch0])])))) := by
      have := W5
      rw [List.append_nil] at this
      simpa only [List.append_assoc] using this
    refine W_cutN (fun st => st.h = h5 ∧ st.t.get 0 = some (.int .i64 (P : Nat)) ∧ st.t.get 2 = some v2 ∧ st.t.get 7 = some (.ptr b 0) ∧ st.t.get 9 = some (.ptr rb 0) ∧ st.t.get 11 = some vt ∧ st.t.get 12 = some (.int .i64 (live : Nat)) ∧ st.t.get 13 = some (.int .i64 (i : Nat)) ∧ st.t.get 14 = some (.ptr n14 0) ∧ st.t.get 15 = some (.ptr n15 0) ∧
      st.t.get 75 = some (.bool (decide (x.2.2.2.2.2.1 = true ∧ 0 < told.length)))) ?_ ?_
    · rw [W_regionL rfl]
      by_cases c1 : x.2.2.2.2.2.1 = true
      · rw [c1] at l5
        by_cases c2 : told = []
        · simp [q0, q2, q7, q9, q11, q12, q13, l5, lt, c1, c2]
        · simp [q0, q2, q7, q9, q11, q12, q13, l5, lt, c1, c2]
          exact List.length_pos_iff.2 c2
      · rw [Bool.not_eq_true] at c1
        rw [c1] at l5
        simp [q0, q2, q7, q9, q11, q12, q13, l5, lt, c1]
    clear q0 q2 q7 q9 q11 q12 q13 ix ld al W W4 l4H alH g4 l5
    rintro ⟨t, h5'⟩ ⟨e3', q0, q2, q7, q9, q11, q12, q13, q14, q15, q75⟩
    simp only at e3' q0 q2 q7 q9 q11 q12 q13 q14 q15 q75
    replace e3' := e3'.symm
    subst e3'
    simp only [onEx_normal]
    refine W_cutN (fun st => ∃ (ci ch : Int), Wd h st.h (s.th b vc ++ (r.th rb rv ++ ([(vt, .vec 2 told.length (cat hC told))] ++ ([(AV.ptr n14 0, Ob.blk (asC x))] ++ [(AV.ptr n15 0, Ob.blk [.int .i64 ci, .int .i64 ch])])))) ∧ st.t.get 0 = some (.int .i64 (P : Nat)) ∧ st.t.get 2 = some v2 ∧ st.t.get 7 = some (.ptr b 0) ∧ st.t.get 9 = some (.ptr rb 0) ∧ st.t.get 11 = some vt ∧ st.t.get 12 = some (.int .i64 (live : Nat)) ∧ st.t.get 13 = some (.int .i64 (i : Nat)) ∧ st.t.get 14 = some (.ptr n14 0) ∧ st.t.get 15 = some (.ptr n15 0)) ?_ ?_
    · by_cases c1 : x.2.2.2.2.2.1 = true ∧ 0 < told.length
      · rw [decide_eq_true c1] at q75
        obtain ⟨c1, c2⟩ := c1
        have sl1 := i64w ((told.length : Int) - 1) (by omega) (by omega)
        have W3 : acall Try.prog (k + 10) 15 [.int .i64 x.2.1, .int .i64 0, .int .i64 ((told.length : Int) - 1)] h5 = _ := within_ok (k + 9) x.2.1 0 ((told.length : Int) - 1) (by omega) (by omega) (by omega) h5
        have m1 : 0 ≤ x.2.1 % ((told.length : Int) - 1 - 0 + 1) := Int.emod_nonneg _ (by omega)
        have m2 : x.2.1 % ((told.length : Int) - 1 - 0 + 1) < (told.length : Int) - 1 - 0 + 1 := Int.emod_lt_of_pos _ (by omega)
        obtain ⟨j, hj⟩ : ∃ j : Nat, (0 : Int) + x.2.1 % ((told.length : Int) - 1 - 0 + 1) = (j : Int) := ⟨((0 : Int) + x.2.1 % ((told.length : Int) - 1 - 0 + 1)).toNat, by omega⟩
        have hjl : j < told.length := by omega
        rw [hj] at W3
        clear hj m1 m2
        obtain ⟨⟨ci, K⟩, hjx⟩ : ∃ y, told[j]? = some y := ⟨told[j], by simp⟩
        have M : Mine 2 told.length h5 vt (cat hC told) := W5.a3.get (i := 0) rfl
        have ixh := M.sl.idx (P := Try.prog) Try.underlying46 ts34 (j := j) hjl .i64
        have ldh := M.sl.lds (P := Try.prog) ta34 ts34 (j := j * 2) (by rw [cat_len hC_len]; omega) (by omega)
        rw [cat_at hC_len hjx] at ldh
        have ldh : aload Try.prog h5 34 vt.blk (vt.off + j * 2) = some (.agg [.int .i64 (ci : Nat), .int .i64 (K : Nat)]) := ldh
        have l1 := ldc (P := Try.prog) (ty := 3) g5 ta3 (i := 1) (x := .int .i64 x.2.1) rfl
        have rwK : (AV.agg [.int .i64 (ci : Nat), .int .i64 (K : Nat)]).row1 = some [.int .i64 (ci : Nat), .int .i64 (K : Nat)] := rfl
        obtain ⟨h6, a6, T6⟩ := blk_put (vs := [.int .i64 (ci : Nat), .int .i64 (K : Nat)]) W5.own (n := n15) (old := [.int .i64 ci0, .int .i64 ch0]) (by simp) rfl
        have W6 := wd5 W5 T6
        simp [q75, q0, q2, q7, q9, q11, q12, q13, q14, q15, l1, lt, sl1, W3, ixh, ldh, rwK, a6]
        exact ⟨_, _, W6⟩
      · rw [decide_eq_false c1] at q75
        simp [q75, q0, q2, q7, q9, q11, q12, q13, q14, q15]
        exact ⟨_, _, W5⟩
    clear q0 q2 q7 q9 q11 q12 q13 q14 q15 q75 g5 lt W5 hci0 hch0 rwH sa la
    rintro ⟨t, h6⟩ ⟨ci, ch, W, q0, q2, q7, q9, q11, q12, q13, q14, q15⟩
    simp only at W q0 q2 q7 q9 q11 q12 q13 q14 q15
    simp only [onEx_normal]
    rw [W_seq]
    refine W_cutN (fun st => ∃ (s : Sb) (r : Rb) (told : List (Nat × Nat)) (live : Nat) (vt : AV), st.t.get 0 = some (.int .i64 (P : Nat)) ∧ st.t.get 2 = some v2 ∧ st.t.get 7 = some (.ptr b 0) ∧ st.t.get 9 = some (.ptr rb 0) ∧ st.t.get 11 = some vt ∧ st.t.get 12 = some (.int .i64 (live : Nat)) ∧ st.t.get 13 = some (.int .i64 (i : Nat)) ∧ told.length ≤ i + 1 ∧ live ≤ i + 1 ∧
      Bth P Q s r live ∧ Wd h st.h (s.th b vc ++ (r.th rb rv ++ ([(vt, .vec 2 told.length (cat hC told))] ++ [])))) ?_ ?_
    · have drp : ∀ {s : Sb} {r : Rb} {told : List (Nat × Nat)} {vt : AV} {h' : Heap} {Y : List Th}, Wd h h' (s.th b vc ++ (r.th rb rv ++ ([(vt, .vec 2 told.length (cat hC told))] ++ Y))) → Wd h h' (s.th b vc ++ (r.th rb rv ++ ([(vt, .vec 2 told.length (cat hC told))] ++ []))) := fun {s r told vt h' Y} W => by
        have e : s.th b vc ++ (r.th rb rv ++ ([(vt, .vec 2 told.length (cat hC told))] ++ Y)) = (s.th b vc ++ (r.th rb rv ++ ([(vt, .vec 2 told.length (cat hC told))] ++ []))) ++ Y := by simp [List.append_assoc]
        rw [e] at W
        exact W.drop
      have g14 := (W.own.blk (b := n14) (c := asC x) (by simp)).1
      have g15 := (W.own.blk (b := n15) (c := [.int .i64 ci, .int .i64 ch]) (by simp)).1
      have l0 := ldc (P := Try.prog) (ty := 3) g14 ta3 (i := 0) (x := .int .i64 x.1) rfl
      have lA : ∀ h' : Heap, h'.get n14 = some (.cells (asC x) false) → aload Try.prog h' 48 n14 0 = some (.agg (asC x)) := fun h' g => by simp [aload, Heap.row, g, ta48, ts48, asC]
      have lHg : ∀ (h' : Heap) (n : Nat) (a c : Int), h'.get n = some (.cells [.int .i64 a, .int .i64 c] false) → aload Try.prog h' 34 n 0 = some (.agg [.int .i64 a, .int .i64 c]) := fun h' n a c g => by simp [aload, Heap.row, g, ta34, ts34]
      by_cases c1 : x.1 = 1
      · rw [c1] at l0
        obtain ⟨_, h7, E7, rfl, k7⟩ := data_ok (k + 8) h6 x
        have dl := dataS_le x
        obtain ⟨D, hD⟩ : ∃ D, dataS x = D := ⟨_, rfl⟩
        rw [hD] at E7 dl
        have W7 := W.ext k7
        obtain ⟨ca, K, er, s', h8, E8, T8, z1, z2, F⟩ := both_alloc B (by omega) hQ2 (k + 8) (by omega) D (by omega) h7 b vc (slo_hold.2 W7.a)
        have W8 := W7.op T8
        have rwK : (AV.agg [.int .i64 (ca : Nat), .int .i64 (K : Nat)]).row1 = some [.int .i64 (ca : Nat), .int .i64 (K : Nat)] := rfl
        have al8 : alay (h8.new (.cells [.int .i64 0, .int .i64 0] false)) h8.next 0 [.int .i64 (ca : Nat), .int .i64 (K : Nat)] = some (h8.new (.cells [.int .i64 (ca : Nat), .int .i64 (K : Nat)] false)) := alay_new rfl
        have W9 := W8.snoc (Keep.new (Nat.le_refl _) (.cells [.int .i64 (ca : Nat), .int .i64 (K : Nat)] false)) (hold_new h8 [.int .i64 (ca : Nat), .int .i64 (K : Nat)]) (fresh_new h8)
        obtain ⟨n16, hn16⟩ : ∃ n, n = h8.next := ⟨_, rfl⟩
        obtain ⟨h9, e9⟩ : ∃ h9, h8.new (.cells [.int .i64 (ca : Nat), .int .i64 (K : Nat)] false) = h9 := ⟨_, rfl⟩
        rw [e9, ← hn16] at al8 W9
        obtain ⟨_, h10, E10, rfl, k10⟩ := data_ok (k + 8) h9 x
        rw [hD] at E10
        have W10 := W9.ext k10
        have W10 : Wd h h10 (s'.th b vc ++ (r.th rb rv ++ ([(vt, .vec 2 told.length (cat hC told))] ++ ([(AV.ptr n14 0, Ob.blk (asC x)), (AV.ptr n15 0, Ob.blk [.int .i64 ci, .int .i64 ch]), (AV.ptr n16 0, Ob.blk [.int .i64 (ca : Nat), .int .i64 (K : Nat)])])))) := by
          have := W10
          simp only [List.append_assoc] at this
          exact this
        obtain ⟨h11, r', E11, T11, B11, z3⟩ := F h10 rb rv W10.a2
        have W11 := W10.op2 T11
        have al11 : alay (h11.new (.cells [.int .i64 0, .int .i64 0] false)) h11.next 0 [.int .i64 (ca : Nat), .int .i64 (K : Nat)] = some (h11.new (.cells [.int .i64 (ca : Nat), .int .i64 (K : Nat)] false)) := alay_new rfl
        have W12 := W11.snoc (Keep.new (Nat.le_refl _) (.cells [.int .i64 (ca : Nat), .int .i64 (K : Nat)] false)) (hold_new h11 [.int .i64 (ca : Nat), .int .i64 (K : Nat)]) (fresh_new h11)
        obtain ⟨n18, hn18⟩ : ∃ n, n = h11.next := ⟨_, rfl⟩
        obtain ⟨h12, e12⟩ : ∃ h12, h11.new (.cells [.int .i64 (ca : Nat), .int .i64 (K : Nat)] false) = h12 := ⟨_, rfl⟩
        rw [e12, ← hn18] at al11 W12
        have W12 : Wd h h12 (s'.th b vc ++ (r'.th rb rv ++ ([(vt, .vec 2 told.length (cat hC told))] ++ ([(AV.ptr n14 0, Ob.blk (asC x)), (AV.ptr n15 0, Ob.blk [.int .i64 ci, .int .i64 ch]), (AV.ptr n16 0, Ob.blk [.int .i64 (ca : Nat), .int .i64 (K : Nat)]), (AV.ptr n18 0, Ob.blk [.int .i64 (ca : Nat), .int .i64 (K : Nat)])])))) := by
          have := W12
          simp only [List.append_assoc] at this
          exact this
        obtain ⟨g9, _⟩ := W9.own.blk (b := n14) (c := asC x) (by simp)
        obtain ⟨g12, p14⟩ := W12.own.blk (b := n14) (c := asC x) (by simp)
        obtain ⟨x16, p16⟩ := W12.own.blk (b := n16) (c := [.int .i64 (ca : Nat), .int .i64 (K : Nat)]) (by simp)
        obtain ⟨x18, p18⟩ := W12.own.blk (b := n18) (c := [.int .i64 (ca : Nat), .int .i64 (K : Nat)]) (by simp)
        have lA6 := lA h6 g14
        have lA9 := lA h9 g9
        have lA12 := lA h12 g12
        have l16 := lHg h12 n16 _ _ x16
        have l18 := lHg h12 n18 _ _ x18
        obtain ⟨_, h13, E13, rfl, k13⟩ := data_ok (k + 8) h12 x
        rw [hD] at E13
        have W13 := W12.ext k13
        obtain ⟨pgs, I⟩ := B11.inv
        have hlen := I.l2
        obtain ⟨_, h14, E14, rfl, k14⟩ := class_ok (k + 9) (by omega) h13 b s' vc (slo_hold.2 W13.a) (by omega) (D.size : Nat)
        have W14 := W13.ext k14
        have lA14 := lA h14 (W14.own.blk (b := n14) (c := asC x) (by simp)).1
        obtain ⟨_, h15, E15, rfl, k15⟩ := data_ok (k + 8) h14 x
        rw [hD] at E15
        have W15 := W14.ext k15
        have hrl : r'.cls.length ≤ 20 := by rw [B11.rel.len]; omega
        obtain ⟨_, _, E16, e16, rfl⟩ := rclass_ok (k + 9) (by omega) h15 rb r' rv W15.a2 hrl D.size
        rw [if_neg (show ¬ ((D.size : Nat) : Int) < 0 by omega)] at E14
        rw [e16, B11.rel.sizes, ← clsE_S] at E16
        have E16 : acall Try.prog (k + 10) 20 [.ptr rb 0, .int .i64 (D.size : Nat)] h15 = some (.int .i64 (clsZ (D.size : Nat) s'.cls), h15) := E16
        obtain ⟨cz, hcz⟩ : ∃ cz, clsZ (D.size : Nat) s'.cls = cz := ⟨_, rfl⟩
        rw [hcz] at E14 E16
        have ag13 : Agree h12.next h12 h13 := fun c hc => k13.2 c hc id
        have ag14 : Agree h12.next h13 h14 := fun c hc => k14.2 c (Nat.lt_of_lt_of_le hc k13.1) id
        have ag15 : Agree h12.next h14 h15 := fun c hc => k15.2 c (Nat.lt_of_lt_of_le hc (Nat.le_trans k13.1 k14.1)) id
        have ag16 : Agree h12.next h15 h15 := fun _ _ => rfl
        have eqn := fun {t : Tr AV} {d : Option Tmp} {tv v : TypeId} {pos : String} {af : Array Edge} {gd : Option (Nat × Bool)} {i j : Nat} (hx : ev t (.tmp i) = .agg [.int .i64 (ca : Nat), .int .i64 (K : Nat)]) (hy : ev t (.tmp j) = .agg [.int .i64 (ca : Nat), .int .i64 (K : Nat)]) => show aback00 _ _ _ = _ from aback_hn (t := t) (d := d) (tv := tv) (v := v) (pos := pos) (af := af) (gd := gd) (i := i) (j := j) hx hy
        simp only [and_self, decide_true, Bool.not_true] at eqn
        have smA : sameAVs (asC x) (asC x) = true := by simp [asC, sameAVs, sameAV]
        simp [q0, q2, q7, q9, q11, q12, q13, q14, q15, l0, lA6, E7, E8, rwK, afill, aalloc, ← hn16, al8, lA9, E10, E11, ← hn18, al11]
        refine W_drawn h12.next (by rfl) (by kernel_rfl) ?_
        simp [q0, q2, q7, q9, q11, q12, q13, q14, q15, l16, l18, lA12, lA14, p14, p16, p18, E13, E14, E15, E16, ag13, ag14, ag15, ag16, eqn, ncmp, obl, mayEff, mayRead, sameAV, sameAVs, smA]
        by_cases hz : er = 0
        · subst hz
          rw [if_pos rfl] at B11
          obtain ⟨vt8, h16, E16, M8, F8, K8⟩ := (show Mine 2 told.length h15 vt (cat hC told) from W15.a3.get (i := 0) rfl).push (P := Try.prog) el46 (a := hC (ca, K)) (ex := true) rfl rfl (by omega)
          have E16 : aappend Try.prog (h15.new (.cells [.int .i64 (ca : Nat), .int .i64 (K : Nat)] false)) 46 46 vt (.sl h15.next 0 1 1 2 true) = some (vt8, h16) := E16
          have W16 := W15.op3 ((Stp.refl W15.a3).upd (i := 0) rfl K8 (v' := vt8) (o' := .vec 2 (told ++ [(ca, K)]).length (cat hC (told ++ [(ca, K)]))) (by rw [List.length_append, cat_append, cat_one]; exact M8) F8)
          have l18' := lHg h15 n18 _ _ (W15.own.blk (b := n18) (c := [.int .i64 (ca : Nat), .int .i64 (K : Nat)]) (by simp)).1
          have sl := i64w ((live : Int) + 1) (by omega) (by omega)
          simp [q0, q2, q7, q9, q11, q12, q13, q14, q15, l18', rwK, afill, aalloc, E16, sl]
          exact ⟨s', r', told ++ [(ca, K)], live + 1, by omega, by simp; omega, by omega, B11, drp W16⟩
        · rw [if_neg hz] at B11
          simp [q0, q2, q7, q9, q11, q12, q13, q14, q15, hz]
          exact ⟨s', r', told, live, rfl, by omega, by omega, B11, drp W15⟩
      by_cases c2 : x.1 = 2
      · have l15 := lHg _ _ _ _ g15
        obtain ⟨ok, h7, r', E7, T7, _, hok, F⟩ := both_free B (by omega) hQ2 (k + 8) (by omega) ci ch h6 rb rv W.a2
        have W7 := W.op2 T7
        obtain ⟨s', h8, E8, T8, B8, _⟩ := F h7 b vc (slo_hold.2 W7.a)
        have W8 := W7.op T8
        have g15' := (W7.own.blk (b := n15) (c := [.int .i64 ci, .int .i64 ch]) (by simp)).1
        have l15' := lHg _ _ _ _ g15'
        rw [c2] at l0
        cases ok with
        | false =>
          simp [q0, q2, q7, q9, q11, q12, q13, q14, q15, l0, l15, l15', E7, E8]
          exact ⟨s', r', told, live, rfl, by omega, by omega, by simpa using B8, drp W8⟩
        | true =>
          have sl := i64w ((live : Int) - 1) (by omega) (by omega)
          have hok := hok rfl
          simp [q0, q2, q7, q9, q11, q12, q13, q14, q15, l0, l15, l15', E7, E8, sl]
          exact ⟨s', r', told, live - 1, by omega, by omega, by omega, by simpa using B8, drp W8⟩
      by_cases c3 : x.1 = 3
      · have l15 := lHg _ _ _ _ g15
        obtain ⟨d, ok, F1, F2⟩ := both_read B (by omega) hQ2 (k + 8) (by omega) ci ch
        obtain ⟨h7, E7, k7⟩ := F1 h6 b vc (slo_hold.2 W.a)
        have W7 := W.ext k7
        have g15' := (W7.own.blk (b := n15) (c := [.int .i64 ci, .int .i64 ch]) (by simp)).1
        have l15' := lHg _ _ _ _ g15'
        obtain ⟨h8, E8, k8⟩ := F2 h7 rb rv W7.a2
        have W8 := W7.ext k8
        rw [c3] at l0
        simp [q0, q2, q7, q9, q11, q12, q13, q14, q15, l0, l15, l15', E7, E8]
        exact ⟨s, r, told, live, rfl, by omega, by omega, B, drp W8⟩
      · simp [q0, q2, q7, q9, q11, q12, q13, q14, q15, l0, c1, c2, c3]
        exact ⟨s, r, told, live, rfl, by omega, by omega, B, drp W⟩
    clear q0 q2 q7 q9 q11 q12 q13 q14 q15
    rintro ⟨t, h6⟩ ⟨s, r, told, live, vt, q0, q2, q7, q9, q11, q12, q13, htl, hll, B, W⟩
    simp only at W q0 q2 q7 q9 q11 q12 q13
    simp only [onEx_normal]
    have O := slo_hold.2 W.a
    have pg : acall Try.prog (k + 10) 12 [.ptr b 0] h6 = _ := pages_ok (k + 9) h6 b s vc O
    have rl := RO.ld1 (O := W.a2) (ty := 3) ta3
    obtain ⟨pgs, I⟩ := B.inv
    have htot := I.tot
    have hlen := I.l2
    rw [B.rel.left] at rl
    obtain ⟨_, h7, E7, rfl, k7⟩ := live_ok (k + 9) h6 b s vc (by omega) O (by omega) (by rw [B.live]; omega)
    rw [B.live] at E7
    have W7 := W.ext k7
    have s1 := i64w ((P : Int) - (s.left : Int)) (by omega) (by omega)
    have e1 : (P : Int) - (s.left : Int) = (s.used : Int) := by omega
    rw [e1] at s1
    simp [q0, q2, q7, q9, q11, q12, q13, pg, rl, e1, s1, E7]
    exact ⟨min a2.length 60 - (i + 1), by omega, i + 1, rfl, by omega, s, r, told, live, rfl, i64w ((i : Int) + 1) (by omega) (by omega), htl, hll, B, W7⟩
  rintro ⟨t, h2⟩ _
  simp


theorem own : ownKnob Try.prog.godebug = none := by kernel_rfl
theorem laid : laidOutB Try.prog = true := by kernel_rfl

set_option maxRecDepth 100000 in
theorem lifted (os : Os) (started : os.Started) (H : Type) (enc : TypeId × Value → H) :
    ReturnsInHanded {} Try.checked os 5 .any (Rows.slabPlaysSpec.pre6 enc Try.prog Try.f5 Rows.slabPlaysRow.domain false) (Rows.slabPlaysSpec.post enc Try.prog Try.f5 false true false false) := by
  refine returnsInHanded_of_change (C := Try.checked) own started (by kernel_rfl) Try.func5
    (ChangeSpec.witness6 (enc := enc) (C := Try.checked) false ⟨#[], #[.int .i64 0, .int .i64 0, .slice none 0 0], []⟩ 8 (by kernel_rfl) (by kernel_rfl) (by kernel_rfl) (by kernel_rfl)) ?_
  intro W base args ds gs before hval0 hW hcnd _
  have hval : ∀ (j : Nat) t v, Try.f5.params.toList[j]? = some t → args.toList[j]? = some v → Value.okWide Try.prog W .any base t v := fun j t v h1 h2 => hval0 j t v (by simpa using h1) (by simpa using h2)
  have hW' := hW
  obtain ⟨p, q, hA0, hV, rfl, hfz, hnd⟩ := hW
  have hA : DataW.TrodAll enc Try.prog W 0 (fun _ => true) true Try.f5.params.toList args.toList ds p := hA0
  obtain ⟨rfl, rfl⟩ := trodVars_none hV
  have hlt : ∀ x ∈ p, x.block < W.heap.size := fun x hx => hW'.lt x (by simp [hx])
  have hps : Try.f5.params.toList = [3, 3, 42] := by rw [Try.params5]
  rw [hps] at hA hval
  obtain ⟨m, h, avs, x, g1, _, _, g2, g3, g4⟩ := (good_as1 (good_int Try.underlying3 (by kernel_rfl)) rfl (by kernel_rfl) (good_as1 (good_int Try.underlying3 (by kernel_rfl)) rfl (by kernel_rfl) (good_as1 (good_slice Try.underlying42 (by kernel_rfl) (by decide) (good_struct Try.underlying48 (by kernel_rfl) (good_fs rfl (good_int Try.underlying3 (by kernel_rfl)) (good_fs rfl (good_int Try.underlying3 (by kernel_rfl)) (good_fs rfl (good_int Try.underlying3 (by kernel_rfl)) (good_fs rfl (good_str Try.underlying9 (by kernel_rfl)) (good_fs rfl (good_struct Try.underlying34 (by kernel_rfl) (good_fs rfl (good_int Try.underlying3 (by kernel_rfl)) (good_fs rfl (good_int Try.underlying3 (by kernel_rfl)) (good_fs0 _)))) (good_fs rfl (good_bool Try.underlying4 (by kernel_rfl)) (good_fs0 _))))))))) rfl (by kernel_rfl) good_as0))) H enc W base args.toList ds p hval hA _ _ (HRo.start W)
  obtain ⟨a0, a1, a2, _⟩ := x
  obtain ⟨_, _, rfl, ⟨e0, w0⟩, ⟨_, _, rfl, ⟨e1, w1⟩, ⟨v2, _, rfl, ⟨u2, e2, w2⟩, rfl⟩⟩⟩ := g3
  obtain rfl := (List.cons.inj e0).1
  obtain rfl := (List.cons.inj e1).1
  obtain rfl := (List.cons.inj e2).1
  have hcall := law_any mixed (k := 100000 + 10) Try.func5 (by kernel_rfl) runs_ok g1 g2 (law_run 100000 (by decide) h a0 w0 a1 w1 v2 a2 w2)
  refine hcall.mono fun e W' ⟨he, hg⟩ => ?_
  subst he
  simp only [List.append_nil] at hW' hA0 ⊢
  have hlen : ds.length = 3 := trodAll_len hA
  have hvars : (Rows.slabPlaysSpec.fn H (ds ++ [])).vars = [] ∧ (Rows.slabPlaysSpec.fn H (ds ++ [])).args = ds ∧ (Rows.slabPlaysSpec.fn H (ds ++ [])).results = [.lit (.bool true)] := by
    rw [List.append_nil]
    match ds, hlen with
    | [d0, d1, d2], _ => exact ⟨rfl, rfl, rfl⟩
  obtain ⟨hv1, hv2, hv3⟩ := hvars
  refine ⟨_, rfl, law_post hW' rfl hg (fun _ _ _ => ?_) (fun sp hsp => ?_) hv1
    (ok_one (by kernel_rfl) rfl (okWide_bool_mk Try.underlying4 _))⟩
  · rw [hv3]
    exact (trodAll_cons_mk (shut_bool Try.underlying4 _) trodAll_mk0)
  · have hA1 := trodAll_below laid hg sp (ts := [3, 3, 42]) (by decide +kernel) hlt hsp hA
    rw [hv2, hps]
    exact hA1

theorem over : Rows.slabPlaysRow.holds Try.pinned (OpenSpec.ofChange Rows.slabPlaysSpec) :=
  OpenClaim.holds_of_wide 5 Try.f5 rfl rfl rfl rfl rfl rfl rfl ⟨rfl, rfl, rfl, rfl, rfl⟩ rfl rfl rfl rfl rfl (by kernel_rfl) Try.func5 (by kernel_rfl)
    (of_decide_eq_true (by kernel_rfl)) (by unfold Func.isWrapper; first | (rw [if_pos (by decide +kernel)]; kernel_rfl) | (rw [if_neg (by decide +kernel)]; exact ⟨rfl, rfl⟩))
    (fun os started H enc _ => lifted os started H enc)

/-- The statement. -/
theorem proved : Rows.SlabPlaysSaid :=
  over
#print axioms proved
end Go.Proofs.Ytmoigchjmmjljaa.cSlabPlays
