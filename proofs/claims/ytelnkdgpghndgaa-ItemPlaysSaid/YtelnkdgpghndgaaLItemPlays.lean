/- The law ItemPlays returns true for every input, and its input reads behind the call as it did; no conditions. The kit's model is followed by an abstract machine that is shown to tell what the model does; the contracts of the functions are proved over that machine. -/
import Derived.Test.YtelnkdgpghndgaaRows
import Derived.Test.YtelnkdgpghndgaaItemPlaysA
import Derived.Test.YtelnkdgpghndgaaItemPlaysC
import Derived.WalkKit
import Derived.ProofKit
import Derived.OpenShut
import Derived.JoinedCond
namespace Go.Proofs.Ytelnkdgpghndgaa.cItemPlays
open Go Go.ChangeShapes Go.WideShapes Go.ChangeAt Go.RowKit Go.YtelnkdgpghndgaaAbs
set_option linter.unusedSimpArgs false
set_option linter.unusedVariables false

set_option maxRecDepth 4000
theorem nil_eqA {t : Tr AV} {tv v : TypeId} {pos : String} {af : Array Edge} {g : Option (Nat × Bool)} {x : Operand} {d : Option Tmp} (hx : ev t x = .nilp) : aback0 Try.prog t ⟨d, .binOp .eql 22 x (.const (.pointer none)) tv, v, pos, af, g⟩ = some (.bool true) := by
  have hy0 : ev t (.const (.pointer none)) = .nilp := rfl
  have he : semPure Try.prog (execOp (fun x => ((ev t x).val?).getD undef) ⟨d, .binOp .eql 22 x (.const (.pointer none)) tv, v, pos, af, g⟩) = some (.value (.bool true)) := by
    simp only [execOp, hx, hy0, AV.val?, Option.getD_some]
    rfl
  unfold aback0 aback
  simp [Op.operands, hx, hy0, AV.val?, he]
theorem nil_eqB {t : Tr AV} {tv v : TypeId} {pos : String} {af : Array Edge} {g : Option (Nat × Bool)} {x : Operand} {d : Option Tmp} (hx : ev t x = .nilp) : aback0 Try.prog t ⟨d, .binOp .eql 48 x (.const (.pointer none)) tv, v, pos, af, g⟩ = some (.bool true) := by
  have hy0 : ev t (.const (.pointer none)) = .nilp := rfl
  have he : semPure Try.prog (execOp (fun x => ((ev t x).val?).getD undef) ⟨d, .binOp .eql 48 x (.const (.pointer none)) tv, v, pos, af, g⟩) = some (.value (.bool true)) := by
    simp only [execOp, hx, hy0, AV.val?, Option.getD_some]
    rfl
  unfold aback0 aback
  simp [Op.operands, hx, hy0, AV.val?, he]
theorem nil_neA {t : Tr AV} {tv v : TypeId} {pos : String} {af : Array Edge} {g : Option (Nat × Bool)} {x : Operand} {d : Option Tmp} (hx : ev t x = .nilp) : aback00 Try.prog t ⟨d, .binOp .neq 22 x (.const (.pointer none)) tv, v, pos, af, g⟩ = some (.bool false) := by
  have hy0 : ev t (.const (.pointer none)) = .nilp := rfl
  have he : semPure Try.prog (execOp (fun x => ((ev t x).val?).getD undef) ⟨d, .binOp .neq 22 x (.const (.pointer none)) tv, v, pos, af, g⟩) = some (.value (.bool false)) := by
    simp only [execOp, hx, hy0, AV.val?, Option.getD_some]
    rfl
  unfold aback00 aback
  simp [Op.operands, hx, hy0, AV.val?, he]
theorem nil_neB {t : Tr AV} {tv v : TypeId} {pos : String} {af : Array Edge} {g : Option (Nat × Bool)} {x : Operand} {d : Option Tmp} (hx : ev t x = .nilp) : aback00 Try.prog t ⟨d, .binOp .neq 48 x (.const (.pointer none)) tv, v, pos, af, g⟩ = some (.bool false) := by
  have hy0 : ev t (.const (.pointer none)) = .nilp := rfl
  have he : semPure Try.prog (execOp (fun x => ((ev t x).val?).getD undef) ⟨d, .binOp .neq 48 x (.const (.pointer none)) tv, v, pos, af, g⟩) = some (.value (.bool false)) := by
    simp only [execOp, hx, hy0, AV.val?, Option.getD_some]
    rfl
  unfold aback00 aback
  simp [Op.operands, hx, hy0, AV.val?, he]
theorem bcmp_nil {P : Program} {op : BinOp} {ty : TypeId} : bcmp P op ty .nilp .nilp = none := by
  unfold bcmp
  cases op <;> rfl
theorem ncmp_nil {P : Program} {ty : TypeId} : ncmp P ty .nilp .nilp = none := rfl
theorem aeql_nil {P : Program} {ty : TypeId} : aeql P ty .nilp .nilp = none := by
  unfold aeql
  cases P.underlying ty with
  | none => rfl
  | some u => cases u <;> rfl
theorem perm5 {α : Type} (A S C Z T : List α) : (((A ++ S) ++ C) ++ (Z ++ T)).Perm ((Z ++ A) ++ (S ++ (C ++ T))) := by
  have := (List.perm_append_comm (l₁ := (A ++ S) ++ C) (l₂ := Z)).append_right T
  simpa only [List.append_assoc] using this
def PRow (z : Sto) (b : Nat) (q : Rst) (rb : Nat) : List Th := z.th b ++ q.th rb z.L
structure PT (t : Tr AV) (P : Nat) (v2 : AV) (b rb i : Nat) : Prop where
  q0 : t.get 0 = some (.int .i64 (P : Nat))
  q2 : t.get 2 = some v2
  q7 : t.get 7 = some (.ptr b 0)
  q9 : t.get 9 = some (.ptr rb 0)
  q11 : t.get 11 = some (.int .i64 (i : Nat))
structure PP (P Q : Nat) (z : Sto) (q : Rst) : Prop where
  i : StI P Q z
  r : RelS z.s q.r
/-- What holds whenever an ask is begun. -/
def PInv (P Q : Nat) (h : Heap) (b rb : Nat) (v2 : AV) (M m : Nat) (st : St) : Prop :=
  ∃ (i : Nat) (z : Sto) (q : Rst), m = M - i ∧ i ≤ M ∧ PT st.t P v2 b rb i ∧ Wd h st.h (PRow z b q rb) ∧ PP P Q z q
theorem PP.tot {P Q : Nat} {z : Sto} {q : Rst} (H : PP P Q z q) : z.s.used + z.s.left = P := by
  obtain ⟨_, _, _, _, _, I⟩ := H.i.sl
  exact I.tot
set_option maxHeartbeats 8000000 in
theorem law_run (k : Nat) (hk : 500000 < k) (h : Heap) (a0 : Int) (w0 : (Lit.int .i64 a0).wf = true) (a1 : Int) (w1 : (Lit.int .i64 a1).wf = true) (v2 : AV) (a2 : (List (Int × (Int × (ByteArray × (ByteArray × (Bool × Unit))))))) (w2 : SlA (kPair (kInt .i64) (kPair (kInt .i64) (kPair kStr (kPair kStr (kPair kBool kNil))))) h v2 a2) :
    ∃ v h', afuncT Try.prog [12, 13, 34, 37, 40] (orRuns 3 (acall Try.prog (k + 10))) (k + 10) Try.f7 [.int .i64 a0, .int .i64 a1, v2] h = some (v, h') ∧ v = .bool true := by
  obtain ⟨S0, _⟩ := sla_flat flat_aq (by decide) w2
  have S0 : Sl 5 a2.length h v2 (cat aqC a2) := S0
  have ae : ∀ x, aeql Try.prog 22 (.ptr x 0) .nilp = some false := fun x => rfl
  have be : ∀ x, aeql Try.prog 48 (.ptr x 0) .nilp = some false := fun x => rfl
  by_cases hbad : a0 < 1 ∨ 64 < a0 ∨ a1 < 64 ∨ 65536 < a1
  · obtain ⟨E1, E2⟩ := both_no (k + 8) h a0 a1 hbad
    refine afuncT_ex rfl (by simp [Try.f7]) ?_
    have la := S0.len'
    simp [Try.f7, E1, E2, aeql_nil, bcmp_nil, ncmp_nil, nil_eqA, nil_eqB, nil_neA, nil_neB]
    refine W_cutLoop 0 (fun st => True) ?_ ?_
    · refine W_loop (fun m st => m = 0 ∧ st.h = h ∧ st.t.get 2 = some v2 ∧ st.t.get 7 = some .nilp ∧ st.t.get 11 = some (.int .i64 0)) 0 (by omega) ⟨rfl, rfl, rfl, rfl, rfl⟩ ?_
      rintro m ⟨t, h2⟩ ⟨rfl, e, q2, q7, q11⟩
      simp only at e q2 q7 q11
      subst e
      by_cases hl : a2 = []
      · simp [q2, q7, q11, la, hl]
      · simp [q2, q7, q11, la, hl, aeql_nil, bcmp_nil, ncmp_nil, nil_eqA, nil_eqB, nil_neA, nil_neB]
    rintro ⟨t, h2⟩ _
    simp
  have hg : 1 ≤ a0 ∧ a0 ≤ 64 ∧ 64 ≤ a1 ∧ a1 ≤ 65536 := by omega
  obtain ⟨P, rfl⟩ := Int.eq_ofNat_of_zero_le (show 0 ≤ a0 by omega)
  obtain ⟨Q, rfl⟩ := Int.eq_ofNat_of_zero_le (show 0 ≤ a1 by omega)
  have hP2 : 1 ≤ P ∧ P ≤ 64 := by omega
  have hQ2 : 64 ≤ Q ∧ Q ≤ 65536 := by omega
  clear hbad hg w0 w1
  obtain ⟨b, z0, h1, E1, W1, I1, L1, _, _, ⟨cls, ec, F, l1, l3, l4⟩⟩ := inew_ok (k + 8) (by omega) h P Q (by omega) (by omega) (by omega) (by omega)
  obtain ⟨rb, q0, h2, E2, W2, ⟨rcls, rc, RF, rl1, rl3, rl4⟩⟩ := rsnew_ok (k + 8) (by omega) h1 P Q (by omega) (by omega) (by omega) (by omega)
  have R0 : RelS z0.s q0.r := by
    rw [ec, rc]
    exact RelS.new F RF l3 l4 rl3 rl4 l1 rl1
  refine afuncT_ex rfl (by simp [Try.f7]) ?_
  simp [Try.f7, E1, E2, ae, be]
  obtain ⟨M, hM⟩ : ∃ M, M = min a2.length 60 := ⟨_, rfl⟩
  refine W_cutLoop 0 (fun st => True) ?_ ?_
  · refine W_loop (PInv P Q h b rb v2 M) M (by omega) ?_ ?_
    · unfold PInv
      have a := W1.join W2
      rw [← L1] at a
      exact ⟨0, z0, q0, rfl, Nat.zero_le _, ⟨by simp, by simp, by simp, by simp, by simp⟩, a, I1, R0⟩
    clear E1 E2 W1 W2 I1 L1 R0 F RF
    rintro m ⟨t, h2⟩ hI
    unfold PInv at hI
    obtain ⟨i, z, q, rfl, hi, ⟨q0, q2, q7, q9, q11⟩, W2, H⟩ := hI
    simp only at q0 q2 q7 q9 q11 W2
    have S2 := S0.ext W2.kb
    have l2 := S2.len'
    by_cases hlt : i < M
    case neg =>
      by_cases h3 : i < a2.length
      · simp [q2, q7, q11, l2, isLt (show (i : Int) < (a2.length : Int) by omega), isLe (show (60 : Int) ≤ (i : Int) by omega)]
      · simp [q2, q7, q11, l2, isLe (show (a2.length : Int) ≤ (i : Int) by omega)]
    obtain ⟨x, hx⟩ : ∃ x, a2[i]? = some x := ⟨_, List.getElem?_eq_getElem (by omega)⟩
    have ixa := S2.idx (P := Try.prog) Try.underlying37 ts41 (j := i) (by omega) .i64
    have lda : aload Try.prog h2 41 v2.blk (v2.off + i * 5) = some (.agg (aqC x)) := by
      have hl := S2.length
      have := S2.lds (P := Try.prog) (e := 41) (m := 5) ta41 ts41 (j := i * 5) (by omega) (by omega)
      rw [cat_at aqC_len hx] at this
      exact this
    have rwx : (AV.agg (aqC x)).row1 = some (aqC x) := rfl
    have ly : alay (h2.new (.cells [.int .i64 0, .int .i64 0, .str .empty, .str .empty, .bool false] false)) h2.next 0 (aqC x) = some (h2.new (.cells (aqC x) false)) := alay_new rfl
    have W3 := W2.snoc (Keep.new (Nat.le_refl _) (.cells (aqC x) false)) (v := .ptr h2.next 0) (o := .blk (aqC x)) (hold_new h2 _) (fun d hd => by cases hd; exact Nat.le_refl _)
    obtain ⟨ab, hab⟩ : ∃ ab, h2.next = ab := ⟨_, rfl⟩
    obtain ⟨h3, e3⟩ : ∃ h3, h2.new (.cells (aqC x) false) = h3 := ⟨_, rfl⟩
    rw [e3, hab] at W3 ly
    have blk : ∀ {h' : Heap}, Hold h' [(.ptr ab 0, .blk (aqC x))] → h'.get ab = some (.cells (aqC x) false) ∧ ab < h'.next := fun {h'} w => by
      obtain ⟨b', e, g1, g2⟩ := w.get (i := 0) (v := .ptr ab 0) (o := .blk (aqC x)) rfl
      cases e
      exact ⟨g2, g1⟩
    obtain ⟨key, hkey⟩ : ∃ key, x.2.2.1 = key := ⟨_, rfl⟩
    have lk : ∀ {h' : Heap}, h'.get ab = some (.cells (aqC x) false) → aload Try.prog h' 9 ab 2 = some (.str key) := fun {h'} g => ldc g ta9 (by rw [← hkey]; rfl)
    have lkd : ∀ {h' : Heap}, h'.get ab = some (.cells (aqC x) false) → aload Try.prog h' 3 ab 0 = some (.int .i64 x.1) := fun {h'} g => ldc g ta3 rfl
    have lkp : ∀ {h' : Heap}, h'.get ab = some (.cells (aqC x) false) → aload Try.prog h' 4 ab 4 = some (.bool x.2.2.2.2.1) := fun {h'} g => ldc g ta4 rfl
    have lka : ∀ {h' : Heap}, h'.get ab = some (.cells (aqC x) false) → aload Try.prog h' 41 ab 0 = some (.agg (aqC x)) := fun {h'} g => by simp [aload, Heap.row, g, ta41, ts41, aqC]
    obtain ⟨g3, abl⟩ := blk W3.b
    have k3 := lk g3
    have d3 := lkd g3
    have p3 := lkp g3
    have a3 := lka g3
    have hi2 : i < a2.length ∧ i < 60 := by omega
    have w11 := i64w ((i : Int) + 1) (by omega) (by omega)
    by_cases hkl : (key.size : Int) ≤ 250
    case neg =>
      simp [q0, q2, q7, q9, q11, l2, isLt (show (i : Int) < (a2.length : Int) by omega), isLt (show (i : Int) < 60 by omega), ae, ixa, lda, rwx, hab, aqC_len, ly, e3, k3, isLt (show (250 : Int) < (key.size : Int) by omega), w11]
      refine ⟨M - (i + 1), by omega, ?_⟩
      unfold PInv
      exact ⟨i + 1, z, q, rfl, by omega, ⟨by simp [q0], by simp [q2], by simp [q7], by simp [q9], by simp⟩, W3.drop, H⟩
    have ksz : key.size ≤ 1000 := by omega
    have small := H.i.small
    simp [q0, q2, q7, q9, q11, l2, isLt (show (i : Int) < (a2.length : Int) by omega), isLt (show (i : Int) < 60 by omega), ae, ixa, lda, rwx, hab, aqC_len, ly, e3, k3, hkl, d3, -W_block]
    rw [W_block]
    simp [q0, q2, q7, q9, q11, l2, isLt (show (i : Int) < (a2.length : Int) by omega), isLt (show (i : Int) < 60 by omega), ae, ixa, lda, rwx, hab, aqC_len, ly, e3, k3, hkl, d3, -W_block]
    refine W_cutN (fun st => PT st.t P v2 b rb i ∧ ∃ (z' : Sto) (q' : Rst), Wd h st.h (PRow z' b q' rb) ∧ PP P Q z' q') ?_ ?_
    · have sav : sameAVs (aqC x) (aqC x) = true := by simp [aqC, sameAVs, sameAV]
      by_cases c1 : x.1 = 1
      · obtain ⟨h4, E4, K4⟩ := idata_ok (k + 8) h3 x
        have W4 := W3.ext K4
        have dsz := aqD_le x
        obtain ⟨z5, w, wv, er, h5, E5, S5, I5, P5⟩ := iput_ok H.i (k + 4) (by omega) (own_append.1 W4.a).1 key (aqD x) ksz (by omega) x.2.2.2.2.1
        have W5 : Wd h h5 ((q.th rb z.L ++ [(.ptr ab 0, .blk (aqC x))]) ++ (z5.th b ++ [(wv, .vec 1 w.length (w.map AV.str))])) := by
          have a := W4.op ((Stp.refl W4.a).op S5)
          refine a.perm ?_
          rw [List.append_assoc]
          exact List.perm_append_comm
        obtain ⟨g4, _⟩ := blk W4.b
        have p4 := lkp g4
        have ag4 : Agree h3.next h3 h4 := fun c hc => K4.2 c hc id
        obtain ⟨g5, abl5⟩ := blk (own_append.1 W5.a).2.1
        have k5 := lk g5
        have a5 := lka g5
        obtain ⟨h6, E6, K6⟩ := idata_ok (k + 8) h5 x
        have W6 := W5.ext K6
        have ag6 : Agree h5.next h5 h6 := fun c hc => K6.2 c hc id
        have p6 := lkp (blk (own_append.1 W6.a).2.1).1
        obtain ⟨q7', wv2, h7, E7, S7, R7⟩ := rput_ok H.i.sl H.r P5 H.i.nd (by omega) ksz (by omega) (k + 5) (by omega) (own_append.1 W6.a).1
        have W7 := W6.op ((Stp.refl W6.a).op S7)
        have Mw2 : Mine 1 w.length h7 wv2 (w.map ss) := (own_append.1 (own_append.1 W7.a).1).2.1.get (i := 0) (v := wv2) (o := .vec 1 w.length (w.map AV.str)) rfl
        have Mw : Mine 1 w.length h7 wv (w.map ss) := (own_append.1 W7.b).2.1.get (i := 0) (v := wv) (o := .vec 1 w.length (w.map AV.str)) rfl
        have hw : w.length ≤ 70000 := by have := P5.wlen; omega
        have E8 := sameS_ok (k + 9) h7 wv wv2 w Mw.sl Mw2.sl (by omega) (by omega)
        have W8 : Wd h h7 (PRow z5 b q7' rb) := (W7.perm (perm5 _ _ _ _ _)).drop
        simp [c1]
        refine W_split 7 h3.next (by rfl) (by kernel_rfl) (by rfl) ?_
        dsimp only [List.take, List.drop]
        simp [obl, mayEff, mayRead, sameAV, sav, abl, q7, k3, a3, E4, ag4, p4, E5, -W_cond]
        refine W_split 7 h5.next (by rfl) (by kernel_rfl) (by rfl) ?_
        dsimp only [List.take, List.drop]
        simp [obl, mayEff, mayRead, sameAV, sav, abl5, q9, k5, a5, E6, ag6, p6, E7, E8]
        exact ⟨⟨by simp [q0], by simp [q2], by simp [q7], by simp [q9], by simp [q11]⟩, z5, q7', W8, I5, R7⟩
      by_cases c2 : x.1 = 2
      · obtain ⟨z4, h4, E4, S4, I4, T4, e4⟩ := iget_ok H.i (k + 4) (by omega) (own_append.1 W3.a).1 key ksz
        have W4 := W3.op ((Stp.refl W3.a).op S4)
        have k4 := lk (blk W4.b).1
        obtain ⟨q5', h5, E5, S5, R5⟩ := rget_ok H.i.sl H.r T4 H.i.nd H.i.rd (by omega) ksz (k + 6) (by omega) (own_append.1 W4.a).2.1
        have W5 := (W4.op ((Stp.refl W4.a).opB S5)).drop
        simp [c2, q7, q9, k3, E4, k4, E5]
        exact ⟨⟨by simp [q0], by simp [q2], by simp [q7], by simp [q9], by simp [q11]⟩, z4, q5', W5, I4, by rw [e4]; exact R5⟩
      by_cases c3 : x.1 = 3
      · obtain ⟨v4, h4, E4, M4, f4, K4⟩ := ikeys_ok H.i (k + 9) (by omega) (own_append.1 W3.a).1
        have W4 := W3.ext K4
        have k4 := lk (blk W4.b).1
        obtain ⟨h5, E5, K5⟩ := ipeek_ok H.i (k + 5) (by omega) (own_append.1 W4.a).1 key ksz
        have W5 := W4.ext K5
        have s5 : Sl 1 z.L.length h5 v4 (ks z.L) := M4.sl.ext K5
        simp [c3, q7, q9, k3, E4, k4, E5]
        refine W_cutLoop 3 (fun st => PT st.t P v2 b rb i ∧ st.t.get 12 = some (.ptr ab 0) ∧ st.t.get 21 = some v4 ∧ Wd h st.h (PRow z b q rb ++ [(.ptr ab 0, .blk (aqC x))]) ∧ Sl 1 z.L.length st.h v4 (ks z.L)) ?_ ?_
        · refine W_loop (fun m st => ∃ j : Nat, m = z.L.length - j ∧ j ≤ z.L.length ∧ PT st.t P v2 b rb i ∧ st.t.get 12 = some (.ptr ab 0) ∧ st.t.get 21 = some v4 ∧ st.t.get 22 = some (.str (((findK key z.L).map (·.data)).getD .empty)) ∧ st.t.get 23 = some (.bool (findK key z.L).isSome) ∧ st.t.get 24 = some (.int .i64 (j : Nat)) ∧ Wd h st.h (PRow z b q rb ++ [(.ptr ab 0, .blk (aqC x))]) ∧ Sl 1 z.L.length st.h v4 (ks z.L)) z.L.length (by omega)
            ⟨0, rfl, Nat.zero_le _, ⟨by simp [q0], by simp [q2], by simp [q7], by simp [q9], by simp [q11]⟩, by simp, by simp, by simp, by simp, by simp, W5, s5⟩ ?_
          clear q0 q2 q7 q9 q11
          rintro m ⟨t, h6⟩ ⟨j, rfl, hj, ⟨q0, q2, q7, q9, q11⟩, q12, q21, q22, q23, q24, W6, s6⟩
          simp only at q0 q2 q7 q9 q11 q12 q21 q22 q23 q24 W6 s6
          obtain ⟨O2, O3⟩ := rst_hold (own_append.1 W6.a).2.1
          obtain ⟨l0, l1⟩ := r2_ld O2
          have M6 := r2_lv O2
          have lm := M6.sl.len'
          have k6 := lk (blk W6.b).1
          by_cases hlj : j < z.L.length
          case neg =>
            simp [q0, q2, q7, q9, q11, q12, q21, q22, q23, q24, l1, lm, isLe (show (z.L.length : Int) ≤ (j : Int) by omega)]
            exact ⟨⟨by simp [q0], by simp [q2], by simp [q7], by simp [q9], by simp [q11]⟩, W6, s6⟩
          obtain ⟨y, hy⟩ : ∃ y, z.L[j]? = some y := ⟨_, List.getElem?_eq_getElem hlj⟩
          have ix := rC_idx M6 hlj
          have ld := rC_ld M6 hy (o := 0) (x := .str y.key) (by omega) rfl (ty := 9) ta9
          rw [Nat.add_zero] at ld
          have hd := rC_hnd M6 hy (ty := 58) ta58 ts58
          have w24 := i64w ((j : Int) + 1) (by omega) (by omega)
          by_cases hyk : y.key = key
          · have hm := List.mem_of_getElem? hy
            have fk : findK key z.L = some y := (findK_iff H.i.nd).2 ⟨hm, hyk⟩
            obtain ⟨h7, E7, K7⟩ := r_read H.i.sl H.r (k + 8) (by omega) y.ci y.ch h6 q.rb q.rv O3
            rw [H.i.rd y hm, hyk] at E7
            simp at E7
            have sl := aslice_strFrom (P := Try.prog) (ty := 9) Try.underlying9 (s := key ++ y.data) (k := .i64) (n := (key.size : Nat)) (by omega) (by rw [ByteArray.size_append]; omega)
            rw [Int.toNat_natCast, ba_from] at sl
            rw [fk] at q22 q23
            simp at q22 q23
            have W7 := W6.ext K7
            have k7 := lk (blk W7.b).1
            simp [q0, q2, q7, q9, q11, q12, q21, q22, q23, q24, l0, l1, lm, isLt (show (j : Int) < (z.L.length : Int) by omega), ix, ld, k6, hyk, hd, E7, k7, sl, w24]
            exact ⟨z.L.length - (j + 1), by omega, j + 1, rfl, by omega, ⟨by simp [q0], by simp [q2], by simp [q7], by simp [q9], by simp [q11]⟩, by simp [fk], by simp [fk], by simp, W7, s6.ext K7⟩
          · simp [q0, q2, q7, q9, q11, q12, q21, q22, q23, q24, l0, l1, lm, isLt (show (j : Int) < (z.L.length : Int) by omega), ix, ld, k6, hyk, w24]
            exact ⟨z.L.length - (j + 1), by omega, j + 1, rfl, by omega, ⟨by simp [q0], by simp [q2], by simp [q7], by simp [q9], by simp [q11]⟩, by simp, W6, s6⟩
        clear q0 q2 q7 q9 q11
        rintro ⟨t, h6⟩ ⟨⟨q0, q2, q7, q9, q11⟩, q12, q21, W6, s6⟩
        simp only at q0 q2 q7 q9 q11 q12 q21 W6 s6
        obtain ⟨v7, h7, E7, M7, f7, K7⟩ := ikeys_ok H.i (k + 9) (by omega) (own_append.1 W6.a).1
        have W7 := W6.ext K7
        have s7 := s6.ext K7
        have t7 := M7.sl
        have ek : ks z.L = (z.L.map (·.key)).map ss := by simp [ks, ss]
        have el : z.L.length = (z.L.map (·.key)).length := by simp
        rw [ek, el] at s7 t7
        have E8 := sameS_ok (k + 9) h7 v7 v4 _ t7 s7 (by simp; omega) (by simp; omega)
        simp [q7, q21, E7, E8]
        exact ⟨⟨by simp [q0], by simp [q2], by simp [q7], by simp [q9], by simp [q11]⟩, z, q, W7.drop, H⟩
      by_cases c4 : x.1 = 4
      · obtain ⟨z4, h4, E4, S4, I4, T4, e4⟩ := ipin_ok H.i (k + 6) (by omega) (own_append.1 W3.a).1 key ksz x.2.2.2.2.1
        have W4 := W3.op ((Stp.refl W3.a).op S4)
        obtain ⟨g4, _⟩ := blk W4.b
        have k4 := lk g4
        have p4 := lkp g4
        obtain ⟨h5, E5, S5⟩ := rpin_ok T4 H.i.nd (by omega) (k + 6) (by omega) (own_append.1 W4.a).2.1
        have W5 := (W4.op ((Stp.refl W4.a).opB S5)).drop
        have G4 : AgreeG (fun c => c = ab) h3 h4 := fun c hc => by rw [hc, g4, g3]
        simp [c4]
        refine W_lateG [0, 0, 2, 0, 8, 31, 0, 0, 128, 0, 512, 2047, 4095] [] 11 (fun c => c = ab) (by rfl) (by kernel_rfl) (by kernel_rfl) (by kernel_rfl) (by kernel_rfl) (fun c hc => by rw [hc]; exact abl) ?_
        simp [resv, nextOk, freeOk, memN, isEff, isAlloc, isStore, mayEff, mayRead, insFl, oblG, sameAV, q7, q9, k3, p3, E4, G4, k4, p4, E5]
        exact ⟨⟨by simp [q0], by simp [q2], by simp [q7], by simp [q9], by simp [q11]⟩, z4, q, W5, I4, by rw [e4]; exact H.r⟩
      by_cases c5 : x.1 = 5
      · obtain ⟨z4, h4, E4, S4, I4, D4⟩ := idrop_ok H.i (k + 5) (by omega) (own_append.1 W3.a).1 key ksz
        have W4 := W3.op ((Stp.refl W3.a).op S4)
        obtain ⟨g4, _⟩ := blk W4.b
        have k4 := lk g4
        obtain ⟨q5', h5, E5, S5, R5⟩ := rdrop_ok H.i.sl H.r D4 H.i.nd (by omega) (k + 6) (by omega) (own_append.1 W4.a).2.1
        have W5 := (W4.op ((Stp.refl W4.a).opB S5)).drop
        have G4 : AgreeG (fun c => c = ab) h3 h4 := fun c hc => by rw [hc, g4, g3]
        simp [c5]
        refine W_lateG [0, 0, 2, 7, 0, 0, 32, 127, 255] [] 7 (fun c => c = ab) (by rfl) (by kernel_rfl) (by kernel_rfl) (by kernel_rfl) (by kernel_rfl) (fun c hc => by rw [hc]; exact abl) ?_
        simp [resv, nextOk, freeOk, memN, isEff, isAlloc, isStore, mayEff, mayRead, insFl, oblG, sameAV, q7, q9, k3, E4, G4, k4, E5]
        exact ⟨⟨by simp [q0], by simp [q2], by simp [q7], by simp [q9], by simp [q11]⟩, z4, q5', W5, I4, R5⟩
      simp [c1, c2, c3, c4, c5]
      exact ⟨⟨by simp [q0], by simp [q2], by simp [q7], by simp [q9], by simp [q11]⟩, z, q, W3.drop, H⟩
    clear q0 q2 q7 q9 q11 W3 H small
    rintro ⟨t, h5⟩ ⟨⟨q0, q2, q7, q9, q11⟩, z, q, W5, H⟩
    simp only at q0 q2 q7 q9 q11 W5
    have small := H.i.small
    have tot := H.tot
    have E5 := ipages_ok (k + 8) W5.a
    obtain ⟨v6, h6, E6, M6, f6, K6⟩ := ikeys_ok H.i (k + 9) (by omega) W5.a
    have W6 := W5.ext K6
    obtain ⟨v7, h7, E7, M7, f7, K7⟩ := rskeys_ok (by omega) (k + 9) (by omega) W6.b
    have W7 := W6.ext K7
    have s6 := M6.sl.ext K7
    have s7 := M7.sl
    have ek : ks z.L = (z.L.map (·.key)).map ss := by simp [ks, ss]
    have el : z.L.length = (z.L.map (·.key)).length := by simp
    rw [ek, el] at s6 s7
    have E8 := sameS_ok (k + 9) h7 v6 v7 _ s6 s7 (by simp; omega) (by simp; omega)
    have E9 := ilen_ok H.i (k + 8) W7.a
    obtain ⟨O2, O3⟩ := rst_hold W7.b
    obtain ⟨l0, l1⟩ := r2_ld O2
    have lm := (r2_lv O2).sl.len'
    have sl := (r2_lv O2).sl.same
    have rbl : rb < h5.next := (r2_blk (rst_hold W5.b).1).2
    have lf := RO.ld1 O3 (ty := 3) ta3
    rw [H.r.left] at lf
    have ag6 : Agree h5.next h5 h6 := fun c hc => K6.2 c hc id
    have ag7 : Agree h5.next h6 h7 := fun c hc => K7.2 c (by have := K6.1; omega) id
    have agr : Agree h5.next h7 h7 := fun _ _ => rfl
    have wt : fwrap .i64 ((z.s.used : Int) + z.s.left) = (P : Nat) := by rw [i64w _ (by omega) (by omega)]; omega
    simp [q7, E5]
    refine W_split 13 h5.next (by rfl) (by kernel_rfl) (by rfl) ?_
    dsimp only [List.take, List.drop]
    simp [obl, mayEff, mayRead, sameAV, q0, q7, q9, q11, E6, ag6, E7, ag7, E8, agr, E9, l0, l1, lm, sl, rbl, lf, wt, w11]
    refine ⟨M - (i + 1), by omega, ?_⟩
    unfold PInv
    exact ⟨i + 1, z, q, rfl, by omega, ⟨by simp [q0], by simp [q2], by simp [q7], by simp [q9], by simp⟩, W7, H⟩
  rintro ⟨t, h2⟩ _
  simp


theorem own : ownKnob Try.prog.godebug = none := by kernel_rfl
theorem laid : laidOutB Try.prog = true := by kernel_rfl

set_option maxRecDepth 100000 in
theorem lifted (os : Os) (started : os.Started) (H : Type) (enc : TypeId × Value → H) :
    ReturnsInHanded {} Try.checked os 7 .any (Rows.itemPlaysSpec.pre6 enc Try.prog Try.f7 Rows.itemPlaysRow.domain false) (Rows.itemPlaysSpec.post enc Try.prog Try.f7 false true false false) := by
  refine returnsInHanded_of_change (C := Try.checked) own started (by kernel_rfl) Try.func7
    (ChangeSpec.witness6 (enc := enc) (C := Try.checked) false ⟨#[], #[.int .i64 0, .int .i64 0, .slice none 0 0], []⟩ 8 (by kernel_rfl) (by kernel_rfl) (by kernel_rfl) (by kernel_rfl)) ?_
  intro W base args ds gs before hval0 hW hcnd _
  have hval : ∀ (j : Nat) t v, Try.f7.params.toList[j]? = some t → args.toList[j]? = some v → Value.okWide Try.prog W .any base t v := fun j t v h1 h2 => hval0 j t v (by simpa using h1) (by simpa using h2)
  have hW' := hW
  obtain ⟨p, q, hA0, hV, rfl, hfz, hnd⟩ := hW
  have hA : DataW.TrodAll enc Try.prog W 0 (fun _ => true) true Try.f7.params.toList args.toList ds p := hA0
  obtain ⟨rfl, rfl⟩ := trodVars_none hV
  have hlt : ∀ x ∈ p, x.block < W.heap.size := fun x hx => hW'.lt x (by simp [hx])
  have hps : Try.f7.params.toList = [3, 3, 37] := by rw [Try.params7]
  rw [hps] at hA hval
  obtain ⟨m, h, avs, x, g1, _, _, g2, g3, g4⟩ := (good_as1 (good_int Try.underlying3 (by kernel_rfl)) rfl (by kernel_rfl) (good_as1 (good_int Try.underlying3 (by kernel_rfl)) rfl (by kernel_rfl) (good_as1 (good_slice Try.underlying37 (by kernel_rfl) (by decide) (good_struct Try.underlying41 (by kernel_rfl) (good_fs rfl (good_int Try.underlying3 (by kernel_rfl)) (good_fs rfl (good_int Try.underlying3 (by kernel_rfl)) (good_fs rfl (good_str Try.underlying9 (by kernel_rfl)) (good_fs rfl (good_str Try.underlying9 (by kernel_rfl)) (good_fs rfl (good_bool Try.underlying4 (by kernel_rfl)) (good_fs0 _)))))))) rfl (by kernel_rfl) good_as0))) H enc W base args.toList ds p hval hA _ _ (HRo.start W)
  obtain ⟨a0, a1, a2, _⟩ := x
  obtain ⟨_, _, rfl, ⟨e0, w0⟩, ⟨_, _, rfl, ⟨e1, w1⟩, ⟨v2, _, rfl, ⟨u2, e2, w2⟩, rfl⟩⟩⟩ := g3
  obtain rfl := (List.cons.inj e0).1
  obtain rfl := (List.cons.inj e1).1
  obtain rfl := (List.cons.inj e2).1
  have hcall := law_any mixed (k := 3000000 + 10) Try.func7 (by kernel_rfl) runs_ok g1 g2 (law_run 3000000 (by decide) h a0 w0 a1 w1 v2 a2 w2)
  refine hcall.mono fun e W' ⟨he, hg⟩ => ?_
  subst he
  simp only [List.append_nil] at hW' hA0 ⊢
  have hlen : ds.length = 3 := trodAll_len hA
  have hvars : (Rows.itemPlaysSpec.fn H (ds ++ [])).vars = [] ∧ (Rows.itemPlaysSpec.fn H (ds ++ [])).args = ds ∧ (Rows.itemPlaysSpec.fn H (ds ++ [])).results = [.lit (.bool true)] := by
    rw [List.append_nil]
    match ds, hlen with
    | [d0, d1, d2], _ => exact ⟨rfl, rfl, rfl⟩
  obtain ⟨hv1, hv2, hv3⟩ := hvars
  refine ⟨_, rfl, law_post hW' rfl hg (fun _ _ _ => ?_) (fun sp hsp => ?_) hv1
    (ok_one (by kernel_rfl) rfl (okWide_bool_mk Try.underlying4 _))⟩
  · rw [hv3]
    exact (trodAll_cons_mk (shut_bool Try.underlying4 _) trodAll_mk0)
  · have hA1 := trodAll_below laid hg sp (ts := [3, 3, 37]) (by decide +kernel) hlt hsp hA
    rw [hv2, hps]
    exact hA1

theorem over : Rows.itemPlaysRow.holds Try.pinned (OpenSpec.ofChange Rows.itemPlaysSpec) :=
  OpenClaim.holds_of_wide 7 Try.f7 rfl rfl rfl rfl rfl rfl rfl ⟨rfl, rfl, rfl, rfl, rfl⟩ rfl rfl rfl rfl rfl (by kernel_rfl) Try.func7 (by kernel_rfl)
    (of_decide_eq_true (by kernel_rfl)) (by unfold Func.isWrapper; first | (rw [if_pos (by decide +kernel)]; kernel_rfl) | (rw [if_neg (by decide +kernel)]; exact ⟨rfl, rfl⟩))
    (fun os started H enc _ => lifted os started H enc)

/-- The statement. -/
theorem proved : Rows.ItemPlaysSaid :=
  over
#print axioms proved
end Go.Proofs.Ytelnkdgpghndgaa.cItemPlays
