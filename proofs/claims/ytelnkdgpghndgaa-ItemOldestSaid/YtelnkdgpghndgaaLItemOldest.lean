/- The law ItemOldest returns true for every input, and its input reads behind the call as it did; no conditions. The kit's model is followed by an abstract machine that is shown to tell what the model does; the contracts of the functions are proved over that machine. -/
import Derived.Test.YtelnkdgpghndgaaRows
import Derived.Test.YtelnkdgpghndgaaItemOldestA
import Derived.Test.YtelnkdgpghndgaaItemOldestB
import Derived.WalkKit
import Derived.ProofKit
import Derived.OpenShut
import Derived.JoinedCond
namespace Go.Proofs.Ytelnkdgpghndgaa.cItemOldest
open Go Go.ChangeShapes Go.WideShapes Go.ChangeAt Go.RowKit Go.YtelnkdgpghndgaaAbs
set_option linter.unusedSimpArgs false
set_option linter.unusedVariables false

set_option maxRecDepth 4000
theorem list_last {α : Type} : ∀ {l : List α}, l ≠ [] → ∃ m x, l = m ++ [x]
  | [], h => absurd rfl h
  | [x], _ => ⟨[], x, rfl⟩
  | x :: y :: l, _ => by
    obtain ⟨m, z, e⟩ := list_last (l := y :: l) (by simp)
    exact ⟨x :: m, z, by rw [e]; rfl⟩
def hasK (k : ByteArray) (W : List ByteArray) : Bool := W.any fun x => decide (x = k)
theorem hasK_iff {k : ByteArray} {W : List ByteArray} : hasK k W = true ↔ k ∈ W := by
  unfold hasK
  rw [List.any_eq_true]
  constructor
  · rintro ⟨x, hx, e⟩
    rw [← of_decide_eq_true e]
    exact hx
  · intro h
    exact ⟨k, h, decide_eq_true rfl⟩
theorem filter_id {W : List ByteArray} {k : ByteArray} (h : k ∉ W) : W.filter (fun x => decide (x ≠ k)) = W := by
  rw [List.filter_eq_self]
  intro a ha
  exact decide_eq_true fun e => h (e ▸ ha)
theorem filter_cut {A B : List ByteArray} {k : ByteArray} (h : (A ++ k :: B).Nodup) : (A ++ k :: B).filter (fun x => decide (x ≠ k)) = A ++ B := by
  obtain ⟨_, h1, h2⟩ := nodup_cut h
  rw [List.filter_append, List.filter_cons, filter_id h1, filter_id h2]
  simp
/-- What holds whenever one is touched. -/
def OlInv (n : Nat) (h : Heap) (b : Nat) (v1 : AV) (M m : Nat) (st : St) : Prop :=
  ∃ (i : Nat) (z : Sto) (W : List ByteArray) (wv : AV), m = M - i ∧ i ≤ M ∧ st.t.get 1 = some v1 ∧ st.t.get 5 = some (.int .i64 (n : Nat)) ∧ st.t.get 6 = some (.ptr b 0) ∧ st.t.get 8 = some wv ∧ st.t.get 9 = some (.int .i64 (i : Nat)) ∧
    Wd h st.h (z.th b ++ [(wv, .vec 1 W.length (W.map ss))]) ∧ StI n 64 z ∧ One z.s ∧ z.L.map (·.key) = W ∧ W.length ≤ n ∧ ∀ y, y ∈ z.L → y.pin = false
/-- .. while what was wanted is gone through. -/
def OlIn (n : Nat) (h : Heap) (b : Nat) (v1 : AV) (i : Nat) (z : Sto) (W : List ByteArray) (wv : AV) (k : ByteArray) (q : Bool) (m : Nat) (st : St) : Prop :=
  ∃ (j : Nat) (l : List ByteArray) (lv : AV), m = W.length - j ∧ j ≤ W.length ∧ l = (W.take j).filter (fun x => decide (x ≠ k)) ∧ st.t.get 1 = some v1 ∧ st.t.get 5 = some (.int .i64 (n : Nat)) ∧ st.t.get 6 = some (.ptr b 0) ∧ st.t.get 8 = some wv ∧ st.t.get 9 = some (.int .i64 (i : Nat)) ∧
    st.t.get 10 = some (.str k) ∧ st.t.get 12 = some (.bool q) ∧ st.t.get 13 = some lv ∧ st.t.get 14 = some (.bool (hasK k (W.take j))) ∧ st.t.get 15 = some (.int .i64 (j : Nat)) ∧
    Wd h st.h (z.th b ++ [(wv, .vec 1 W.length (W.map ss)), (lv, .vec 1 l.length (l.map ss))])
set_option maxHeartbeats 4000000 in
theorem law_run (k : Nat) (hk : 500000 < k) (h : Heap) (a0 : Int) (w0 : (Lit.int .i64 a0).wf = true) (v1 : AV) (a1 : (List Int)) (w1 : SlA (kInt .i64) h v1 a1) :
    ∃ v h', afuncT Try.prog [] (orRuns 3 (acall Try.prog (k + 10))) (k + 10) Try.f5 [.int .i64 a0, v1] h = some (v, h') ∧ v = .bool true := by
  obtain ⟨S1, _⟩ := sla_ints w1
  obtain ⟨n, En, n1, n2⟩ := within_n (k + 9) a0 1 8 (by omega) (by omega) (by omega) h
  obtain ⟨b, z0, h1, E1, W1, I1, L1, _, _, cls, hs1, F1, c1, c2, c3⟩ := inew_ok (k + 8) (by omega) h n 64 (by omega) (by omega) (by omega) (by omega)
  have E1 : acall Try.prog (k + 10) 8 [.int .i64 (n : Nat), .int .i64 64] h = some (.tup [.ptr b 0, .int .i64 0], h1) := E1
  have one1 : One z0.s := by
    have hl : cls.length = 1 := by
      have : ¬ 2 ≤ cls.length := fun q => by
        have : 2 ^ 1 ≤ 2 ^ (cls.length - 1) := Nat.pow_le_pow_right (by omega) (by omega)
        omega
      omega
    obtain ⟨c, hc⟩ : ∃ c, cls = [c] := by
      match cls, hl with
      | [c], _ => exact ⟨c, rfl⟩
    unfold One
    rw [hs1, hc]
    have := (F1 0 c (by rw [hc]; rfl)).1
    simpa using this
  have ae : aeql Try.prog 22 (.ptr b 0) .nilp = some false := by rfl
  have sx : (⟨#[120]⟩ : ByteArray).size = 1 := rfl
  refine afuncT_ex rfl (by simp [Try.f5]) ?_
  simp [Try.f5, En, E1, ae]
  obtain ⟨M, hM⟩ : ∃ M, M = min a1.length 60 := ⟨_, rfl⟩
  refine W_cutLoop 0 (fun st => True) ?_ ?_
  · refine W_loop (OlInv n h b v1 M) M (by omega) ?_ ?_
    · unfold OlInv
      have W2 := W1.snoc (Keep.refl _ _ _) (v := .nils) (o := .vec 1 0 []) (Mine.nil 1 h1) (fun d hd => by cases hd)
      exact ⟨0, z0, [], .nils, rfl, Nat.zero_le _, by simp, by simp, by simp, by simp, by simp, W2, I1, one1, by rw [L1]; rfl, Nat.zero_le _, fun y hy => by rw [L1] at hy; cases hy⟩
    rintro m ⟨t, h2⟩ hP
    unfold OlInv at hP
    obtain ⟨i, z, W, wv, rfl, hi, q1, q5, q6, q8, q9, W2, I2, o2, hL, hWn, hp⟩ := hP
    simp only at q1 q5 q6 q8 q9 W2
    have S2 := S1.ext W2.kb
    have l1 := S2.len'
    by_cases hlt : i < M
    case neg =>
      by_cases h3 : i < a1.length
      · simp [q1, q5, q6, q8, q9, l1, isLt (show (i : Int) < (a1.length : Int) by omega), isLe (show (60 : Int) ≤ (i : Int) by omega)]
      · simp [q1, q5, q6, q8, q9, l1, isLe (show (a1.length : Int) ≤ (i : Int) by omega)]
    obtain ⟨a, ha⟩ : ∃ a, a1[i]? = some a := ⟨_, List.getElem?_eq_getElem (by omega)⟩
    have ixa := S2.idx1 (P := Try.prog) Try.underlying44 ts3 (j := i) (by omega) .i64
    have lda : aload Try.prog h2 3 v1.blk (v1.off + i) = some (.int .i64 a) := S2.ld ta3 (ii_get ha)
    obtain ⟨x, Ex, x1, x2⟩ := within_n (k + 9) a 0 20 (by omega) (by omega) (by omega) h2
    have w97 : fwrap .i64 (97 + (x : Int)) = 97 + (x : Int) := i64w _ (by omega) (by omega)
    obtain ⟨c, fx, cv⟩ := keyA_conv h2 x (by omega) true
    have W3 := W2.ext (Keep.new (Nat.le_refl _) (.cells [.int .u8 (c.toNat : Nat)] false))
    obtain ⟨h3, e3⟩ : ∃ h3, h2.new (.cells [.int .u8 (c.toNat : Nat)] false) = h3 := ⟨_, rfl⟩
    rw [e3] at W3 cv
    obtain ⟨key, hkey⟩ : ∃ key, keyA x = key := ⟨_, rfl⟩
    have ksz : key.size = 1 := by rw [← hkey]; exact keyA_size x
    rw [hkey] at cv
    obtain ⟨z4, h4, E4, S4, I4, T4, es4⟩ := iget_ok I2 (k + 4) (by omega) W3.a key (by omega)
    have W4 := W3.op S4
    have o4 : One z4.s := by rw [es4]; exact o2
    have hsome : (findK key z.L).isSome = hasK key W := by
      cases hf : findK key z.L with
      | none =>
        refine (Bool.eq_false_iff.2 fun q => ?_).symm
        have q := hasK_iff.1 q
        rw [← hL] at q
        obtain ⟨y, hy, e⟩ := List.mem_map.1 q
        exact findK_none.1 hf y hy e
      | some y =>
        obtain ⟨hy, e⟩ := findK_mem hf
        exact (hasK_iff.2 (by rw [← hL, ← e]; exact List.mem_map.2 ⟨y, hy, rfl⟩)).symm
    rw [hsome] at E4
    have nd2 := I2.nd
    rw [hL] at nd2
    have hp4 : ∀ y, y ∈ z4.L → y.pin = false := fun y hy => hp y ((touch_get T4 y).1 hy)
    have len2 : z.L.length = W.length := by rw [← hL, List.length_map]
    have hM' : i < a1.length ∧ i < 60 := by omega
    simp [q1, q5, q6, q8, q9, l1, isLt (show (i : Int) < (a1.length : Int) by omega), isLt (show (i : Int) < 60 by omega), ixa, lda, Ex, w97, fx, aalloc, afill, e3, cv, E4]
    refine W_cutLoop 2 (fun st => OlIn n h b v1 i z4 W wv key (hasK key W) 0 st) ?_ ?_
    · refine W_loop (OlIn n h b v1 i z4 W wv key (hasK key W)) W.length (by omega) ?_ ?_
      · unfold OlIn
        have W5 := W4.snoc (Keep.refl _ _ _) (v := .nils) (o := .vec 1 0 []) (Mine.nil 1 h4) (fun d hd => by cases hd)
        rw [List.append_assoc] at W5
        exact ⟨0, [], .nils, rfl, Nat.zero_le _, rfl, by simp [q1], by simp [q5], by simp [q6], by simp [q8], by simp [q9], by simp, by simp, by simp, by simp [hasK], by simp, W5⟩
      clear q1 q5 q6 q8 q9
      rintro m ⟨t, h5⟩ hP
      unfold OlIn at hP
      obtain ⟨j, l, lv, rfl, hj, hl, q1, q5, q6, q8, q9, q10, q12, q13, q14, q15, W5⟩ := hP
      simp only at q1 q5 q6 q8 q9 q10 q12 q13 q14 q15 W5
      have Mw : Mine 1 W.length h5 wv (W.map ss) := W5.b.get (i := 0) (v := wv) (o := .vec 1 W.length (W.map ss)) rfl
      have Ml : Mine 1 l.length h5 lv (l.map ss) := W5.b.get (i := 1) (v := lv) (o := .vec 1 l.length (l.map ss)) rfl
      have lw := Mw.sl.len'
      have hll : l.length ≤ 60 := by
        rw [hl]
        have := List.length_filter_le (fun x => decide (x ≠ key)) (W.take j)
        rw [List.length_take] at this
        omega
      by_cases hlt2 : j < W.length
      case neg =>
        have e : j = W.length := by omega
        simp [q1, q5, q6, q8, q9, q10, q12, q13, q14, q15, lw, isLe (show (W.length : Int) ≤ (j : Int) by omega)]
        unfold OlIn
        exact ⟨j, l, lv, by omega, hj, hl, by simp [q1], by simp [q5], by simp [q6], by simp [q8], by simp [q9], by simp [q10], by simp [q12], by simp [q13], by simp [q14], by simp [q15], W5⟩
      obtain ⟨y, hy⟩ : ∃ y, W[j]? = some y := ⟨_, List.getElem?_eq_getElem hlt2⟩
      have ixw := Mw.sl.idx1 (P := Try.prog) Try.underlying26 ts9 (j := j) hlt2 .i64
      have ldw : aload Try.prog h5 9 wv.blk (wv.off + j) = some (.str y) := Mw.sl.ld ta9 (ss_get hy)
      have w15 := i64w ((j : Int) + 1) (by omega) (by omega)
      by_cases hyk : y = key
      · subst hyk
        simp [q1, q5, q6, q8, q9, q10, q12, q13, q14, q15, lw, isLt (show (j : Int) < (W.length : Int) by omega), ixw, ldw, w15]
        refine ⟨W.length - (j + 1), by omega, ?_⟩
        unfold OlIn
        exact ⟨j + 1, l, lv, rfl, by omega, by rw [hl, List.take_add_one, hy, List.filter_append]; simp, by simp [q1], by simp [q5], by simp [q6], by simp [q8], by simp [q9], by simp [q10], by simp [q12], by simp [q13], by simp [hasK, List.take_add_one, hy], by simp, W5⟩
      · obtain ⟨lv', h6, a6, M6, F6, K6⟩ := Ml.push (P := Try.prog) el26 (a := [ss y]) (ex := true) rfl rfl (by omega)
        have M6' : Mine 1 (l ++ [y]).length h6 lv' ((l ++ [y]).map ss) := by simpa using M6
        have W6 := W5.opB ((Stp.refl W5.b).upd (i := 1) (v := lv) (o := .vec 1 l.length (l.map ss)) rfl K6 (v' := lv') (o' := .vec 1 (l ++ [y]).length ((l ++ [y]).map ss)) M6' F6)
        have a6 : aappend Try.prog (h5.new (.cells [.str y] false)) 26 26 lv (.sl h5.next 0 1 1 1 true) = some (lv', h6) := a6
        simp [q1, q5, q6, q8, q9, q10, q12, q13, q14, q15, lw, isLt (show (j : Int) < (W.length : Int) by omega), ixw, ldw, w15, hyk, aalloc, afill, a6]
        refine ⟨W.length - (j + 1), by omega, ?_⟩
        unfold OlIn
        exact ⟨j + 1, l ++ [y], lv', rfl, by omega, by rw [hl, List.take_add_one, hy, List.filter_append]; simp [hyk], by simp [q1], by simp [q5], by simp [q6], by simp [q8], by simp [q9], by simp [q10], by simp [q12], by simp, by rw [List.take_add_one, hy]; simp [q14, hyk, hasK], by simp, W6⟩
    clear q1 q5 q6 q8 q9
    rintro ⟨t, h5⟩ hP
    unfold OlIn at hP
    obtain ⟨j, l, lv, hj0, hj, hl, q1, q5, q6, q8, q9, q10, q12, q13, q14, q15, W5⟩ := hP
    simp only at q1 q5 q6 q8 q9 q10 q12 q13 q14 q15 W5
    rw [List.take_of_length_le (by omega)] at hl q14
    have lln : l.length ≤ 60 := by
      rw [hl]
      have := List.length_filter_le (fun x => decide (x ≠ key)) W
      omega
    generalize hQ : hasK key W = Q at q12 q14
    simp [q12, q14, -W_cond]
    rw [W_cond]
    simp [q12, q14, -W_cond]
    refine W_cutN (fun st => ∃ (z5 : Sto), st.t.get 1 = some v1 ∧ st.t.get 5 = some (.int .i64 (n : Nat)) ∧ st.t.get 6 = some (.ptr b 0) ∧ st.t.get 9 = some (.int .i64 (i : Nat)) ∧ st.t.get 10 = some (.str key) ∧ st.t.get 13 = some lv ∧
      Wd h st.h (z5.th b ++ [(wv, .vec 1 W.length (W.map ss)), (lv, .vec 1 l.length (l.map ss))]) ∧ StI n 64 z5 ∧ One z5.s ∧ z5.L.map (·.key) = (key :: l).take n ∧ ∀ y, y ∈ z5.L → y.pin = false) ?_ ?_
    · cases Q with
      | true =>
        simp
        refine ⟨q1, q5, q6, q9, q10, q13, z4, W5, I4, o4, ?_, hp4⟩
        have hkW := hasK_iff.1 hQ
        generalize hx : z.L = X at T4
        generalize hx4 : z4.L = Y at T4
        cases T4 with
        | no hno =>
          rw [← hx] at hno
          rw [← hL] at hkW
          obtain ⟨y, hy, e⟩ := List.mem_map.1 hkW
          exact absurd e (findK_none.1 hno y hy)
        | @yes A B y hk =>
          have e : W = A.map (·.key) ++ key :: B.map (·.key) := by rw [← hL, hx, List.map_append, List.map_cons, hk]
          have e2 : l = A.map (·.key) ++ B.map (·.key) := by rw [hl, e, filter_cut (by rw [← e]; exact nd2)]
          have ln : W.length = l.length + 1 := by rw [e, e2]; simp; omega
          rw [List.take_of_length_le (by simp; omega), List.map_cons, hk, List.map_append, e2]
      | false =>
        have hkW : key ∉ W := fun q => by rw [hasK_iff.2 q] at hQ; cases hQ
        have hno : findK key z4.L = none := by
          refine findK_none.2 fun y hy e => hkW ?_
          rw [← hL, ← e]
          exact List.mem_map.2 ⟨y, (touch_get T4 y).1 hy, rfl⟩
        have e4 : z4.L = z.L := by
          generalize hx : z.L = X at T4
          generalize hx4 : z4.L = Y at T4
          cases T4 with
          | no hno => rfl
          | @yes A B y hk =>
            rw [hx4] at hno
            exact absurd hk (findK_none.1 hno y (by simp))
        have el : l = W := by rw [hl, filter_id hkW]
        obtain ⟨z6, w6, wv6, er6, h6, E6, S6, I6, P6⟩ := iput_ok I4 (k + 4) (by omega) W5.a key ⟨#[120]⟩ (by omega) (by rw [sx]; omega) false
        have W6 := W5.op S6
        have W6 : Wd h h6 (z6.th b ++ [(wv, .vec 1 W.length (W.map ss)), (lv, .vec 1 l.length (l.map ss))]) := by
          have pm : ((z6.th b ++ [(wv6, Ob.vec 1 w6.length (w6.map AV.str))]) ++ [(wv, Ob.vec 1 W.length (W.map ss)), (lv, Ob.vec 1 l.length (l.map ss))]).Perm ((z6.th b ++ [(wv, Ob.vec 1 W.length (W.map ss)), (lv, Ob.vec 1 l.length (l.map ss))]) ++ [(wv6, Ob.vec 1 w6.length (w6.map AV.str))]) := by
            rw [List.append_assoc, List.append_assoc]
            exact List.Perm.append_left _ List.perm_append_comm
          exact (W6.perm pm).drop
        have o6 : One z6.s := by unfold One; rw [P6.sizes]; exact o4
        have keyd : er6 = 0 ∧ z6.L.map (·.key) = (key :: l).take n ∧ ∀ y, y ∈ z6.L → y.pin = false := by
          rcases one_put I4 o4 (by rw [ByteArray.size_append, sx]; omega) hno P6 with ⟨hlt4, e, _, ci, K, i6, hL6⟩ | ⟨he, ho, _⟩ | ⟨he, A, B, y, hA, ho, e, _, ci, K, i6, hL6⟩
          · refine ⟨e, ?_, fun y hy => ?_⟩
            · rw [hL6, List.map_cons, e4, hL, el, List.take_of_length_le]
              rw [e4, len2] at hlt4
              simp
              omega
            · rw [hL6] at hy
              rcases List.mem_cons.1 hy with q | q
              · rw [q]
              · exact hp4 y q
          · obtain ⟨m, x, hm⟩ := list_last (l := z4.L) (fun q => by rw [q] at he; simp at he; omega)
            have := oldI_some (cls := 0) (A := m) (B := []) (y := x) (hp4 x (by rw [hm]; simp)) (one_ci I4 o4 (by rw [hm]; simp)) (fun w hw => by cases hw)
            rw [← hm, ho] at this
            cases this
          · have hB : B = [] := by
              refine Classical.byContradiction fun hB => ?_
              obtain ⟨m, x, hm⟩ := list_last hB
              have e5 : z4.L = (A ++ y :: m) ++ [x] := by rw [hA, hm]; simp
              have := oldI_some (cls := 0) (A := A ++ y :: m) (B := []) (y := x) (hp4 x (by rw [e5]; simp)) (one_ci I4 o4 (by rw [e5]; simp)) (fun w hw => by cases hw)
              rw [← e5, ho] at this
              cases this
              have nd4 := I4.nd
              rw [hA, List.map_append, List.map_cons] at nd4
              exact (nodup_cut nd4).2.2 (List.mem_map.2 ⟨y, by rw [hm]; simp, rfl⟩)
            subst hB
            refine ⟨e, ?_, fun v hv => ?_⟩
            · have eW : W = A.map (·.key) ++ [y.key] := by rw [← hL, ← e4, hA]; simp
              have lA : (A.map (·.key)).length + 1 = n := by
                rw [← he, hA]
                simp
              rw [hL6, List.append_nil, List.map_cons, el, eW, ← lA, List.take_succ_cons, List.take_left]
            · rw [hL6, List.append_nil] at hv
              rcases List.mem_cons.1 hv with q | q
              · rw [q]
              · exact hp4 v (by rw [hA]; simp [q])
        obtain ⟨e6, mk6, hp6⟩ := keyd
        subst e6
        simp [q1, q5, q6, q9, q10, q13, E6]
        exact ⟨z6, W6, I6, o6, mk6, hp6⟩
    clear q1 q5 q6 q8 q9 q10 q12 q13 q14 q15 W5
    rintro ⟨t, h6⟩ ⟨z5, q1, q5, q6, q9, q10, q13, W6, I6, o6, hL6, hp6⟩
    simp only at q1 q5 q6 q9 q10 q13 W6
    have W7 := W6.snoc (Keep.new (Nat.le_refl _) (.cells [.str key] false)) (v := .sl h6.next 0 1 1 1 true) (o := .vec 1 1 [.str key]) (Mine.whole (get_new_self _ _) (Nat.lt_succ_self _) rfl rfl true) (fun d hd => by cases hd; exact Nat.le_refl _)
    obtain ⟨h7, e7⟩ : ∃ h7, h6.new (.cells [.str key] false) = h7 := ⟨_, rfl⟩
    rw [e7] at W7
    have nx : h6.next < h7.next := by rw [← e7]; exact Nat.lt_succ_self _
    obtain ⟨bv, hbv⟩ : ∃ bv, AV.sl h6.next 0 1 1 1 true = bv := ⟨_, rfl⟩
    rw [hbv] at W7
    have Mb : Mine 1 1 h7 bv [.str key] := W7.b.get (i := 0) (v := bv) (o := .vec 1 1 [.str key]) rfl
    have Ml : Mine 1 l.length h7 lv (l.map ss) := (own_append.1 W7.a).2.1.get (i := 1) (v := lv) (o := .vec 1 l.length (l.map ss)) rfl
    obtain ⟨wv8, h8, a8, M8, F8, K8⟩ := Mb.append (P := Try.prog) (st := 26) (xt := 26) el26 (by rw [Try.underlying26]; rfl) Ml.sl.alen Ml.sl.acells (ss_one l) (by simp) (by omega)
    have M8' : Mine 1 (key :: l).length h8 wv8 ((key :: l).map ss) := by
      rw [List.length_cons, Nat.add_comm]
      exact M8
    have W8 := W7.opB ((Stp.refl W7.b).upd (i := 0) (v := bv) (o := .vec 1 1 [.str key]) rfl K8 (v' := wv8) (o' := .vec 1 (key :: l).length ((key :: l).map ss)) M8' F8)
    have W8 : Wd h h8 (z5.th b ++ [(wv8, .vec 1 (key :: l).length ((key :: l).map ss))]) := by
      have pm : ((z5.th b ++ [(wv, Ob.vec 1 W.length (W.map ss)), (lv, Ob.vec 1 l.length (l.map ss))]) ++ [(wv8, Ob.vec 1 (key :: l).length ((key :: l).map ss))]).Perm ((z5.th b ++ [(wv8, Ob.vec 1 (key :: l).length ((key :: l).map ss))]) ++ [(wv, Ob.vec 1 W.length (W.map ss)), (lv, Ob.vec 1 l.length (l.map ss))]) := by
        rw [List.append_assoc, List.append_assoc]
        exact List.Perm.append_left _ List.perm_append_comm
      exact (W8.perm pm).drop
    have Mw8 : Mine 1 (key :: l).length h8 wv8 ((key :: l).map ss) := W8.b.get (i := 0) (v := wv8) (o := .vec 1 (key :: l).length ((key :: l).map ss)) rfl
    have lw8 := Mw8.sl.len'
    have e7' : h6.new (.cells [.str key] false) = h7 := e7
    simp [q1, q5, q6, q9, q10, q13, aalloc, afill, e7', hbv, a8, lw8, -W_cond]
    refine W_cutN (fun st => ∃ (wv9 : AV), st.t.get 1 = some v1 ∧ st.t.get 5 = some (.int .i64 (n : Nat)) ∧ st.t.get 6 = some (.ptr b 0) ∧ st.t.get 8 = some wv9 ∧ st.t.get 9 = some (.int .i64 (i : Nat)) ∧
      Wd h st.h (z5.th b ++ [(wv9, .vec 1 ((key :: l).take n).length (((key :: l).take n).map ss))])) ?_ ?_
    · by_cases hn : n < l.length + 1
      · obtain ⟨wv9, s9, M9, at9⟩ := Mw8.to (P := Try.prog) (ty := 26) Try.underlying26 ts9 (k := .i64) (j := n) (by simp; omega)
        have M9' : Mine 1 ((key :: l).take n).length h8 wv9 (((key :: l).take n).map ss) := by
          rw [List.length_take, Nat.min_eq_left (by simp; omega), List.map_take]
          rw [Nat.mul_one] at M9
          exact M9
        have Fr9 : From h8 wv8 wv9 := fun d hd => .inl (by unfold Has at hd ⊢; rw [← at9]; exact hd)
        have W9 := W8.opB ((Stp.refl W8.b).upd (i := 0) (v := wv8) (o := .vec 1 (key :: l).length ((key :: l).map ss)) rfl (Keep.refl _ _ _) (v' := wv9) (o' := .vec 1 ((key :: l).take n).length (((key :: l).take n).map ss)) M9' Fr9)
        have W9 : Wd h h8 (z5.th b ++ [(wv9, .vec 1 ((key :: l).take n).length (((key :: l).take n).map ss))]) := W9
        simp [q1, q5, q6, q9, isLt (show (n : Int) < (l.length : Int) + 1 by omega), s9]
        rw [List.map_take, List.length_take, List.length_cons, List.map_cons] at W9
        exact W9
      · have et : (key :: l).take n = key :: l := List.take_of_length_le (by simp; omega)
        rw [et]
        simp [q1, q5, q6, q9, isLe (show (l.length : Int) + 1 ≤ (n : Int) by omega)]
        exact W8
    clear q1 q5 q6 q9 q10 q13 W8 Mw8
    rintro ⟨t, h9⟩ ⟨wv9, q1, q5, q6, q8, q9, W9⟩
    simp only at q1 q5 q6 q8 q9 W9
    rw [← hL6] at W9
    obtain ⟨W', hW'⟩ : ∃ W', z5.L.map (·.key) = W' := ⟨_, rfl⟩
    rw [hW'] at W9
    have lW' : W'.length ≤ n := by rw [← hW', hL6, List.length_take]; omega
    obtain ⟨kv, h10, E10, M10, F10, K10⟩ := ikeys_ok I6 (k + 9) (by omega) W9.a
    have ek : ks z5.L = W'.map ss := by rw [← hW']; unfold ks; rw [List.map_map]; rfl
    have el5 : z5.L.length = W'.length := by rw [← hW', List.length_map]
    rw [ek, el5] at M10
    have W10 := W9.ext K10
    have M9w : Mine 1 W'.length h10 wv9 (W'.map ss) := W10.b.get (i := 0) (v := wv9) (o := .vec 1 W'.length (W'.map ss)) rfl
    have E11 := sameS_ok (k + 9) h10 kv wv9 W' M10.sl M9w.sl (by omega) (by omega)
    simp [q1, q5, q6, q8, q9, E10, E11, i64w ((i : Int) + 1) (by omega) (by omega)]
    refine ⟨M - (i + 1), by omega, ?_⟩
    unfold OlInv
    exact ⟨i + 1, z5, W', wv9, rfl, by omega, by simp [q1], by simp [q5], by simp [q6], by simp [q8], by simp, W10, I6, o6, hW', lW', hp6⟩
  · rintro ⟨t, h2⟩ _
    simp


theorem own : ownKnob Try.prog.godebug = none := by kernel_rfl
theorem laid : laidOutB Try.prog = true := by kernel_rfl

set_option maxRecDepth 100000 in
theorem lifted (os : Os) (started : os.Started) (H : Type) (enc : TypeId × Value → H) :
    ReturnsInHanded {} Try.checked os 5 .any (Rows.itemOldestSpec.pre6 enc Try.prog Try.f5 Rows.itemOldestRow.domain false) (Rows.itemOldestSpec.post enc Try.prog Try.f5 false true false false) := by
  refine returnsInHanded_of_change (C := Try.checked) own started (by kernel_rfl) Try.func5
    (ChangeSpec.witness6 (enc := enc) (C := Try.checked) false ⟨#[], #[.int .i64 0, .slice none 0 0], []⟩ 8 (by kernel_rfl) (by kernel_rfl) (by kernel_rfl) (by kernel_rfl)) ?_
  intro W base args ds gs before hval0 hW hcnd _
  have hval : ∀ (j : Nat) t v, Try.f5.params.toList[j]? = some t → args.toList[j]? = some v → Value.okWide Try.prog W .any base t v := fun j t v h1 h2 => hval0 j t v (by simpa using h1) (by simpa using h2)
  have hW' := hW
  obtain ⟨p, q, hA0, hV, rfl, hfz, hnd⟩ := hW
  have hA : DataW.TrodAll enc Try.prog W 0 (fun _ => true) true Try.f5.params.toList args.toList ds p := hA0
  obtain ⟨rfl, rfl⟩ := trodVars_none hV
  have hlt : ∀ x ∈ p, x.block < W.heap.size := fun x hx => hW'.lt x (by simp [hx])
  have hps : Try.f5.params.toList = [3, 44] := by rw [Try.params5]
  rw [hps] at hA hval
  obtain ⟨m, h, avs, x, g1, _, _, g2, g3, g4⟩ := (good_as1 (good_int Try.underlying3 (by kernel_rfl)) rfl (by kernel_rfl) (good_as1 (good_slice Try.underlying44 (by kernel_rfl) (by decide) (good_int Try.underlying3 (by kernel_rfl))) rfl (by kernel_rfl) good_as0)) H enc W base args.toList ds p hval hA _ _ (HRo.start W)
  obtain ⟨a0, a1, _⟩ := x
  obtain ⟨_, _, rfl, ⟨e0, w0⟩, ⟨v1, _, rfl, ⟨u1, e1, w1⟩, rfl⟩⟩ := g3
  obtain rfl := (List.cons.inj e0).1
  obtain rfl := (List.cons.inj e1).1
  have hcall := law_any mixed (k := 3000000 + 10) Try.func5 (by kernel_rfl) runs_ok g1 g2 (law_run 3000000 (by decide) h a0 w0 v1 a1 w1)
  refine hcall.mono fun e W' ⟨he, hg⟩ => ?_
  subst he
  simp only [List.append_nil] at hW' hA0 ⊢
  have hlen : ds.length = 2 := trodAll_len hA
  have hvars : (Rows.itemOldestSpec.fn H (ds ++ [])).vars = [] ∧ (Rows.itemOldestSpec.fn H (ds ++ [])).args = ds ∧ (Rows.itemOldestSpec.fn H (ds ++ [])).results = [.lit (.bool true)] := by
    rw [List.append_nil]
    match ds, hlen with
    | [d0, d1], _ => exact ⟨rfl, rfl, rfl⟩
  obtain ⟨hv1, hv2, hv3⟩ := hvars
  refine ⟨_, rfl, law_post hW' rfl hg (fun _ _ _ => ?_) (fun sp hsp => ?_) hv1
    (ok_one (by kernel_rfl) rfl (okWide_bool_mk Try.underlying4 _))⟩
  · rw [hv3]
    exact (trodAll_cons_mk (shut_bool Try.underlying4 _) trodAll_mk0)
  · have hA1 := trodAll_below laid hg sp (ts := [3, 44]) (by decide +kernel) hlt hsp hA
    rw [hv2, hps]
    exact hA1

theorem over : Rows.itemOldestRow.holds Try.pinned (OpenSpec.ofChange Rows.itemOldestSpec) :=
  OpenClaim.holds_of_wide 5 Try.f5 rfl rfl rfl rfl rfl rfl rfl ⟨rfl, rfl, rfl, rfl, rfl⟩ rfl rfl rfl rfl rfl (by kernel_rfl) Try.func5 (by kernel_rfl)
    (of_decide_eq_true (by kernel_rfl)) (by unfold Func.isWrapper; first | (rw [if_pos (by decide +kernel)]; kernel_rfl) | (rw [if_neg (by decide +kernel)]; exact ⟨rfl, rfl⟩))
    (fun os started H enc _ => lifted os started H enc)

/-- The statement. -/
theorem proved : Rows.ItemOldestSaid :=
  over
#print axioms proved
end Go.Proofs.Ytelnkdgpghndgaa.cItemOldest
