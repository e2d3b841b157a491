/- The law ItemHolds returns true for every input, and its input reads behind the call as it did; no conditions. The kit's model is followed by an abstract machine that is shown to tell what the model does; the contracts of the functions are proved over that machine. -/
import Derived.Test.YtelnkdgpghndgaaRows
import Derived.Test.YtelnkdgpghndgaaItemHoldsA
import Derived.Test.YtelnkdgpghndgaaItemHoldsB
import Derived.WalkKit
import Derived.ProofKit
import Derived.OpenShut
import Derived.JoinedCond
namespace Go.Proofs.Ytelnkdgpghndgaa.cItemHolds
open Go Go.ChangeShapes Go.WideShapes Go.ChangeAt Go.RowKit Go.YtelnkdgpghndgaaAbs
set_option linter.unusedSimpArgs false
set_option linter.unusedVariables false

set_option maxRecDepth 4000
def encZ : Option Nat → Int
  | none => -1
  | some i => (i : Nat)
/-- What is held: the store, keys, data, pins; and an ask. -/
def HRow (z : Sto) (b : Nat) (kv : AV) (K : List ByteArray) (dv : AV) (D : List ByteArray) (pv : AV) (Pn : List Bool) : List Th := z.th b ++ [(kv, .vec 1 K.length (K.map ss)), (dv, .vec 1 D.length (D.map ss)), (pv, .vec 1 Pn.length (Pn.map bv))]
structure HT (t : Tr AV) (v2 : AV) (b : Nat) (kv dv pv : AV) (i : Nat) : Prop where
  q2 : t.get 2 = some v2
  q7 : t.get 7 = some (.ptr b 0)
  q9 : t.get 9 = some kv
  q10 : t.get 10 = some dv
  q11 : t.get 11 = some pv
  q12 : t.get 12 = some (.int .i64 (i : Nat))
structure HP (P Q : Nat) (z : Sto) (K D : List ByteArray) (Pn : List Bool) : Prop where
  i : StI P Q z
  h : HdI K D Pn z.L
  ks : ∀ k, k ∈ K → k.size ≤ 100
  kl : K.length ≤ 60
/-- What holds whenever an ask is begun. -/
def HInv (P Q : Nat) (h : Heap) (b : Nat) (v2 : AV) (M m : Nat) (st : St) : Prop :=
  ∃ (i : Nat) (z : Sto) (K D : List ByteArray) (Pn : List Bool) (kv dv pv : AV), m = M - i ∧ i ≤ M ∧ K.length ≤ i ∧ HT st.t v2 b kv dv pv i ∧ Wd h st.h (HRow z b kv K dv D pv Pn) ∧ HP P Q z K D Pn
set_option maxHeartbeats 8000000 in
theorem law_run (k : Nat) (hk : 500000 < k) (h : Heap) (a0 : Int) (w0 : (Lit.int .i64 a0).wf = true) (a1 : Int) (w1 : (Lit.int .i64 a1).wf = true) (v2 : AV) (a2 : (List (Int × (Int × (ByteArray × (ByteArray × (Bool × Unit))))))) (w2 : SlA (kPair (kInt .i64) (kPair (kInt .i64) (kPair kStr (kPair kStr (kPair kBool kNil))))) h v2 a2) :
    ∃ v h', afuncT Try.prog [22, 34] (orRuns 3 (acall Try.prog (k + 10))) (k + 10) Try.f4 [.int .i64 a0, .int .i64 a1, v2] h = some (v, h') ∧ v = .bool true := by
  obtain ⟨S0, _⟩ := sla_flat flat_aq (by decide) w2
  have S0 : Sl 5 a2.length h v2 (cat aqC a2) := S0
  obtain ⟨P, EP, P1, P2⟩ := within_n (k + 9) a0 1 6 (by omega) (by omega) (by omega) h
  obtain ⟨Q, EQ, Q1, Q2⟩ := within_n (k + 9) a1 64 600 (by omega) (by omega) (by omega) h
  obtain ⟨b, z0, h1, E1, W1, I1, L1, _, _, _⟩ := inew_ok (k + 8) (by omega) h P Q (by omega) (by omega) (by omega) (by omega)
  have ae : aeql Try.prog 22 (.ptr b 0) .nilp = some false := by rfl
  refine afuncT_ex rfl (by simp [Try.f4]) ?_
  simp [Try.f4, EP, EQ, E1, ae]
  obtain ⟨M, hM⟩ : ∃ M, M = min a2.length 60 := ⟨_, rfl⟩
  refine W_cutLoop 0 (fun st => True) ?_ ?_
  · refine W_loop (HInv P Q h b v2 M) M (by omega) ?_ ?_
    · unfold HInv
      have a := ((W1.snoc (Keep.refl _ _ _) (v := .nils) (o := .vec 1 0 []) (Mine.nil 1 h1) (fun d hd => by cases hd)).snoc (Keep.refl _ _ _) (v := .nils) (o := .vec 1 0 []) (Mine.nil 1 h1) (fun d hd => by cases hd)).snoc (Keep.refl _ _ _) (v := .nils) (o := .vec 1 0 []) (Mine.nil 1 h1) (fun d hd => by cases hd)
      rw [List.append_assoc, List.append_assoc] at a
      exact ⟨0, z0, [], [], [], .nils, .nils, .nils, rfl, Nat.zero_le _, Nat.zero_le _, ⟨by simp, by simp, by simp, by simp, by simp, by simp⟩, a, ⟨I1, ⟨List.nodup_nil, rfl, rfl, fun y hy => (by rw [L1] at hy; cases hy), fun j key d p h1 => (by simp at h1)⟩, fun k hk => (by cases hk), Nat.zero_le _⟩⟩
    rintro m ⟨t, h2⟩ hI
    unfold HInv at hI
    obtain ⟨i, z, K, D, Pn, kv, dv, pv, rfl, hi, hKi, ⟨q2, q7, q9, q10, q11, q12⟩, W2, H⟩ := hI
    simp only at q2 q7 q9 q10 q11 q12 W2
    have S2 := S0.ext W2.kb
    have l2 := S2.len'
    by_cases hlt : i < M
    case neg =>
      by_cases h3 : i < a2.length
      · simp [q2, q7, q12, l2, isLt (show (i : Int) < (a2.length : Int) by omega), isLe (show (60 : Int) ≤ (i : Int) by omega)]
      · simp [q2, q7, q12, l2, isLe (show (a2.length : Int) ≤ (i : Int) by omega)]
    obtain ⟨x, hx⟩ : ∃ x, a2[i]? = some x := ⟨_, List.getElem?_eq_getElem (by omega)⟩
    have ixa := S2.idx (P := Try.prog) Try.underlying37 ts41 (j := i) (by omega) .i64
    have lda : aload Try.prog h2 41 v2.blk (v2.off + i * 5) = some (.agg (aqC x)) := by
      have hl := S2.length
      have := S2.lds (P := Try.prog) (e := 41) (m := 5) ta41 ts41 (j := i * 5) (by omega) (by omega)
      rw [cat_at aqC_len hx] at this
      exact this
    have rwx : (AV.agg (aqC x)).row1 = some (aqC x) := rfl
    have ly : alay (h2.new (.cells [.int .i64 0, .int .i64 0, .str .empty, .str .empty, .bool false] false)) h2.next 0 (aqC x) = some (h2.new (.cells (aqC x) false)) := alay_new rfl
    have W3 := W2.snoc (Keep.new (Nat.le_refl _) (.cells (aqC x) false)) (v := .ptr h2.next 0) (o := .blk (aqC x)) (hold_new h2 _) (fun d hd => by cases hd; exact Nat.le_refl _)
    obtain ⟨ab, hab⟩ : ∃ ab, h2.next = ab := ⟨_, rfl⟩
    obtain ⟨h3, e3⟩ : ∃ h3, h2.new (.cells (aqC x) false) = h3 := ⟨_, rfl⟩
    rw [e3, hab] at W3 ly
    have ask : ∀ {h' : Heap} {R : List Th}, Wd h h' (R ++ [(.ptr ab 0, .blk (aqC x))]) → h'.get ab = some (.cells (aqC x) false) ∧ ab < h'.next := fun {h' R} w => by
      obtain ⟨b', e, g1, g2⟩ := w.b.get (i := 0) (v := .ptr ab 0) (o := .blk (aqC x)) rfl
      cases e
      exact ⟨g2, g1⟩
    obtain ⟨key, hkey⟩ : ∃ key, x.2.2.1 = key := ⟨_, rfl⟩
    have lk : ∀ {h' : Heap}, h'.get ab = some (.cells (aqC x) false) → aload Try.prog h' 9 ab 2 = some (.str key) := fun {h'} g => ldc g ta9 (by rw [← hkey]; rfl)
    have lk3 := lk (ask W3).1
    have hi2 : i < a2.length ∧ i < 60 := by omega
    by_cases hkl : (key.size : Int) ≤ 100
    case neg =>
      simp [q2, q7, q12, l2, isLt (show (i : Int) < (a2.length : Int) by omega), isLt (show (i : Int) < 60 by omega), ixa, lda, rwx, hab, aqC_len, ly, e3, lk3, isLt (show (100 : Int) < (key.size : Int) by omega), i64w ((i : Int) + 1) (by omega) (by omega)]
      refine ⟨M - (i + 1), by omega, ?_⟩
      unfold HInv
      exact ⟨i + 1, z, K, D, Pn, kv, dv, pv, rfl, by omega, by omega, ⟨by simp [q2], by simp [q7], by simp [q9], by simp [q10], by simp [q11], by simp⟩, W3.drop, H⟩
    simp [q2, q7, q12, l2, isLt (show (i : Int) < (a2.length : Int) by omega), isLt (show (i : Int) < 60 by omega), ixa, lda, rwx, hab, aqC_len, ly, e3, lk3, hkl]
    have lK : K.length < 60 := by omega
    refine W_cutLoop 2 (fun st => ∃ (o : Option Nat), ((o = none ∧ key ∉ K) ∨ ∃ a, o = some a ∧ K[a]? = some key) ∧ HT st.t v2 b kv dv pv i ∧ st.t.get 13 = some (.ptr ab 0) ∧ st.t.get 14 = some (.int .i64 (encZ o)) ∧ st.h = h3) ?_ ?_
    · refine W_loop (fun m st => ∃ (j : Nat) (o : Option Nat), m = K.length - j ∧ j ≤ K.length ∧ ((o = none ∧ ∀ j', j' < j → K[j']? ≠ some key) ∨ ∃ a, o = some a ∧ K[a]? = some key) ∧ HT st.t v2 b kv dv pv i ∧ st.t.get 13 = some (.ptr ab 0) ∧ st.t.get 14 = some (.int .i64 (encZ o)) ∧ st.t.get 15 = some (.int .i64 (j : Nat)) ∧ st.h = h3) K.length (by omega)
        ⟨0, none, rfl, Nat.zero_le _, .inl ⟨rfl, fun j' hj' => absurd hj' (Nat.not_lt_zero _)⟩, ⟨by simp [q2], by simp [q7], by simp [q9], by simp [q10], by simp [q11], by simp [q12]⟩, by simp, by simp [encZ], by simp, rfl⟩ ?_
      clear q2 q7 q9 q10 q11 q12
      rintro m ⟨t, h4⟩ ⟨j, o, rfl, hj, ho, ⟨q2, q7, q9, q10, q11, q12⟩, q13, q14, q15, e4⟩
      simp only at q2 q7 q9 q10 q11 q12 q13 q14 q15 e4
      subst e4
      have Mk : Mine 1 K.length h4 kv (K.map ss) := (own_append.1 W3.a).2.1.get (i := 0) (v := kv) (o := .vec 1 K.length (K.map ss)) rfl
      have lk1 := Mk.sl.len'
      by_cases hlt2 : j < K.length
      · obtain ⟨y, hy⟩ : ∃ y, K[j]? = some y := ⟨_, List.getElem?_eq_getElem hlt2⟩
        have ixk := Mk.sl.idx1 (P := Try.prog) Try.underlying26 ts9 (j := j) hlt2 .i64
        have ldk : aload Try.prog h4 9 kv.blk (kv.off + j) = some (.str y) := Mk.sl.ld ta9 (ss_get hy)
        by_cases hyk : y = key
        · subst hyk
          simp [q2, q7, q9, q10, q11, q12, q13, q14, q15, lk1, isLt (show (j : Int) < (K.length : Int) by omega), ixk, ldk, lk3, i64w ((j : Int) + 1) (by omega) (by omega)]
          exact ⟨K.length - (j + 1), by omega, j + 1, rfl, by omega, some j, .inr ⟨j, rfl, hy⟩, ⟨by simp [q2], by simp [q7], by simp [q9], by simp [q10], by simp [q11], by simp [q12]⟩, rfl, by simp⟩
        · simp [q2, q7, q9, q10, q11, q12, q13, q14, q15, lk1, isLt (show (j : Int) < (K.length : Int) by omega), ixk, ldk, lk3, hyk, i64w ((j : Int) + 1) (by omega) (by omega)]
          refine ⟨K.length - (j + 1), by omega, j + 1, rfl, by omega, o, ?_, ⟨by simp [q2], by simp [q7], by simp [q9], by simp [q10], by simp [q11], by simp [q12]⟩, rfl, by simp⟩
          rcases ho with ⟨h5, h6⟩ | h5
          · refine .inl ⟨h5, fun j' hj' => ?_⟩
            by_cases q : j' = j
            · subst q; rw [hy]; simpa using hyk
            · exact h6 j' (by omega)
          · exact .inr h5
      · simp [q2, q7, q9, q10, q11, q12, q13, q14, q15, lk1, isLe (show (K.length : Int) ≤ (j : Int) by omega)]
        refine ⟨o, ?_, ⟨by simp [q2], by simp [q7], by simp [q9], by simp [q10], by simp [q11], by simp [q12]⟩, rfl⟩
        rcases ho with ⟨h5, h6⟩ | h5
        · refine .inl ⟨h5, fun hm => ?_⟩
          obtain ⟨j', hj'⟩ := List.getElem?_of_mem hm
          have := (List.getElem?_eq_some_iff.1 hj').1
          exact h6 j' (by omega) hj'
        · exact .inr h5
    clear q2 q7 q9 q10 q11 q12
    rintro ⟨t, h4⟩ ⟨o, ho, ⟨q2, q7, q9, q10, q11, q12⟩, q13, q14, e4⟩
    simp only at q2 q7 q9 q10 q11 q12 q13 q14 e4
    subst e4
    simp [q14, -W_cond]
    refine W_cutN (fun st => ∃ (K' D' : List ByteArray) (Pn' : List Bool) (kv' dv' pv' : AV) (at_ : Nat), K'[at_]? = some key ∧ HT st.t v2 b kv' dv' pv' i ∧ st.t.get 13 = some (.ptr ab 0) ∧ st.t.get 14 = some (.int .i64 (at_ : Nat)) ∧
      Wd h st.h (HRow z b kv' K' dv' D' pv' Pn' ++ [(.ptr ab 0, .blk (aqC x))]) ∧ HP P Q z K' D' Pn' ∧ K'.length ≤ i + 1) ?_ ?_
    · rcases ho with ⟨rfl, hno⟩ | ⟨a, rfl, ha⟩
      · have O3 := (own_append.1 W3.a).2.1
        have Mk : Mine 1 K.length h4 kv (K.map ss) := O3.get (i := 0) (v := kv) (o := .vec 1 K.length (K.map ss)) rfl
        obtain ⟨kv', h5, a5, M5, F5, K5⟩ := Mk.push (P := Try.prog) el26 (a := [ss key]) (ex := true) rfl rfl (by omega)
        have M5' : Mine 1 (K ++ [key]).length h5 kv' ((K ++ [key]).map ss) := by simpa using M5
        have T5 := (Stp.refl O3).upd (i := 0) (v := kv) (o := .vec 1 K.length (K.map ss)) rfl K5 (v' := kv') (o' := .vec 1 (K ++ [key]).length ((K ++ [key]).map ss)) M5' F5
        have Md : Mine 1 D.length h5 dv (D.map ss) := T5.own.get (i := 1) (v := dv) (o := .vec 1 D.length (D.map ss)) rfl
        have hDl := H.h.dl
        have hPl := H.h.pl
        obtain ⟨dv', h6, a6, M6, F6, K6⟩ := Md.push (P := Try.prog) el26 (a := [ss ByteArray.empty]) (ex := true) rfl rfl (by omega)
        have M6' : Mine 1 (D ++ [ByteArray.empty]).length h6 dv' ((D ++ [ByteArray.empty]).map ss) := by simpa using M6
        have T6 := T5.upd (i := 1) (v := dv) (o := .vec 1 D.length (D.map ss)) rfl K6 (v' := dv') (o' := .vec 1 (D ++ [ByteArray.empty]).length ((D ++ [ByteArray.empty]).map ss)) M6' F6
        have Mp : Mine 1 Pn.length h6 pv (Pn.map bv) := T6.own.get (i := 2) (v := pv) (o := .vec 1 Pn.length (Pn.map bv)) rfl
        obtain ⟨pv', h7, a7, M7, F7, K7⟩ := Mp.push (P := Try.prog) el39 (a := [bv false]) (ex := true) rfl rfl (by omega)
        have M7' : Mine 1 (Pn ++ [false]).length h7 pv' ((Pn ++ [false]).map bv) := by simpa using M7
        have T7 := T6.upd (i := 2) (v := pv) (o := .vec 1 Pn.length (Pn.map bv)) rfl K7 (v' := pv') (o' := .vec 1 (Pn ++ [false]).length ((Pn ++ [false]).map bv)) M7' F7
        have W7 := W3.op ((Stp.refl W3.a).opB T7)
        have a5 : aappend Try.prog (h4.new (.cells [.str key] false)) 26 26 kv (.sl h4.next 0 1 1 1 true) = some (kv', h5) := a5
        have a6 : aappend Try.prog (h5.new (.cells [.str ⟨#[]⟩] false)) 26 26 dv (.sl h5.next 0 1 1 1 true) = some (dv', h6) := a6
        have a7 : aappend Try.prog (h6.new (.cells [.bool false] false)) 39 39 pv (.sl h6.next 0 1 1 1 true) = some (pv', h7) := a7
        have lkk := M5'.sl.len'
        rw [List.length_append, List.length_singleton] at lkk
        have w14 : fwrap .i64 (((K.length + 1 : Nat) : Int) - 1) = (K.length : Nat) := by rw [i64w _ (by omega) (by omega)]; omega
        obtain ⟨n1, hn1⟩ : ∃ n1, K.length + 1 = n1 := ⟨_, rfl⟩
        rw [hn1] at lkk w14
        have oa : kv'.one = true := M5.oneV
        have W7 : Wd h h7 (HRow z b kv' (K ++ [key]) dv' (D ++ [ByteArray.empty]) pv' (Pn ++ [false]) ++ [(.ptr ab 0, .blk (aqC x))]) := W7
        simp [encZ, q9, q10, q11, q13, lk3, aalloc, afill, a5, a6, a7, lkk, w14]
        refine ⟨K ++ [key], D ++ [ByteArray.empty], Pn ++ [false], kv', dv', pv', K.length, by simp, ⟨by simp [q2], by simp [q7], by simp, by simp, by simp, by simp [q12]⟩, rfl, W7, ⟨H.i, H.h.new hno, fun kk hkk => ?_, by simp; omega⟩, by simp; omega⟩
        rcases List.mem_append.1 hkk with q | q
        · exact H.ks kk q
        · rw [List.mem_singleton.1 q]; omega
      · simp [encZ, isLe (show (0 : Int) ≤ (a : Int) by omega)]
        exact ⟨K, D, Pn, kv, dv, pv, a, ha, ⟨by simp [q2], by simp [q7], by simp [q9], by simp [q10], by simp [q11], by simp [q12]⟩, q13, q14, W3, H, by omega⟩
    clear q2 q7 q9 q10 q11 q12 q13 q14 ho W3 H W2 lK hKi lk3
    rintro ⟨t, h5⟩ ⟨K, D, Pn, kv, dv, pv, at_, hat, ⟨q2, q7, q9, q10, q11, q12⟩, q13, q14, W5, H, hKi⟩
    simp only at q2 q7 q9 q10 q11 q12 q13 q14 W5
    have lkd : ∀ {h' : Heap}, h'.get ab = some (.cells (aqC x) false) → aload Try.prog h' 3 ab 0 = some (.int .i64 x.1) := fun {h'} g => ldc g ta3 rfl
    have lkp : ∀ {h' : Heap}, h'.get ab = some (.cells (aqC x) false) → aload Try.prog h' 4 ab 4 = some (.bool x.2.2.2.2.1) := fun {h'} g => ldc g ta4 rfl
    have lka : ∀ {h' : Heap}, h'.get ab = some (.cells (aqC x) false) → aload Try.prog h' 41 ab 0 = some (.agg (aqC x)) := fun {h'} g => by simp [aload, Heap.row, g, ta41, ts41, aqC]
    obtain ⟨g5, abl⟩ := ask W5
    have k5 := lk g5
    have d5 := lkd g5
    have p5 := lkp g5
    have a5 := lka g5
    have hatl := (List.getElem?_eq_some_iff.1 hat).1
    have hPl := H.h.pl
    have hDl := H.h.dl
    have ksz : key.size ≤ 1000 := by omega
    simp [q13, d5, -W_block]
    refine W_cutN (fun st => HT st.t v2 b kv dv pv i ∧ ∃ (z' : Sto) (D' : List ByteArray) (Pn' : List Bool), Wd h st.h (HRow z' b kv K dv D' pv Pn') ∧ HP P Q z' K D' Pn') ?_ ?_
    · by_cases c1 : x.1 = 1
      · obtain ⟨h6, E6, K6⟩ := idata_ok (k + 8) h5 x
        have W6 := W5.ext K6
        have dsz := aqD_le x
        obtain ⟨z7, w, wv, er, h7, E7, S7, I7, P7⟩ := iput_ok H.i (k + 4) (by omega) (own_append.1 W6.a).1 key (aqD x) ksz (by omega) x.2.2.2.2.1
        have Q7 := P7.q H.i.nd
        have W7 : Wd h h7 ((HRow z7 b kv K dv D pv Pn ++ [(.ptr ab 0, .blk (aqC x))]) ++ [(wv, .vec 1 w.length (w.map AV.str))]) := by
          have a := W6.op ((Stp.refl W6.a).op S7)
          refine a.perm ?_
          have e : HRow z7 b kv K dv D pv Pn = z7.th b ++ [(kv, Ob.vec 1 K.length (K.map ss)), (dv, Ob.vec 1 D.length (D.map ss)), (pv, Ob.vec 1 Pn.length (Pn.map bv))] := rfl
          rw [e]
          generalize [(kv, Ob.vec 1 K.length (K.map ss)), (dv, Ob.vec 1 D.length (D.map ss)), (pv, Ob.vec 1 Pn.length (Pn.map bv))] = T3
          generalize [((.ptr ab 0 : AV), Ob.blk (aqC x))] = A3
          rw [List.append_assoc, List.append_assoc, List.append_assoc, List.append_assoc]
          refine List.Perm.append_left _ ?_
          exact List.perm_append_comm.trans (by rw [List.append_assoc])
        have h7d := H.h.put hat Q7 (fun y hy => by
          rcases P7.keys y hy with q | ⟨y', q, e⟩
          · rw [q]; exact List.mem_of_getElem? hat
          · rw [← e]; exact H.h.sub y' q)
        have ag : Agree h5.next h5 h6 := fun c hc => K6.2 c hc id
        have p6 := lkp (ask W6).1
        have O7r := (own_append.1 W7.a).1
        have O7 : Hold h7 (z7.th b) := (own_append.1 O7r).1
        have O73 := (own_append.1 O7r).2.1
        obtain ⟨b7, eb7, ab7, g7⟩ := (own_append.1 W7.a).2.1.get (i := 0) (v := .ptr ab 0) (o := .blk (aqC x)) rfl
        cases eb7
        have Mw : Mine 1 w.length h7 wv (w.map ss) := W7.b.get (i := 0) (v := wv) (o := .vec 1 w.length (w.map AV.str)) rfl
        have Mk : Mine 1 K.length h7 kv (K.map ss) := O73.get (i := 0) (v := kv) (o := .vec 1 K.length (K.map ss)) rfl
        have Mp : Mine 1 Pn.length h7 pv (Pn.map bv) := O73.get (i := 2) (v := pv) (o := .vec 1 Pn.length (Pn.map bv)) rfl
        have lw := Mw.sl.len'
        have lkk := Mk.sl.len'
        have hw : w.length ≤ 70000 := by have := P7.wlen; have := H.i.small; omega
        have sav : sameAVs (aqC x) (aqC x) = true := by simp [aqC, sameAVs, sameAV]
        simp [c1]
        refine W_split 7 h5.next (by rfl) (by kernel_rfl) (by rfl) ?_
        dsimp only [List.take, List.drop]
        simp [obl, mayEff, mayRead, sameAV, sav, abl, q7, q13, k5, a5, E6, ag, p6, E7]
        refine W_cutLoop 5 (fun st => HT st.t v2 b kv dv pv i ∧ st.t.get 13 = some (.ptr ab 0) ∧ st.t.get 14 = some (.int .i64 (at_ : Nat)) ∧ st.t.get 17 = some (.int .i64 (er : Nat)) ∧ st.h = h7) ?_ ?_
        · refine W_loop (fun m st => ∃ a : Nat, m = w.length - a ∧ a ≤ w.length ∧ HT st.t v2 b kv dv pv i ∧ st.t.get 13 = some (.ptr ab 0) ∧ st.t.get 14 = some (.int .i64 (at_ : Nat)) ∧ st.t.get 17 = some (.int .i64 (er : Nat)) ∧ st.t.get 16 = some wv ∧ st.t.get 18 = some (.int .i64 (a : Nat)) ∧ st.h = h7) w.length (by omega)
            ⟨0, rfl, Nat.zero_le _, ⟨by simp [q2], by simp [q7], by simp [q9], by simp [q10], by simp [q11], by simp [q12]⟩, by simp [q13], by simp [q14], by simp, by simp, by simp, rfl⟩ ?_
          clear q2 q7 q9 q10 q11 q12 q13 q14
          rintro m ⟨t, h8⟩ ⟨a, rfl, hal, ⟨q2, q7, q9, q10, q11, q12⟩, q13, q14, q17, q16, q18, e8⟩
          simp only at q2 q7 q9 q10 q11 q12 q13 q14 q17 q16 q18 e8
          subst e8
          by_cases hla : a < w.length
          case neg =>
            simp [q2, q7, q9, q10, q11, q12, q13, q14, q17, q16, q18, lw, isLe (show (w.length : Int) ≤ (a : Int) by omega)]
            exact ⟨by simp [q2], by simp [q7], by simp [q9], by simp [q10], by simp [q11], by simp [q12]⟩
          obtain ⟨g, hg⟩ : ∃ g, w[a]? = some g := ⟨_, List.getElem?_eq_getElem hla⟩
          have ixg := Mw.sl.idx1 (P := Try.prog) Try.underlying26 ts9 (j := a) hla .i64
          have ldg : aload Try.prog h8 9 wv.blk (wv.off + a) = some (.str g) := Mw.sl.ld ta9 (ss_get hg)
          have hgm := List.mem_of_getElem? hg
          simp [q2, q7, q9, q10, q11, q12, q13, q14, q17, q16, q18, lw, isLt (show (a : Int) < (w.length : Int) by omega)]
          refine W_cutLoop 7 (fun st => HT st.t v2 b kv dv pv i ∧ st.t.get 13 = some (.ptr ab 0) ∧ st.t.get 14 = some (.int .i64 (at_ : Nat)) ∧ st.t.get 17 = some (.int .i64 (er : Nat)) ∧ st.t.get 16 = some wv ∧ st.t.get 18 = some (.int .i64 (a : Nat)) ∧ st.h = h8) ?_ ?_
          · refine W_loop (fun m st => ∃ j : Nat, m = K.length - j ∧ j ≤ K.length ∧ HT st.t v2 b kv dv pv i ∧ st.t.get 13 = some (.ptr ab 0) ∧ st.t.get 14 = some (.int .i64 (at_ : Nat)) ∧ st.t.get 17 = some (.int .i64 (er : Nat)) ∧ st.t.get 16 = some wv ∧ st.t.get 18 = some (.int .i64 (a : Nat)) ∧ st.t.get 19 = some (.int .i64 (j : Nat)) ∧ st.h = h8) K.length (by omega)
              ⟨0, rfl, Nat.zero_le _, ⟨by simp [q2], by simp [q7], by simp [q9], by simp [q10], by simp [q11], by simp [q12]⟩, by simp [q13], by simp [q14], by simp [q17], by simp [q16], by simp [q18], by simp, rfl⟩ ?_
            clear q2 q7 q9 q10 q11 q12 q13 q14 q17 q16 q18
            rintro m ⟨t, h9⟩ ⟨j, rfl, hj, ⟨q2, q7, q9, q10, q11, q12⟩, q13, q14, q17, q16, q18, q19, e9⟩
            simp only at q2 q7 q9 q10 q11 q12 q13 q14 q17 q16 q18 q19 e9
            subst e9
            by_cases hlj : j < K.length
            case neg =>
              simp [q2, q7, q9, q10, q11, q12, q13, q14, q17, q16, q18, q19, lkk, isLe (show (K.length : Int) ≤ (j : Int) by omega)]
              exact ⟨by simp [q2], by simp [q7], by simp [q9], by simp [q10], by simp [q11], by simp [q12]⟩
            obtain ⟨y, hy⟩ : ∃ y, K[j]? = some y := ⟨_, List.getElem?_eq_getElem hlj⟩
            obtain ⟨p, hp⟩ : ∃ p, Pn[j]? = some p := ⟨_, List.getElem?_eq_getElem (by omega)⟩
            have ixk := Mk.sl.idx1 (P := Try.prog) Try.underlying26 ts9 (j := j) hlj .i64
            have ldk : aload Try.prog h9 9 kv.blk (kv.off + j) = some (.str y) := Mk.sl.ld ta9 (ss_get hy)
            have ixp := Mp.sl.idx1 (P := Try.prog) Try.underlying39 ts4 (j := j) (by omega) .i64
            have ldp : aload Try.prog h9 4 pv.blk (pv.off + j) = some (.bool p) := Mp.sl.ld ta4 (by rw [List.getElem?_map, hp]; rfl)
            by_cases hyg : y = g
            · subst hyg
              obtain ⟨e1, e2⟩ := H.h.went hat Q7 hgm hy hp
              subst e1
              simp [q2, q7, q9, q10, q11, q12, q13, q14, q17, q16, q18, q19, lkk, isLt (show (j : Int) < (K.length : Int) by omega), ixk, ldk, ixg, ldg, ixp, ldp, e2, (show ¬ ((j : Nat) : Int) = (at_ : Int) by omega), i64w ((j : Int) + 1) (by omega) (by omega)]
              exact ⟨K.length - (j + 1), by omega, j + 1, rfl, by omega, ⟨by simp [q2], by simp [q7], by simp [q9], by simp [q10], by simp [q11], by simp [q12]⟩, by simp⟩
            · simp [q2, q7, q9, q10, q11, q12, q13, q14, q17, q16, q18, q19, lkk, isLt (show (j : Int) < (K.length : Int) by omega), ixk, ldk, ixg, ldg, hyg, i64w ((j : Int) + 1) (by omega) (by omega)]
              exact ⟨K.length - (j + 1), by omega, j + 1, rfl, by omega, ⟨by simp [q2], by simp [q7], by simp [q9], by simp [q10], by simp [q11], by simp [q12]⟩, by simp⟩
          clear q2 q7 q9 q10 q11 q12 q13 q14 q17 q16 q18
          rintro ⟨t, h9⟩ ⟨⟨q2, q7, q9, q10, q11, q12⟩, q13, q14, q17, q16, q18, e9⟩
          simp only at q2 q7 q9 q10 q11 q12 q13 q14 q17 q16 q18 e9
          subst e9
          simp [q13, q14, q17, q16, q18, i64w ((a : Int) + 1) (by omega) (by omega)]
          exact ⟨w.length - (a + 1), by omega, a + 1, rfl, by omega, ⟨by simp [q2], by simp [q7], by simp [q9], by simp [q10], by simp [q11], by simp [q12]⟩, by simp⟩
        clear q2 q7 q9 q10 q11 q12 q13 q14
        rintro ⟨t, h8⟩ ⟨⟨q2, q7, q9, q10, q11, q12⟩, q13, q14, q17, e8⟩
        simp only at q2 q7 q9 q10 q11 q12 q13 q14 q17 e8
        subst e8
        obtain ⟨h9, E9, K9⟩ := ipeek_ok I7 (k + 5) (by omega) O7 key ksz
        have W9 := W7.ext K9
        have k7 := lk g7
        have setd : ∀ {hA : Heap} (pb : Bool), Wd h hA ((HRow z7 b kv K dv D pv Pn ++ [(.ptr ab 0, .blk (aqC x))]) ++ [(wv, .vec 1 w.length (w.map AV.str))]) → ab < hA.next ∧ aload Try.prog hA 41 ab 0 = some (.agg (aqC x)) ∧ ∃ hB hC hD, acall Try.prog (k + 10) 16 [.agg (aqC x)] hA = some (.str (aqD x), hB) ∧ Agree hA.next hA hB ∧ aload Try.prog hB 4 ab 4 = some (.bool x.2.2.2.2.1) ∧
            aindex Try.prog 26 dv (.int .i64 (at_ : Nat)) = some (.ptr dv.blk (dv.off + at_)) ∧ alay hB dv.blk (dv.off + at_) [.str (aqD x)] = some hC ∧ aindex Try.prog 39 pv (.int .i64 (at_ : Nat)) = some (.ptr pv.blk (pv.off + at_)) ∧ alay hC pv.blk (pv.off + at_) [.bool pb] = some hD ∧ Wd h hD (HRow z7 b kv K dv (D.set at_ (aqD x)) pv (Pn.set at_ pb)) := by
          intro hA pb w8
          obtain ⟨b8, eb8, ab8, g8⟩ := (own_append.1 w8.a).2.1.get (i := 0) (v := .ptr ab 0) (o := .blk (aqC x)) rfl
          cases eb8
          obtain ⟨hB, EB, KB⟩ := idata_ok (k + 8) hA x
          have wB := (w8.ext KB).drop
          have OB3 := (own_append.1 wB.a).2.1
          have gB := lkp (ask wB).1
          have Md : Mine 1 D.length hB dv (D.map ss) := OB3.get (i := 1) (v := dv) (o := .vec 1 D.length (D.map ss)) rfl
          have ixd := Md.sl.idx1 (P := Try.prog) Try.underlying26 ts9 (j := at_) (by omega) .i64
          obtain ⟨hC, aC, MC, KC, _⟩ := Md.lay1 (j := at_) (x := ss (aqD x)) (by omega) rfl
          have MC' : Mine 1 (D.set at_ (aqD x)).length hC dv ((D.set at_ (aqD x)).map ss) := by rw [List.length_set, List.map_set]; exact MC
          have TC := (Stp.refl OB3).upd (i := 1) (v := dv) (o := .vec 1 D.length (D.map ss)) rfl KC (v' := dv) (o' := .vec 1 (D.set at_ (aqD x)).length ((D.set at_ (aqD x)).map ss)) MC' (From.refl _ _)
          have Mpc : Mine 1 Pn.length hC pv (Pn.map bv) := TC.own.get (i := 2) (v := pv) (o := .vec 1 Pn.length (Pn.map bv)) rfl
          have ixp := Mpc.sl.idx1 (P := Try.prog) Try.underlying39 ts4 (j := at_) (by omega) .i64
          obtain ⟨hD, aD, MD, KD, _⟩ := Mpc.lay1 (j := at_) (x := bv pb) (by omega) rfl
          have MD' : Mine 1 (Pn.set at_ pb).length hD pv ((Pn.set at_ pb).map bv) := by rw [List.length_set, List.map_set]; exact MD
          have TD := TC.upd (i := 2) (v := pv) (o := .vec 1 Pn.length (Pn.map bv)) rfl KD (v' := pv) (o' := .vec 1 (Pn.set at_ pb).length ((Pn.set at_ pb).map bv)) MD' (From.refl _ _)
          exact ⟨ab8, lka g8, hB, hC, hD, EB, fun c hc => KB.2 c hc id, gB, ixd, aC, ixp, aD, (wB.op ((Stp.refl wB.a).opB TD)).drop⟩
        have hp7 : HP P Q z7 K (D.set at_ (aqD x)) (Pn.set at_ (x.2.2.2.2.1 && decide (er = 0))) := ⟨I7, h7d, H.ks, H.kl⟩
        by_cases he : er = 0
        · obtain ⟨y, y1, y2, y3⟩ := Q7.new he
          rw [y1] at E9
          simp [y2] at E9
          obtain ⟨h10, E10, K10⟩ := idata_ok (k + 8) h9 x
          have W10 := W9.ext K10
          have a9 := (setd false W9).2.1
          obtain ⟨ab10, a10, hB, hC, hD, EB, AB, pB, ixd, lyd, ixp, lyp, WD⟩ := setd (x.2.2.2.2.1 && decide (er = 0)) W10
          subst he
          simp [q7, q13, k7, E9, q17, a9, E10]
          refine W_split 8 h10.next (by rfl) (by kernel_rfl) (by rfl) ?_
          dsimp only [List.take, List.drop]
          cases hpn : x.2.2.2.2.1 with
          | true =>
            rw [hpn] at pB lyp WD hp7
            simp at lyp WD hp7
            simp [obl, mayEff, mayRead, sameAV, sav, ab10, q7, q9, q10, q11, q12, q13, q14, a10, EB, AB, pB, ixd, lyd, ixp, lyp]
            exact ⟨⟨by simp [q2], by simp [q7], by simp [q9], by simp [q10], by simp [q11], by simp [q12]⟩, z7, _, _, WD, hp7⟩
          | false =>
            rw [hpn] at pB lyp WD hp7
            simp at lyp WD hp7
            simp [obl, mayEff, mayRead, sameAV, sav, ab10, q7, q9, q10, q11, q12, q13, q14, a10, EB, AB, pB, ixd, lyd, ixp, lyp]
            exact ⟨⟨by simp [q2], by simp [q7], by simp [q9], by simp [q10], by simp [q11], by simp [q12]⟩, z7, _, _, WD, hp7⟩
        · have y1 := Q7.no he
          rw [y1] at E9
          simp at E9
          obtain ⟨ab10, a10, hB, hC, hD, EB, AB, pB, ixd, lyd, ixp, lyp, WD⟩ := setd (x.2.2.2.2.1 && decide (er = 0)) W9
          have he' : ¬ ((er : Nat) : Int) = 0 := by omega
          simp [q7, q13, k7, E9, q17, he, he']
          refine W_split 8 h9.next (by rfl) (by kernel_rfl) (by rfl) ?_
          dsimp only [List.take, List.drop]
          simp [he] at lyp WD hp7
          cases hpn : x.2.2.2.2.1 with
          | true =>
            rw [hpn] at pB
            simp [obl, mayEff, mayRead, sameAV, sav, ab10, q7, q9, q10, q11, q12, q13, q14, a10, EB, AB, pB, ixd, lyd, ixp, lyp]
            exact ⟨⟨by simp [q2], by simp [q7], by simp [q9], by simp [q10], by simp [q11], by simp [q12]⟩, z7, _, _, WD, hp7⟩
          | false =>
            rw [hpn] at pB
            simp [obl, mayEff, mayRead, sameAV, sav, ab10, q7, q9, q10, q11, q12, q13, q14, a10, EB, AB, pB, ixd, lyd, ixp, lyp]
            exact ⟨⟨by simp [q2], by simp [q7], by simp [q9], by simp [q10], by simp [q11], by simp [q12]⟩, z7, _, _, WD, hp7⟩
      have pinset : ∀ {h6 : Heap} {z' : Sto} (p : Bool), Wd h h6 (HRow z' b kv K dv D pv Pn ++ [(.ptr ab 0, .blk (aqC x))]) → ∃ h7, aindex Try.prog 39 pv (.int .i64 (at_ : Nat)) = some (.ptr pv.blk (pv.off + at_)) ∧ alay h6 pv.blk (pv.off + at_) [.bool p] = some h7 ∧ Wd h h7 (HRow z' b kv K dv D pv (Pn.set at_ p)) := by
        intro h6 z' p w
        have O3 := (own_append.1 w.a).2.1
        have Mp : Mine 1 Pn.length h6 pv (Pn.map bv) := O3.get (i := 2) (v := pv) (o := .vec 1 Pn.length (Pn.map bv)) rfl
        have ixp := Mp.sl.idx1 (P := Try.prog) Try.underlying39 ts4 (j := at_) (by omega) .i64
        obtain ⟨h7, a7, M7, K7, _⟩ := Mp.lay1 (j := at_) (x := bv p) (by omega) rfl
        have M7' : Mine 1 (Pn.set at_ p).length h7 pv ((Pn.set at_ p).map bv) := by rw [List.length_set, List.map_set]; exact M7
        have T7 := (Stp.refl O3).upd (i := 2) (v := pv) (o := .vec 1 Pn.length (Pn.map bv)) rfl K7 (v' := pv) (o' := .vec 1 (Pn.set at_ p).length ((Pn.set at_ p).map bv)) M7' (From.refl _ _)
        exact ⟨h7, ixp, a7, (w.op ((Stp.refl w.a).opB T7)).drop⟩
      by_cases c4 : x.1 = 4
      · obtain ⟨z6, h6, E6, S6, I6, P6, _⟩ := ipin_ok H.i (k + 6) (by omega) (own_append.1 W5.a).1 key ksz x.2.2.2.2.1
        have W6 : Wd h h6 (HRow z6 b kv K dv D pv Pn ++ [(.ptr ab 0, .blk (aqC x))]) := W5.op ((Stp.refl W5.a).op S6)
        obtain ⟨hp1, hp2⟩ := H.h.pin hat P6 H.i.nd
        have p6 := lkp (ask W6).1
        cases hf : findK key z.L with
        | none =>
          rw [hf] at E6
          simp at E6
          simp [c1, c4, q2, q7, q9, q10, q11, q12, q13, q14, k5, p5, E6]
          exact ⟨⟨by simp [q2], by simp [q7], by simp [q9], by simp [q10], by simp [q11], by simp [q12]⟩, z6, D, Pn, W6.drop, I6, hp2 hf, H.ks, H.kl⟩
        | some y =>
          rw [hf] at E6
          simp at E6
          obtain ⟨h7, ix7, a7, W7⟩ := pinset x.2.2.2.2.1 W6
          simp [c1, c4, q2, q7, q9, q10, q11, q12, q13, q14, k5, p5, E6, p6, ix7, a7]
          exact ⟨⟨by simp [q2], by simp [q7], by simp [q9], by simp [q10], by simp [q11], by simp [q12]⟩, z6, D, Pn.set at_ x.2.2.2.2.1, W7, I6, hp1 (by rw [hf]; simp), H.ks, H.kl⟩
      by_cases c5 : x.1 = 5
      · obtain ⟨z6, h6, E6, S6, I6, P6⟩ := idrop_ok H.i (k + 5) (by omega) (own_append.1 W5.a).1 key ksz
        have W6 : Wd h h6 (HRow z6 b kv K dv D pv Pn ++ [(.ptr ab 0, .blk (aqC x))]) := W5.op ((Stp.refl W5.a).op S6)
        obtain ⟨h7, ix7, a7, W7⟩ := pinset false W6
        simp [c1, c4, c5, q2, q7, q9, q10, q11, q12, q13, q14, k5, E6, ix7, a7]
        exact ⟨⟨by simp [q2], by simp [q7], by simp [q9], by simp [q10], by simp [q11], by simp [q12]⟩, z6, D, Pn.set at_ false, W7, I6, H.h.drop hat P6 H.i.nd, H.ks, H.kl⟩
      simp [c1, c4, c5, q2, q7, q9, q10, q11, q12, q13, q14]
      exact ⟨⟨by simp [q2], by simp [q7], by simp [q9], by simp [q10], by simp [q11], by simp [q12]⟩, z, D, Pn, W5.drop, H⟩
    clear q2 q7 q9 q10 q11 q12 q13 q14 W5 H g5 abl k5 d5 p5 a5 hPl hDl hat hatl
    rintro ⟨t, h6⟩ ⟨⟨q2, q7, q9, q10, q11, q12⟩, z7, D, Pn, W6, H⟩
    simp only at q2 q7 q9 q10 q11 q12 W6
    have hPl := H.h.pl
    have hDl := H.h.dl
    simp
    refine W_cutLoop 9 (fun st => HT st.t v2 b kv dv pv i ∧ Wd h st.h (HRow z7 b kv K dv D pv Pn)) ?_ ?_
    · refine W_loop (fun m st => ∃ j : Nat, m = K.length - j ∧ j ≤ K.length ∧ HT st.t v2 b kv dv pv i ∧ Wd h st.h (HRow z7 b kv K dv D pv Pn) ∧ st.t.get 22 = some (.int .i64 (j : Nat))) K.length (by have := H.kl; omega)
        ⟨0, rfl, Nat.zero_le _, ⟨by simp [q2], by simp [q7], by simp [q9], by simp [q10], by simp [q11], by simp [q12]⟩, W6, by simp⟩ ?_
      clear q2 q7 q9 q10 q11 q12 W6
      rintro m ⟨t, h7⟩ ⟨j, rfl, hj, ⟨q2, q7, q9, q10, q11, q12⟩, W7, q22⟩
      simp only at q2 q7 q9 q10 q11 q12 W7 q22
      have O3 := (own_append.1 W7.own).2.1
      have Mk : Mine 1 K.length h7 kv (K.map ss) := O3.get (i := 0) (v := kv) (o := .vec 1 K.length (K.map ss)) rfl
      have lkk := Mk.sl.len'
      have hkl60 := H.kl
      by_cases hlj : j < K.length
      case neg =>
        simp [q2, q7, q9, q10, q11, q12, q22, lkk, isLe (show (K.length : Int) ≤ (j : Int) by omega)]
        exact ⟨⟨by simp [q2], by simp [q7], by simp [q9], by simp [q10], by simp [q11], by simp [q12]⟩, W7⟩
      obtain ⟨y, hy⟩ : ∃ y, K[j]? = some y := ⟨_, List.getElem?_eq_getElem hlj⟩
      obtain ⟨d, p, hd, hp⟩ := H.h.get hy
      obtain ⟨o1, o2⟩ := H.h.ok j y d p hy hd hp
      have ysz := H.ks y (List.mem_of_getElem? hy)
      have ixk := Mk.sl.idx1 (P := Try.prog) Try.underlying26 ts9 (j := j) hlj .i64
      have ldk : aload Try.prog h7 9 kv.blk (kv.off + j) = some (.str y) := Mk.sl.ld ta9 (ss_get hy)
      obtain ⟨h8, E8, K8⟩ := ipeek_ok H.i (k + 5) (by omega) (own_append.1 W7.own).1 y (by omega)
      have W8 := W7.ext K8
      have O8 := (own_append.1 W8.own).2.1
      have Md : Mine 1 D.length h8 dv (D.map ss) := O8.get (i := 1) (v := dv) (o := .vec 1 D.length (D.map ss)) rfl
      have Mp : Mine 1 Pn.length h8 pv (Pn.map bv) := O8.get (i := 2) (v := pv) (o := .vec 1 Pn.length (Pn.map bv)) rfl
      have ixd := Md.sl.idx1 (P := Try.prog) Try.underlying26 ts9 (j := j) (by omega) .i64
      have ldd : aload Try.prog h8 9 dv.blk (dv.off + j) = some (.str d) := Md.sl.ld ta9 (ss_get hd)
      have ixp := Mp.sl.idx1 (P := Try.prog) Try.underlying39 ts4 (j := j) (by omega) .i64
      have ldp : aload Try.prog h8 4 pv.blk (pv.off + j) = some (.bool p) := Mp.sl.ld ta4 (by rw [List.getElem?_map, hp]; rfl)
      cases hf : findK y z7.L with
      | none =>
        rw [hf] at E8
        simp at E8
        have pf : p = false := by
          cases p with
          | false => rfl
          | true => exact absurd hf (o2 rfl)
        subst pf
        simp [q2, q7, q9, q10, q11, q12, q22, lkk, isLt (show (j : Int) < (K.length : Int) by omega), ixk, ldk, E8, ixp, ldp, i64w ((j : Int) + 1) (by omega) (by omega)]
        exact ⟨K.length - (j + 1), by omega, j + 1, rfl, by omega, ⟨by simp [q2], by simp [q7], by simp [q9], by simp [q10], by simp [q11], by simp [q12]⟩, W8, by simp⟩
      | some v =>
        have e := (o1 v hf).1
        rw [hf] at E8
        simp [e] at E8
        simp [q2, q7, q9, q10, q11, q12, q22, lkk, isLt (show (j : Int) < (K.length : Int) by omega), ixk, ldk, E8, ixd, ldd, i64w ((j : Int) + 1) (by omega) (by omega)]
        exact ⟨K.length - (j + 1), by omega, j + 1, rfl, by omega, ⟨by simp [q2], by simp [q7], by simp [q9], by simp [q10], by simp [q11], by simp [q12]⟩, W8, by simp⟩
    clear q2 q7 q9 q10 q11 q12 W6
    rintro ⟨t, h7⟩ ⟨⟨q2, q7, q9, q10, q11, q12⟩, W7⟩
    simp only at q2 q7 q9 q10 q11 q12 W7
    simp [q12, i64w ((i : Int) + 1) (by omega) (by omega)]
    refine ⟨M - (i + 1), by omega, ?_⟩
    unfold HInv
    exact ⟨i + 1, z7, K, D, Pn, kv, dv, pv, rfl, by omega, by omega, ⟨by simp [q2], by simp [q7], by simp [q9], by simp [q10], by simp [q11], by simp⟩, W7, H⟩
  · rintro ⟨t, h2⟩ _
    simp


theorem own : ownKnob Try.prog.godebug = none := by kernel_rfl
theorem laid : laidOutB Try.prog = true := by kernel_rfl

set_option maxRecDepth 100000 in
theorem lifted (os : Os) (started : os.Started) (H : Type) (enc : TypeId × Value → H) :
    ReturnsInHanded {} Try.checked os 4 .any (Rows.itemHoldsSpec.pre6 enc Try.prog Try.f4 Rows.itemHoldsRow.domain false) (Rows.itemHoldsSpec.post enc Try.prog Try.f4 false true false false) := by
  refine returnsInHanded_of_change (C := Try.checked) own started (by kernel_rfl) Try.func4
    (ChangeSpec.witness6 (enc := enc) (C := Try.checked) false ⟨#[], #[.int .i64 0, .int .i64 0, .slice none 0 0], []⟩ 8 (by kernel_rfl) (by kernel_rfl) (by kernel_rfl) (by kernel_rfl)) ?_
  intro W base args ds gs before hval0 hW hcnd _
  have hval : ∀ (j : Nat) t v, Try.f4.params.toList[j]? = some t → args.toList[j]? = some v → Value.okWide Try.prog W .any base t v := fun j t v h1 h2 => hval0 j t v (by simpa using h1) (by simpa using h2)
  have hW' := hW
  obtain ⟨p, q, hA0, hV, rfl, hfz, hnd⟩ := hW
  have hA : DataW.TrodAll enc Try.prog W 0 (fun _ => true) true Try.f4.params.toList args.toList ds p := hA0
  obtain ⟨rfl, rfl⟩ := trodVars_none hV
  have hlt : ∀ x ∈ p, x.block < W.heap.size := fun x hx => hW'.lt x (by simp [hx])
  have hps : Try.f4.params.toList = [3, 3, 37] := by rw [Try.params4]
  rw [hps] at hA hval
  obtain ⟨m, h, avs, x, g1, _, _, g2, g3, g4⟩ := (good_as1 (good_int Try.underlying3 (by kernel_rfl)) rfl (by kernel_rfl) (good_as1 (good_int Try.underlying3 (by kernel_rfl)) rfl (by kernel_rfl) (good_as1 (good_slice Try.underlying37 (by kernel_rfl) (by decide) (good_struct Try.underlying41 (by kernel_rfl) (good_fs rfl (good_int Try.underlying3 (by kernel_rfl)) (good_fs rfl (good_int Try.underlying3 (by kernel_rfl)) (good_fs rfl (good_str Try.underlying9 (by kernel_rfl)) (good_fs rfl (good_str Try.underlying9 (by kernel_rfl)) (good_fs rfl (good_bool Try.underlying4 (by kernel_rfl)) (good_fs0 _)))))))) rfl (by kernel_rfl) good_as0))) H enc W base args.toList ds p hval hA _ _ (HRo.start W)
  obtain ⟨a0, a1, a2, _⟩ := x
  obtain ⟨_, _, rfl, ⟨e0, w0⟩, ⟨_, _, rfl, ⟨e1, w1⟩, ⟨v2, _, rfl, ⟨u2, e2, w2⟩, rfl⟩⟩⟩ := g3
  obtain rfl := (List.cons.inj e0).1
  obtain rfl := (List.cons.inj e1).1
  obtain rfl := (List.cons.inj e2).1
  have hcall := law_any mixed (k := 3000000 + 10) Try.func4 (by kernel_rfl) runs_ok g1 g2 (law_run 3000000 (by decide) h a0 w0 a1 w1 v2 a2 w2)
  refine hcall.mono fun e W' ⟨he, hg⟩ => ?_
  subst he
  simp only [List.append_nil] at hW' hA0 ⊢
  have hlen : ds.length = 3 := trodAll_len hA
  have hvars : (Rows.itemHoldsSpec.fn H (ds ++ [])).vars = [] ∧ (Rows.itemHoldsSpec.fn H (ds ++ [])).args = ds ∧ (Rows.itemHoldsSpec.fn H (ds ++ [])).results = [.lit (.bool true)] := by
    rw [List.append_nil]
    match ds, hlen with
    | [d0, d1, d2], _ => exact ⟨rfl, rfl, rfl⟩
  obtain ⟨hv1, hv2, hv3⟩ := hvars
  refine ⟨_, rfl, law_post hW' rfl hg (fun _ _ _ => ?_) (fun sp hsp => ?_) hv1
    (ok_one (by kernel_rfl) rfl (okWide_bool_mk Try.underlying4 _))⟩
  · rw [hv3]
    exact (trodAll_cons_mk (shut_bool Try.underlying4 _) trodAll_mk0)
  · have hA1 := trodAll_below laid hg sp (ts := [3, 3, 37]) (by decide +kernel) hlt hsp hA
    rw [hv2, hps]
    exact hA1

theorem over : Rows.itemHoldsRow.holds Try.pinned (OpenSpec.ofChange Rows.itemHoldsSpec) :=
  OpenClaim.holds_of_wide 4 Try.f4 rfl rfl rfl rfl rfl rfl rfl ⟨rfl, rfl, rfl, rfl, rfl⟩ rfl rfl rfl rfl rfl (by kernel_rfl) Try.func4 (by kernel_rfl)
    (of_decide_eq_true (by kernel_rfl)) (by unfold Func.isWrapper; first | (rw [if_pos (by decide +kernel)]; kernel_rfl) | (rw [if_neg (by decide +kernel)]; exact ⟨rfl, rfl⟩))
    (fun os started H enc _ => lifted os started H enc)

/-- The statement. -/
theorem proved : Rows.ItemHoldsSaid :=
  over
#print axioms proved
end Go.Proofs.Ytelnkdgpghndgaa.cItemHolds
