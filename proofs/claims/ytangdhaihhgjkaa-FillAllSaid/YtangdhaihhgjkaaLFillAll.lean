/- The law FillAll returns true for every input, and its input reads behind the call as it did; no conditions. The kit's model is followed by an abstract machine that is shown to tell what the model does; the contracts of the functions are proved over that machine. -/
import Derived.Test.YtangdhaihhgjkaaRows
import Derived.Test.YtangdhaihhgjkaaFillAllA
import Derived.Test.YtangdhaihhgjkaaFillAllB
import Derived.WalkKit
import Derived.ProofKit
import Derived.OpenShut
import Derived.JoinedCond
namespace Go.Proofs.Ytangdhaihhgjkaa.cFillAll
open Go Go.ChangeShapes Go.WideShapes Go.ChangeAt Go.RowKit Go.YtangdhaihhgjkaaAbs
set_option linter.unusedSimpArgs false
set_option linter.unusedVariables false

set_option maxRecDepth 4000
/-- What the law holds at a step. -/
abbrev Rw (c : Cf) (o cb b sb : Nat) (bv : AV) (begun busy : Bool) (sv : AV) (fr : ByteArray) (kv : AV) (st : List Int) (av : AV) (at_ : List Nat) (wv : AV) (W : List ByteArray) (gv : AV) (G : List ByteArray) : List Th :=
  [(.ptr cb 0, .blk c.c), (.ptr b 0, .blk (fillC c o bv begun busy sv fr kv)), (bv, .vec 1 0 []), (.ptr sb 0, .blk (st.map ii)), (av, .vec 1 at_.length (at_.map nn)), (wv, .vec 1 W.length (W.map ss)), (gv, .vec 1 G.length (G.map ss))]
/-- What holds whenever a step begins. -/
def FInv (h : Heap) (c : Cf) (o cb b sb : Nat) (bv av v4 v5 : AV) (A B S i : Nat) (s : St) : Prop :=
  ∃ (st : List Int) (begun : Bool) (sv kv wv gv : AV) (fr : ByteArray) (scans at_ : List Nat) (P W G : List ByteArray),
    i + P.length + (if begun then wt at_ scans else 300) ≤ 300 ∧ st.length = 12 ∧ st[o]? = some 1 ∧ at_.length = S ∧ (∀ s : Nat, at_.getD s 0 ≤ 12) ∧ (∀ s, s ∈ scans → s < S) ∧ scans.length ≤ 12 ∧ (begun = false → sv = .nils ∧ P = []) ∧ (∀ x, x ∈ P → x.size ≤ 100) ∧ G ++ P.filter (onSlot c o) = W ∧ W.length ≤ 12 * i ∧
    s.t.get 4 = some v4 ∧ s.t.get 5 = some v5 ∧ s.t.get 13 = some (.int .i64 (A : Nat)) ∧ s.t.get 14 = some (.int .i64 (B : Nat)) ∧ s.t.get 15 = some (.ptr cb 0) ∧ s.t.get 16 = some (.int .i64 (o : Nat)) ∧ s.t.get 17 = some (.ptr b 0) ∧ s.t.get 19 = some (.ptr sb 0) ∧ s.t.get 21 = some wv ∧ s.t.get 22 = some gv ∧ s.t.get 23 = some av ∧ s.t.get 24 = some (.int .i64 (i : Nat)) ∧
    Wd h s.h (Rw c o cb b sb bv begun false sv fr kv st av at_ wv W gv G) ∧ Frz (Rw c o cb b sb bv begun false sv fr kv st av at_ wv W gv G) s.h sv (scans.map nn) ∧ Frz (Rw c o cb b sb bv begun false sv fr kv st av at_ wv W gv G) s.h kv (P.map ss)
theorem getD_set (l : List Nat) (s x j : Nat) (hs : s < l.length) : (l.set s x).getD j 0 = if j = s then x else l.getD j 0 := by
  simp only [List.getD, List.getElem?_set]
  by_cases q : s = j
  · subst q
    simp [hs]
  · rw [if_neg q, if_neg (fun e => q e.symm)]
/-- What holds while a scan's keys are taken. -/
def LInv (h : Heap) (c : Cf) (o cb b sb : Nat) (bv av v4 v5 : AV) (A B i : Nat) (st : List Int) (busy : Bool) (sv : AV) (fr : ByteArray) (kv gv : AV) (G : List ByteArray) (at_ E : List Nat) (s m : Nat) (z : St) : Prop :=
  ∃ (at2 : List Nat) (lv wv : AV) (L W : List ByteArray),
    m = 12 - at2.getD s 0 ∧ at2.length = at_.length ∧ (∀ j : Nat, at_.getD j 0 ≤ at2.getD j 0) ∧ (∀ j : Nat, at2.getD j 0 ≤ 12) ∧ at_.getD s 0 + L.length ≤ at2.getD s 0 ∧ (∀ x, x ∈ L → x.size ≤ 100) ∧ G ++ L.filter (onSlot c o) = W ∧
    z.t.get 4 = some v4 ∧ z.t.get 5 = some v5 ∧ z.t.get 13 = some (.int .i64 (A : Nat)) ∧ z.t.get 14 = some (.int .i64 (B : Nat)) ∧ z.t.get 15 = some (.ptr cb 0) ∧ z.t.get 16 = some (.int .i64 (o : Nat)) ∧ z.t.get 17 = some (.ptr b 0) ∧ z.t.get 19 = some (.ptr sb 0) ∧ z.t.get 21 = some wv ∧ z.t.get 22 = some gv ∧ z.t.get 23 = some av ∧ z.t.get 24 = some (.int .i64 (i : Nat)) ∧ z.t.get 27 = some (.int .i64 (s : Nat)) ∧ z.t.get 29 = some lv ∧
    Wd h z.h (Rw c o cb b sb bv true busy sv fr kv st av at2 wv W gv G ++ [(lv, .vec 1 L.length (L.map ss))]) ∧ Frz (Rw c o cb b sb bv true busy sv fr kv st av at2 wv W gv G ++ [(lv, .vec 1 L.length (L.map ss))]) z.h sv (E.map nn) ∧ Frz (Rw c o cb b sb bv true busy sv fr kv st av at2 wv W gv G ++ [(lv, .vec 1 L.length (L.map ss))]) z.h kv []
set_option maxHeartbeats 8000000 in
theorem law_run (k : Nat) (hk : 5000 < k) (h : Heap) (a0 : Int) (w0 : (Lit.int .i64 a0).wf = true) (a1 : Int) (w1 : (Lit.int .i64 a1).wf = true) (a2 : Int) (w2 : (Lit.int .i64 a2).wf = true) (a3 : Int) (w3 : (Lit.int .i64 a3).wf = true) (v4 : AV) (a4 : (List (List ByteArray))) (w4 : SlA (kSlice kStr) h v4 a4) (v5 : AV) (a5 : (List Int)) (w5 : SlA (kInt .i64) h v5 a5) :
    ∃ v h', afuncT Try.prog [] (orRuns 3 (acall Try.prog (k + 10))) (k + 10) Try.f4 [.int .i64 a0, .int .i64 a1, .int .i64 a2, .int .i64 a3, v4, v5] h = some (v, h') ∧ v = .bool true := by
  obtain ⟨S5, _⟩ := sla_ints w5
  obtain ⟨A, EA, A1, A2⟩ := within_nat (k + 9) a0 1 4 (by omega) (by omega) (by omega) h
  obtain ⟨B, EB, B1, B2⟩ := within_nat (k + 9) a1 0 3 (by omega) (by omega) (by omega) h
  obtain ⟨C, EC, C1, C2⟩ := within_nat (k + 9) a2 0 4 (by omega) (by omega) (by omega) h
  obtain ⟨S, hS⟩ : ∃ S, A + B + C = S := ⟨_, rfl⟩
  obtain ⟨c, hc⟩ : ∃ c : Cf, c = ⟨A, B, 0, S, 1, 64⟩ := ⟨_, rfl⟩
  have cS : c.S = S := by subst hc; rfl
  have cK : c.K = A := by subst hc; rfl
  have cM : c.M = B := by subst hc; rfl
  have ok : c.Ok := by subst hc; constructor <;> simp <;> omega
  have cc : c.c = [.int .i64 (A : Nat), .int .i64 (B : Nat), .int .i64 0, .int .i64 (S : Nat), .int .i64 1, .int .i64 64] := by subst hc; rfl
  have row : (AV.agg c.c).row1 = some c.c := row1_agg c.one
  have K1 : Keep h.next nob h (h.new (.cells c.c false)) := Keep.new (Nat.le_refl _) _
  have g1 : (h.new (.cells c.c false)).get h.next = some (.cells c.c false) := get_new_self _ _
  have lay1 : alay (h.new (.cells [.int .i64 0, .int .i64 0, .int .i64 0, .int .i64 0, .int .i64 0, .int .i64 0] false)) h.next 0 c.c = some (h.new (.cells c.c false)) := alay_new rfl
  obtain ⟨cb, hcb⟩ : ∃ cb, h.next = cb := ⟨_, rfl⟩
  have W1 : Wd h (h.new (.cells c.c false)) [(.ptr cb 0, .blk c.c)] := (Wd.start h).snoc K1 ⟨cb, rfl, by rw [← hcb]; exact Nat.lt_succ_self _, by rw [← hcb]; exact g1⟩ (fun d hd => by cases hd; omega)
  obtain ⟨h1, e1⟩ : ∃ h1, h.new (.cells c.c false) = h1 := ⟨_, rfl⟩
  rw [e1] at K1 g1 lay1 W1
  rw [hcb] at g1 lay1
  have ldc1 : aload Try.prog h1 27 cb 0 = some (.agg c.c) := by simp [aload, Heap.row, g1, Cf.c]
  have ldS : aload Try.prog h1 3 cb 3 = some (.int .i64 (S : Nat)) := ldc g1 ta3 (by rw [cc]; rfl)
  obtain ⟨o, EO, o1, o2⟩ := within_nat (k + 9) a3 0 ((S : Int) - 1) (by omega) (by omega) (by omega) h1
  have wA : fwrap .i64 ((A : Int) + B) = (A : Int) + B := i64w _ (by omega) (by omega)
  have wB : fwrap .i64 ((A : Int) + B + C) = (S : Int) := by rw [i64w _ (by omega) (by omega)]; omega
  have wS : fwrap .i64 ((S : Int) - 1) = (S : Int) - 1 := i64w _ (by omega) (by omega)
  obtain ⟨_, h2, E2, b, bv, rfl, W2⟩ := nfill_ok (k + 5) (by omega) h1 c ok o (by omega) .nils [] (Mine.nil 1 h1).sl (by simp)
  rw [cc] at row lay1 E2
  refine afuncT_ex rfl (by simp [Try.f4]) ?_
  have ae : aeql Try.prog 22 (.ptr b 0) .nilp = some false := by rfl
  have aw : alen .nils = some 0 := rfl
  simp [Try.f4, afill, aalloc, hcb, EA, EB, EC, wA, wB, row, lay1, ldS, wS, EO, ldc1, cc, E2, ae]
  have W3 := (W1.join W2).snoc (v := .ptr h2.next 0) (o := .blk zst) (Keep.new (Nat.le_refl _) (.cells zst false)) ⟨_, rfl, Nat.lt_succ_self _, get_new_self _ _⟩ (fun d hd => by cases hd; exact Nat.le_refl _)
  obtain ⟨sb, hsb⟩ : ∃ sb, h2.next = sb := ⟨_, rfl⟩
  obtain ⟨h3, e3⟩ : ∃ h3, h2.new (.cells zst false) = h3 := ⟨_, rfl⟩
  rw [e3, hsb] at W3
  have e3' : h2.new (.cells [.int .i64 0, .int .i64 0, .int .i64 0, .int .i64 0, .int .i64 0, .int .i64 0, .int .i64 0, .int .i64 0, .int .i64 0, .int .i64 0, .int .i64 0, .int .i64 0] false) = h3 := e3
  rw [e3', hsb]
  have W3 : Wd h h3 [(.ptr cb 0, .blk c.c), (.ptr b 0, .blk (fillC c o bv false false .nils .empty .nils)), (bv, .vec 1 0 []), (.ptr sb 0, .blk ((List.replicate 12 (0 : Int)).map ii))] := W3
  refine W_cutLoop 0 (fun s => ∃ (st : List Int), st.length = 12 ∧ s.t.get 4 = some v4 ∧ s.t.get 5 = some v5 ∧ s.t.get 13 = some (.int .i64 (A : Nat)) ∧ s.t.get 14 = some (.int .i64 (B : Nat)) ∧ s.t.get 15 = some (.ptr cb 0) ∧ s.t.get 16 = some (.int .i64 (o : Nat)) ∧ s.t.get 17 = some (.ptr b 0) ∧ s.t.get 19 = some (.ptr sb 0) ∧
    Wd h s.h [(.ptr cb 0, .blk c.c), (.ptr b 0, .blk (fillC c o bv false false .nils .empty .nils)), (bv, .vec 1 0 []), (.ptr sb 0, .blk (st.map ii))]) ?_ ?_
  · refine W_loop (fun mm s => ∃ (i : Nat) (st : List Int), mm = S - i ∧ i ≤ S ∧ s.t.get 20 = some (.int .i64 (i : Nat)) ∧ st.length = 12 ∧ s.t.get 4 = some v4 ∧ s.t.get 5 = some v5 ∧ s.t.get 13 = some (.int .i64 (A : Nat)) ∧ s.t.get 14 = some (.int .i64 (B : Nat)) ∧ s.t.get 15 = some (.ptr cb 0) ∧ s.t.get 16 = some (.int .i64 (o : Nat)) ∧ s.t.get 17 = some (.ptr b 0) ∧ s.t.get 19 = some (.ptr sb 0) ∧
      Wd h s.h [(.ptr cb 0, .blk c.c), (.ptr b 0, .blk (fillC c o bv false false .nils .empty .nils)), (bv, .vec 1 0 []), (.ptr sb 0, .blk (st.map ii))]) S (by omega)
      ⟨0, List.replicate 12 0, by omega, by omega, by simp, by simp, by simp, by simp, by simp, by simp, by simp, by simp, by simp, by simp, W3⟩ ?_
    rintro mm ⟨t, h4⟩ ⟨i, st, rfl, hi, q20, hst, q4, q5, q13, q14, q15, q16, q17, q19, W4⟩
    simp only at q20 q4 q5 q13 q14 q15 q16 q17 q19 W4
    obtain ⟨cb', ec, cl, cg⟩ := W4.own.get (i := 0) (v := .ptr cb 0) (o := .blk c.c) rfl
    cases ec
    obtain ⟨sb', es, sl, sg⟩ := W4.own.get (i := 3) (v := .ptr sb 0) (o := .blk (st.map ii)) rfl
    cases es
    have ldS : aload Try.prog h4 3 cb 3 = some (.int .i64 (S : Nat)) := ldc cg ta3 (by rw [cc]; rfl)
    by_cases hlt : i < S
    case neg =>
      simp [q20, q15, ldS, (show S ≤ i by omega)]
      exact ⟨st, hst, q4, q5, q13, q14, q16, q17, q19, W4⟩
    have ix : aindex Try.prog 28 (.ptr sb 0) (.int .i64 (i : Nat)) = some (.ptr sb i) := by
      simp [aindex, Try.underlying28]
      omega
    obtain ⟨h5, al5, g5, K5, lt5⟩ := fset (C' := (st.set i 2).map ii) (i := i) (v := .int .i64 2) sg sl (by simp; omega) (by rw [List.map_set]; rfl)
    have W5 := W4.upd (i := 3) (v := .ptr sb 0) (o := .blk (st.map ii)) rfl (h1 := h5) (K5.weak (Nat.le_refl _) fun d _ e => by show AV.at? (.ptr sb 0) = some d; rw [e]; rfl) (v' := .ptr sb 0) (o' := .blk ((st.set i 2).map ii)) ⟨sb, rfl, lt5, g5⟩ (From.refl _ _)
    simp [q20, q15, q19, ldS, isLt (show (i : Int) < (S : Int) by omega), ix, al5, i64w ((i : Int) + 1) (by omega) (by omega)]
    exact ⟨S - (i + 1), by omega, i + 1, rfl, by omega, by simp, st.set i 2, by simpa using hst, q4, q5, q13, q14, q16, q17, W5⟩
  rintro ⟨t, h4⟩ ⟨st, hst, q4, q5, q13, q14, q15, q16, q17, q19, W4⟩
  simp only at q4 q5 q13 q14 q15 q16 q17 q19 W4
  obtain ⟨cb', ec, cl, cg⟩ := W4.own.get (i := 0) (v := .ptr cb 0) (o := .blk c.c) rfl
  cases ec
  obtain ⟨sb', es, sl, sg⟩ := W4.own.get (i := 3) (v := .ptr sb 0) (o := .blk (st.map ii)) rfl
  cases es
  have ix : aindex Try.prog 28 (.ptr sb 0) (.int .i64 (o : Nat)) = some (.ptr sb o) := by
    simp [aindex, Try.underlying28]
    omega
  obtain ⟨h5, al5, g5, K5, lt5⟩ := fset (C' := (st.set o 1).map ii) (i := o) (v := .int .i64 1) sg sl (by simp; omega) (by rw [List.map_set]; rfl)
  have W5 := W4.upd (i := 3) (v := .ptr sb 0) (o := .blk (st.map ii)) rfl (h1 := h5) (K5.weak (Nat.le_refl _) fun d _ e => by show AV.at? (.ptr sb 0) = some d; rw [e]; rfl) (v' := .ptr sb 0) (o' := .blk ((st.set o 1).map ii)) ⟨sb, rfl, lt5, g5⟩ (From.refl _ _)
  obtain ⟨cb', ec, cl5, cg5⟩ := W5.own.get (i := 0) (v := .ptr cb 0) (o := .blk c.c) rfl
  cases ec
  have ldS : aload Try.prog h5 3 cb 3 = some (.int .i64 (S : Nat)) := ldc cg5 ta3 (by rw [cc]; rfl)
  have M6 : Mine 1 S (h5.new (.cells (List.replicate S (.int .i64 0)) false)) (.sl h5.next 0 S S 1 true) ((List.replicate S (0 : Nat)).map nn) := by
    have := Mine.new (sz := 1) (n := S) (m := S) h5 (List.replicate S (.int .i64 0)) (by simp) (Nat.le_refl _) (by simp [AV.one]) true
    simpa [nn] using this
  have W6 := W5.snoc (v := .sl h5.next 0 S S 1 true) (o := .vec 1 S ((List.replicate S (0 : Nat)).map nn)) (Keep.new (Nat.le_refl _) _) M6 (fun d hd => by cases hd; exact Nat.le_refl _)
  obtain ⟨av, hav⟩ : ∃ av, AV.sl h5.next 0 S S 1 true = av := ⟨_, rfl⟩
  obtain ⟨h6, e6⟩ : ∃ h6, h5.new (.cells (List.replicate S (.int .i64 0)) false) = h6 := ⟨_, rfl⟩
  rw [e6, hav] at W6
  have W6 : Wd h h6 [(.ptr cb 0, .blk c.c), (.ptr b 0, .blk (fillC c o bv false false .nils .empty .nils)), (bv, .vec 1 0 []), (.ptr sb 0, .blk ((st.set o 1).map ii)), (av, .vec 1 S ((List.replicate S (0 : Nat)).map nn))] := W6
  simp [q15, q16, q17, q19, ix, al5, ldS, aalloc_make (P := Try.prog) el35 (z := [.int .i64 0]) az3 rfl rfl S S (Nat.le_refl _) (by omega), flat1, afill, e6, hav]
  obtain ⟨rs, R4⟩ := txs_arg w4
  have ho : (st.set o 1)[o]? = some 1 := List.getElem?_set_self (by omega)
  have hs12 : (st.set o 1).length = 12 := by simpa using hst
  generalize st.set o 1 = st at W6 ho hs12
  have W7 : Wd h h6 (Rw c o cb b sb bv false false .nils .empty .nils st av (List.replicate S 0) .nils [] .nils []) := by
    have := (W6.snoc (v := .nils) (o := .vec 1 0 []) (Keep.refl _ _ _) (Mine.nil 1 h6) (fun d hd => by cases hd)).snoc (v := .nils) (o := .vec 1 0 []) (Keep.refl _ _ _) (Mine.nil 1 h6) (fun d hd => by cases hd)
    simpa [Rw] using this
  refine W_loop (fun mm s => ∃ (i : Nat), mm = 400 - i ∧ FInv h c o cb b sb bv av v4 v5 A B S i s) 400 (by omega)
    ⟨0, rfl, by
      unfold FInv
      exact ⟨st, false, .nils, .nils, .nils, .nils, .empty, [], List.replicate S 0, [], [], [], by simp, hs12, ho, by simp, by intro s; simp only [List.getD, List.getElem?_replicate]; split <;> simp, by simp, by simp, by simp, by simp, by simp, by simp, by simp [q4], by simp [q5], by simp [q13], by simp [q14], by simp [q15], by simp [q16], by simp [q17], by simp [q19], by simp, by simp, by simp, by simp, W7, Frz.nil _ _, Frz.nil _ _⟩⟩ ?_
  rintro mm ⟨t, h7⟩ ⟨i, rfl, hF⟩
  unfold FInv at hF
  obtain ⟨st, begun, sv, kv, wv, gv, fr, scans, at_, P, W, G, hwt, hs12, ho, hal, hat, hsS, hs12', hb, hP, hGW, hWi, q4, q5, q13, q14, q15, q16, q17, q19, q21, q22, q23, q24, W8, FS, FK⟩ := hF
  simp only at q4 q5 q13 q14 q15 q16 q17 q19 q21 q22 q23 q24 W8 FS FK
  have hi : i < 400 := by split at hwt <;> omega
  have l5 := (S5.ext W8.kb).len'
  simp [q24, isLt (show (i : Int) < 400 by omega), W_stop 18, -W_regionR0]
  refine W_cutR rfl (fun s => s.h = h7 ∧ (∃ q : Bool, s.t.get 89 = some (.bool q) ∧ (q = true → i < a5.length)) ∧ s.t.get 4 = some v4 ∧ s.t.get 5 = some v5 ∧ s.t.get 13 = some (.int .i64 (A : Nat)) ∧ s.t.get 14 = some (.int .i64 (B : Nat)) ∧ s.t.get 15 = some (.ptr cb 0) ∧ s.t.get 16 = some (.int .i64 (o : Nat)) ∧ s.t.get 17 = some (.ptr b 0) ∧ s.t.get 19 = some (.ptr sb 0) ∧ s.t.get 21 = some wv ∧ s.t.get 22 = some gv ∧ s.t.get 23 = some av ∧ s.t.get 24 = some (.int .i64 (i : Nat))) ?_ ?_
  · by_cases hg : i < a5.length
    · obtain ⟨y, hy⟩ : ∃ y, a5[i]? = some y := ⟨a5[i], by simp⟩
      have S7 := S5.ext W8.kb
      have ix := S7.idx1 (P := Try.prog) Try.underlying35 ts3 (j := i) hg .i64
      have ld : aload Try.prog h7 3 v5.blk (v5.off + i) = some (.int .i64 y) := S7.ld ta3 (ii_get hy)
      simp [q24, q5, l5, isLt (show (i : Int) < (a5.length : Int) by omega), ix, ld, q4, q13, q14, q15, q16, q17, q19, q21, q22, q23]
      exact fun _ => hg
    · simp [q24, q5, l5, (show a5.length ≤ i by omega), q4, q13, q14, q15, q16, q17, q19, q21, q22, q23]
  rintro ⟨t, h7'⟩ ⟨e, ⟨q, q89, hq⟩, q4, q5, q13, q14, q15, q16, q17, q19, q21, q22, q23, q24⟩
  simp only at q89 q4 q5 q13 q14 q15 q16 q17 q19 q21 q22 q23 q24 e
  subst e
  simp [-W_cond]
  refine W_cutN (fun s => ∃ st : List Int, st.length = 12 ∧ st[o]? = some 1 ∧ s.t.get 4 = some v4 ∧ s.t.get 5 = some v5 ∧ s.t.get 13 = some (.int .i64 (A : Nat)) ∧ s.t.get 14 = some (.int .i64 (B : Nat)) ∧ s.t.get 15 = some (.ptr cb 0) ∧ s.t.get 16 = some (.int .i64 (o : Nat)) ∧ s.t.get 17 = some (.ptr b 0) ∧ s.t.get 19 = some (.ptr sb 0) ∧ s.t.get 21 = some wv ∧ s.t.get 22 = some gv ∧ s.t.get 23 = some av ∧ s.t.get 24 = some (.int .i64 (i : Nat)) ∧
    Wd h s.h (Rw c o cb b sb bv begun false sv fr kv st av at_ wv W gv G) ∧ Frz (Rw c o cb b sb bv begun false sv fr kv st av at_ wv W gv G) s.h sv (scans.map nn) ∧ Frz (Rw c o cb b sb bv begun false sv fr kv st av at_ wv W gv G) s.h kv (P.map ss)) ?_ ?_
  · cases q with
    | false =>
      simp [q89]
      exact ⟨st, hs12, ho, q4, q5, q13, q14, q15, q16, q17, q19, q21, q22, q23, q24, W8, FS, FK⟩
    | true =>
      have hg := hq rfl
      obtain ⟨y, hy⟩ : ∃ y, a5[i]? = some y := ⟨a5[i], by simp⟩
      have S7 := S5.ext W8.kb
      have ix := S7.idx1 (P := Try.prog) Try.underlying35 ts3 (j := i) hg .i64
      have ld : aload Try.prog h7' 3 v5.blk (v5.off + i) = some (.int .i64 y) := S7.ld ta3 (ii_get hy)
      obtain ⟨cb', ec, cl7, cg7⟩ := W8.own.get (i := 0) (v := .ptr cb 0) (o := .blk c.c) rfl
      cases ec
      obtain ⟨sb', es, sl7, sg7⟩ := W8.own.get (i := 3) (v := .ptr sb 0) (o := .blk (st.map ii)) rfl
      cases es
      have ldS : aload Try.prog h7' 3 cb 3 = some (.int .i64 (S : Nat)) := ldc cg7 ta3 (by rw [cc]; rfl)
      obtain ⟨n, EN, n1, n2⟩ := within_nat (k + 9) y 0 ((S : Int) - 1) (by omega) (by omega) (by omega) h7'
      by_cases hn : n = o
      · rw [hn] at EN
        simp [q89, q5, q24, ix, ld, q15, ldS, wS, EN, q16]
        exact ⟨st, hs12, ho, q4, q13, q14, q17, q19, q21, q22, q23, W8, FS, FK⟩
      · have ixs : aindex Try.prog 28 (.ptr sb 0) (.int .i64 (n : Nat)) = some (.ptr sb n) := by
          simp [aindex, Try.underlying28]
          omega
        obtain ⟨h8, a8, g8, K8, lt8⟩ := fset (C' := (st.set n 0).map ii) (i := n) (v := .int .i64 0) sg7 sl7 (by simp; omega) (by rw [List.map_set]; rfl)
        have K8' : Keep h7'.next (Has (.ptr sb 0)) h7' h8 := K8.weak (Nat.le_refl _) fun d _ e => by show AV.at? (.ptr sb 0) = some d; rw [e]; rfl
        have W9 := W8.upd (i := 3) (v := .ptr sb 0) (o := .blk (st.map ii)) rfl K8' (v' := .ptr sb 0) (o' := .blk ((st.set n 0).map ii)) ⟨sb, rfl, lt8, g8⟩ (From.refl _ _)
        have FS9 := FS.upd (i := 3) (x := .ptr sb 0) (o := .blk (st.map ii)) rfl K8' (x' := .ptr sb 0) (o' := .blk ((st.set n 0).map ii)) (From.refl _ _)
        have FK9 := FK.upd (i := 3) (x := .ptr sb 0) (o := .blk (st.map ii)) rfl K8' (x' := .ptr sb 0) (o' := .blk ((st.set n 0).map ii)) (From.refl _ _)
        simp [q89, q5, q24, ix, ld, q15, ldS, wS, EN, q16, q19, (show ¬ ((n : Int) = (o : Int)) by omega), ixs, a8]
        exact ⟨st.set n 0, by simpa using hs12, by rw [List.getElem?_set_ne hn]; exact ho, q4, q13, q14, q17, q21, q22, q23, W9, FS9, FK9⟩
  rintro ⟨t, h8⟩ ⟨st, hs12, ho, q4, q5, q13, q14, q15, q16, q17, q19, q21, q22, q23, q24, W9, FS, FK⟩
  simp only at q4 q5 q13 q14 q15 q16 q17 q19 q21 q22 q23 q24 W9 FS FK
  obtain ⟨b', eb, bl, bg⟩ := W9.own.get (i := 1) (v := .ptr b 0) (o := .blk (fillC c o bv begun false sv fr kv)) rfl
  cases eb
  have Mb : Mine 1 0 h8 bv [] := W9.own.get (i := 2) (v := bv) (o := .vec 1 0 []) rfl
  obtain ⟨sb', es, sl8, sg8⟩ := W9.own.get (i := 3) (v := .ptr sb 0) (o := .blk (st.map ii)) rfl
  cases es
  have inb : ∀ d, d = b → Inn (Rw c o cb b sb bv begun false sv fr kv st av at_ wv W gv G) d := fun d e => in_iff.2 ⟨(.ptr b 0, .blk (fillC c o bv begun false sv fr kv)), by simp [Rw], by subst e; rfl⟩
  have lds : aload Try.prog h8 28 sb 0 = some (.agg (st.map ii)) := by
    have tk : (st.map ii).take 12 = st.map ii := List.take_of_length_le (by simp; omega)
    simp [aload, Heap.row, sg8, hs12, tk]
  obtain ⟨_, h9, E9, sv9, kv9, fr9, X, E, D, busy, hX, hD, hE, SS9, SK9, hs9, hk9, bg9, K9, rfl⟩ := next_ok (k + 5) h8 c ok o b bv begun sv fr kv scans P st hs12 bg bl Mb.sl (by simpa using FS.sl) (by simpa using FK.sl) (fun q => FS.no b q (inb b rfl)) (fun q => FK.no b q (inb b rfl)) (fun s hs => by have := hsS s hs; omega) hs12' (fun q => (hb q).1) hP (by split at hwt <;> omega)
  have K9' : Keep h8.next (Has (.ptr b 0)) h8 h9 := K9.weak (Nat.le_refl _) fun d _ e => by show AV.at? (.ptr b 0) = some d; rw [e]; rfl
  have W10 := W9.upd (i := 1) (v := .ptr b 0) (o := .blk (fillC c o bv begun false sv fr kv)) rfl K9' (v' := .ptr b 0) (o' := .blk (fillC c o bv true busy sv9 fr9 kv9)) ⟨b, rfl, Nat.lt_of_lt_of_le bl K9.1, bg9⟩ (From.refl _ _)
  have W10 : Wd h h9 (Rw c o cb b sb bv true busy sv9 fr9 kv9 st av at_ wv W gv G) := W10
  have inn : ∀ d, Inn (Rw c o cb b sb bv true busy sv9 fr9 kv9 st av at_ wv W gv G) d → Inn (Rw c o cb b sb bv begun false sv fr kv st av at_ wv W gv G) d := fun d q => q
  have FS9 : Frz (Rw c o cb b sb bv true busy sv9 fr9 kv9 st av at_ wv W gv G) h9 sv9 (E.map nn) := by
    refine ⟨by simpa using SS9, fun d hd => ?_, fun d hd q => ?_⟩
    · exact sl_lt SS9 hd
    · rcases hs9 d hd with z | z
      · exact FS.no d z (inn d q)
      · have := W9.own.lt (inn d q); omega
  have FK9 : Frz (Rw c o cb b sb bv true busy sv9 fr9 kv9 st av at_ wv W gv G) h9 kv9 ((D.drop 1).map ss) := by
    refine ⟨by simpa using SK9, fun d hd => sl_lt SK9 hd, fun d hd q => FK.no d (hk9 d hd) (inn d q)⟩
  have Mg : Mine 1 G.length h9 gv (G.map ss) := W10.own.get (i := 6) (v := gv) (o := .vec 1 G.length (G.map ss)) rfl
  have Mw : Mine 1 W.length h9 wv (W.map ss) := W10.own.get (i := 5) (v := wv) (o := .vec 1 W.length (W.map ss)) rfl
  cases D with
  | cons x r =>
    simp only at E9
    have E9 : acall Try.prog (k + 10) 13 [.ptr b 0, .agg (st.map ii)] h8 = some (.tup [.int .i64 2, .int .i64 0, .str x], h9) := E9
    obtain ⟨px, pf, pr, pm⟩ := drop_cons hD.symm
    rw [if_neg (by simp)] at hE
    subst hE
    have hb' : begun = true := by
      cases begun with
      | true => rfl
      | false =>
        have := (hb rfl).2
        subst this
        simp at pr
    subst hb'
    simp only [if_true] at hX hwt
    subst hX
    have lG : G.length ≤ W.length := by rw [← hGW]; simp
    obtain ⟨gv', h10, a10, M10, F10, K10⟩ := Mg.push (P := Try.prog) el32 (a := [ss x]) (ex := true) rfl rfl (by omega)
    have a10 : aappend Try.prog (h9.new (.cells [.str x] false)) 32 32 gv (.sl h9.next 0 1 1 1 true) = some (gv', h10) := a10
    have M10' : Mine 1 (G ++ [x]).length h10 gv' ((G ++ [x]).map ss) := by simpa using M10
    have W11 := W10.upd (i := 6) (v := gv) (o := .vec 1 G.length (G.map ss)) rfl K10 (v' := gv') (o' := .vec 1 (G ++ [x]).length ((G ++ [x]).map ss)) M10' F10
    have FS11 := FS9.upd (i := 6) (x := gv) (o := .vec 1 G.length (G.map ss)) rfl K10 (x' := gv') (o' := .vec 1 (G ++ [x]).length ((G ++ [x]).map ss)) F10
    have FK11 := FK9.upd (i := 6) (x := gv) (o := .vec 1 G.length (G.map ss)) rfl K10 (x' := gv') (o' := .vec 1 (G ++ [x]).length ((G ++ [x]).map ss)) F10
    obtain ⟨b', eb, bl10, bg10⟩ := W11.own.get (i := 1) (v := .ptr b 0) (o := .blk (fillC c o bv true busy sv9 fr9 kv9)) rfl
    cases eb
    obtain ⟨_, h11, E11, rfl, g11, K11⟩ := keyed_ok (k + 9) h10 c o b bv true busy sv9 fr9 kv9 bg10 bl10
    have K11' : Keep h10.next (Has (.ptr b 0)) h10 h11 := K11.weak (Nat.le_refl _) fun d _ e => by show AV.at? (.ptr b 0) = some d; rw [e]; rfl
    have W12 := W11.upd (i := 1) (v := .ptr b 0) (o := .blk (fillC c o bv true busy sv9 fr9 kv9)) rfl K11' (v' := .ptr b 0) (o' := .blk (fillC c o bv true false sv9 fr9 kv9)) ⟨b, rfl, Nat.lt_of_lt_of_le bl10 K11.1, g11⟩ (From.refl _ _)
    have FS12 := FS11.upd (i := 1) (x := .ptr b 0) (o := .blk (fillC c o bv true busy sv9 fr9 kv9)) rfl K11' (x' := .ptr b 0) (o' := .blk (fillC c o bv true false sv9 fr9 kv9)) (From.refl _ _)
    have FK12 := FK11.upd (i := 1) (x := .ptr b 0) (o := .blk (fillC c o bv true busy sv9 fr9 kv9)) rfl K11' (x' := .ptr b 0) (o' := .blk (fillC c o bv true false sv9 fr9 kv9)) (From.refl _ _)
    simp [q17, q19, lds, E9, q22, aalloc, afill, a10, E11, q24, i64w ((i : Int) + 1) (by omega) (by omega)]
    refine ⟨400 - (i + 1), by omega, i + 1, rfl, ?_⟩
    unfold FInv
    refine ⟨st, true, sv9, kv9, wv, gv', fr9, E, at_, r, W, G ++ [x], by simp; omega, hs12, ho, hal, hat, hsS, hs12', by simp, fun y hy => hP y (pm y hy), ?_, by omega, by simp [q4], by simp [q5], by simp [q13], by simp [q14], by simp [q15], by simp [q16], by simp [q17], by simp [q19], by simp [q21], by simp, by simp [q23], by simp, W12, FS12, FK12⟩
    rw [← hGW, pf]
    simp
  | nil =>
    have pn : P.filter (onSlot c o) = [] := drop_nil hD.symm
    rw [if_pos rfl] at hE
    rw [pn, List.append_nil] at hGW
    subst hGW
    cases E with
    | nil =>
      simp only at E9
      have ES := sameS_ok (k + 9) h9 gv wv G Mg.sl Mw.sl (by omega) (by omega)
      simp [q17, q19, lds, E9, ES, q21, q22]
    | cons s Y =>
      simp only at E9
      have E9 : acall Try.prog (k + 10) 13 [.ptr b 0, .agg (st.map ii)] h8 = some (.tup [.int .i64 1, .int .i64 (s : Nat), .str fr9], h9) := E9
      have hup : st[s]? = some 2 := by
        have := List.head?_dropWhile_not (fun s => !isUp st s) X
        rw [← hE] at this
        simpa [isUp] using this
      have hso : s ≠ o := by
        intro e
        rw [e, ho] at hup
        simp at hup
      have hXm : ∀ y, y ∈ s :: Y → y ∈ X := fun y hy => mem_drop (hE ▸ hy)
      have hX12 : ∀ y, y ∈ X → y < S := by
        intro y hy
        rw [hX] at hy
        split at hy
        · exact hsS y hy
        · rw [← cS]
          exact List.mem_range.1 (List.mem_filter.1 hy).1
      have hXl : X.length ≤ 12 := by
        rw [hX]
        split
        · exact hs12'
        · exact Nat.le_trans (upS_len _ _ _) (by omega)
      have hEl : (s :: Y).length ≤ 12 := by
        rw [hE]
        exact Nat.le_trans (List.dropWhile_sublist _).length_le hXl
      have hwX : i + wt at_ X ≤ 300 := by
        rw [hX]
        split at hwt
        · rename_i q
          rw [if_pos q]
          omega
        · rename_i q
          rw [if_neg q]
          have := wt_le at_ (upS st o c.S)
          have := upS_len st o c.S
          omega
      have hwE : wt at_ (s :: Y) ≤ wt at_ X := by
        rw [hE]
        exact wt_drop _ _ _
      have hs : s < S := hX12 s (hXm s (by simp))
      have D9 : (List.drop 1 ([] : List ByteArray)).map ss = [] := rfl
      rw [D9] at FK9
      clear hP hwt
      obtain ⟨cb', ec, cl9, cg9⟩ := W10.own.get (i := 0) (v := .ptr cb 0) (o := .blk c.c) rfl
      cases ec
      obtain ⟨sb', es, sl9, sg9⟩ := W10.own.get (i := 3) (v := .ptr sb 0) (o := .blk (st.map ii)) rfl
      cases es
      have ldS : aload Try.prog h9 3 cb 3 = some (.int .i64 (S : Nat)) := ldc cg9 ta3 (by rw [cc]; rfl)
      have ixs : aindex Try.prog 28 (.ptr sb 0) (.int .i64 (s : Nat)) = some (.ptr sb s) := by
        simp [aindex, Try.underlying28]
        omega
      have ld2 : aload Try.prog h9 3 sb s = some (.int .i64 2) := ldc sg9 ta3 (ii_get hup)
      have W11 : Wd h h9 (Rw c o cb b sb bv true busy sv9 fr9 kv9 st av at_ wv G gv G ++ [(.nils, .vec 1 0 [])]) := W10.snoc (v := .nils) (o := .vec 1 0 []) (Keep.refl _ _ _) (Mine.nil 1 h9) (fun d hd => by cases hd)
      have FS11 : Frz (Rw c o cb b sb bv true busy sv9 fr9 kv9 st av at_ wv G gv G ++ [(.nils, .vec 1 0 [])]) h9 sv9 ((s :: Y).map nn) := FS9.snoc (Keep.refl _ _ _) (fun d hd => by cases hd)
      have FK11 : Frz (Rw c o cb b sb bv true busy sv9 fr9 kv9 st av at_ wv G gv G ++ [(.nils, .vec 1 0 [])]) h9 kv9 [] := FK9.snoc (Keep.refl _ _ _) (fun d hd => by cases hd)
      simp [q17, q19, lds, E9, q15, q16, ldS, ixs, ld2, isLt (show (s : Int) < (S : Int) by omega), (show ¬ ((s : Int) = (o : Int)) by omega)]
      refine W_cutLoop 5 (fun z => ∃ m, LInv h c o cb b sb bv av v4 v5 A B i st busy sv9 fr9 kv9 gv G at_ (s :: Y) s m z) ?_ ?_
      · refine W_loop (LInv h c o cb b sb bv av v4 v5 A B i st busy sv9 fr9 kv9 gv G at_ (s :: Y) s) (12 - at_.getD s 0) (by omega) ?_ ?_
        · unfold LInv
          exact ⟨at_, .nils, wv, [], G, rfl, rfl, fun _ => Nat.le_refl _, hat, by simp, by simp, by simp, by simp [q4], by simp [q5], by simp [q13], by simp [q14], by simp [q15], by simp [q16], by simp [q17], by simp [q19], by simp [q21], by simp [q22], by simp [q23], by simp [q24], by simp, by simp, W11, FS11, FK11⟩
        rintro m ⟨t, h10⟩ hL
        unfold LInv at hL
        obtain ⟨at2, lv, wv2, L, W2, rfl, hal2, hat2, hat12, hLl, hLs, hGW2, q4, q5, q13, q14, q15, q16, q17, q19, q21, q22, q23, q24, q27, q29, W12, FS12, FK12⟩ := hL
        simp only at q4 q5 q13 q14 q15 q16 q17 q19 q21 q22 q23 q24 q27 q29 W12 FS12 FK12
        have R10 := R4.ext W12.kb
        have Ml : Mine 1 L.length h10 lv (L.map ss) := W12.own.get (i := 7) (v := lv) (o := .vec 1 L.length (L.map ss)) rfl
        have Ma : Mine 1 at2.length h10 av (at2.map nn) := W12.own.get (i := 4) (v := av) (o := .vec 1 at2.length (at2.map nn)) rfl
        have la4 := R10.sl.len'
        have ll := Ml.sl.len'
        have hs2 : s < at2.length := by omega
        obtain ⟨y, hy⟩ : ∃ y, at2[s]? = some y := ⟨at2[s], by simp⟩
        have hyd : at2.getD s 0 = y := by simp [List.getD, hy]
        have hyd2 : at2[s]?.getD 0 = y := by rw [hy]; rfl
        have iy := Ma.sl.idx1 (P := Try.prog) Try.underlying35 ts3 (j := s) hs2 .i64
        have ly : aload Try.prog h10 3 av.blk (av.off + s) = some (.int .i64 (y : Nat)) := Ma.sl.ld ta3 (by rw [List.getElem?_map, hy]; rfl)
        have hy12 := hat12 s
        rw [hyd] at hLl hy12
        simp [W_stop 29, -W_regionR0]
        refine W_cutR rfl (fun z => z.h = h10 ∧ (∃ q : Bool, z.t.get 159 = some (.bool q) ∧ (q = true → y < 12 ∧ ∃ (r : AV) (Lk : List ByteArray), rs[s]? = some r ∧ a4[s]? = some Lk ∧ y < Lk.length)) ∧ z.t.get 4 = some v4 ∧ z.t.get 5 = some v5 ∧ z.t.get 13 = some (.int .i64 (A : Nat)) ∧ z.t.get 14 = some (.int .i64 (B : Nat)) ∧ z.t.get 15 = some (.ptr cb 0) ∧ z.t.get 16 = some (.int .i64 (o : Nat)) ∧ z.t.get 17 = some (.ptr b 0) ∧ z.t.get 19 = some (.ptr sb 0) ∧ z.t.get 21 = some wv2 ∧ z.t.get 22 = some gv ∧ z.t.get 23 = some av ∧ z.t.get 24 = some (.int .i64 (i : Nat)) ∧ z.t.get 27 = some (.int .i64 (s : Nat)) ∧ z.t.get 29 = some lv) ?_ ?_
        · by_cases h1 : s < a4.length
          · obtain ⟨Lk, hLk⟩ : ∃ Lk, a4[s]? = some Lk := ⟨a4[s], by simp⟩
            have hrl := R10.sl.length
            obtain ⟨r, hr⟩ : ∃ r, rs[s]? = some r := ⟨rs[s]'(by omega), by simp⟩
            have Sr := R10.row s r Lk hr hLk
            have ir := R10.sl.idx1 (P := Try.prog) Try.underlying34 ts32 (j := s) h1 .i64
            have lr : aload Try.prog h10 32 v4.blk (v4.off + s) = some r := R10.sl.ld ta32 hr
            have lLk := Sr.len'
            by_cases h2 : y < Lk.length
            · by_cases h3 : y < 12
              · by_cases h4 : L.length < 3
                · simp [q27, q4, q23, q29, la4, isLt (show (s : Int) < (a4.length : Int) by omega), iy, ly, ir, lr, lLk, isLt (show (y : Int) < (Lk.length : Int) by omega), isLt (show (y : Int) < 12 by omega), ll, isLt (show (L.length : Int) < 3 by omega), q5, q13, q14, q15, q16, q17, q19, q21, q22, q24]
                  exact ⟨h3, ⟨r, hr⟩, Lk, hLk, h2⟩
                · simp [q27, q4, q23, q29, la4, isLt (show (s : Int) < (a4.length : Int) by omega), iy, ly, ir, lr, lLk, isLt (show (y : Int) < (Lk.length : Int) by omega), isLt (show (y : Int) < 12 by omega), ll, (show (3 : Int) ≤ (L.length : Int) by omega), q5, q13, q14, q15, q16, q17, q19, q21, q22, q24]
              · simp [q27, q4, q23, q29, la4, isLt (show (s : Int) < (a4.length : Int) by omega), iy, ly, ir, lr, lLk, isLt (show (y : Int) < (Lk.length : Int) by omega), (show (12 : Int) ≤ (y : Int) by omega), ll, q5, q13, q14, q15, q16, q17, q19, q21, q22, q24]
            · simp [q27, q4, q23, q29, la4, isLt (show (s : Int) < (a4.length : Int) by omega), iy, ly, ir, lr, lLk, (show Lk.length ≤ y by omega), ll, q5, q13, q14, q15, q16, q17, q19, q21, q22, q24]
          · simp [q27, q4, q23, q29, la4, (show a4.length ≤ s by omega), q5, q13, q14, q15, q16, q17, q19, q21, q22, q24]
        rintro ⟨t, h10'⟩ ⟨e, ⟨q, q159, hq⟩, q4, q5, q13, q14, q15, q16, q17, q19, q21, q22, q23, q24, q27, q29⟩
        simp only at q159 q4 q5 q13 q14 q15 q16 q17 q19 q21 q22 q23 q24 q27 q29 e
        subst e
        cases q with
        | false =>
          simp [q159]
          refine ⟨12 - at2.getD s 0, ?_⟩
          unfold LInv
          exact ⟨at2, lv, wv2, L, W2, rfl, hal2, hat2, hat12, by rw [hyd]; exact hLl, hLs, hGW2, q4, q5, q13, q14, q15, q16, q17, q19, q21, q22, q23, q24, q27, q29, W12, FS12, FK12⟩
        | true =>
          obtain ⟨h3, r, Lk, hr, hLk, h2⟩ := hq rfl
          have Sr := R10.row s r Lk hr hLk
          have ir := R10.sl.idx1 (P := Try.prog) Try.underlying34 ts32 (j := s) (by have := List.getElem?_eq_some_iff.1 hLk; exact this.1) .i64
          have lr : aload Try.prog h10' 32 v4.blk (v4.off + s) = some r := R10.sl.ld ta32 hr
          obtain ⟨x, hx⟩ : ∃ x, Lk[y]? = some x := ⟨Lk[y], by simp⟩
          have ix := Sr.idx1 (P := Try.prog) Try.underlying32 ts9 (j := y) h2 .i64
          have lx : aload Try.prog h10' 9 r.blk (r.off + y) = some (.str x) := Sr.ld ta9 (by rw [List.getElem?_map, hx]; rfl)
          obtain ⟨h11, a11, M11, K11, n11⟩ := Ma.lay1 (j := s) (x := .int .i64 ((y + 1 : Nat))) hs2 rfl
          have M11' : Mine 1 (at2.set s (y + 1)).length h11 av ((at2.set s (y + 1)).map nn) := by
            rw [List.map_set, List.length_set]
            exact M11
          have W13 := W12.upd (i := 4) (v := av) (o := .vec 1 at2.length (at2.map nn)) rfl K11 (v' := av) (o' := .vec 1 (at2.set s (y + 1)).length ((at2.set s (y + 1)).map nn)) M11' (From.refl _ _)
          have FS13 := FS12.upd (i := 4) (x := av) (o := .vec 1 at2.length (at2.map nn)) rfl K11 (x' := av) (o' := .vec 1 (at2.set s (y + 1)).length ((at2.set s (y + 1)).map nn)) (From.refl _ _)
          have FK13 := FK12.upd (i := 4) (x := av) (o := .vec 1 at2.length (at2.map nn)) rfl K11 (x' := av) (o' := .vec 1 (at2.set s (y + 1)).length ((at2.set s (y + 1)).map nn)) (From.refl _ _)
          have a11 : alay h10' av.blk (av.off + s) [.int .i64 ((y : Int) + 1)] = some h11 := a11
          have gd : ∀ j : Nat, (at2.set s (y + 1)).getD j 0 = if j = s then y + 1 else at2.getD j 0 := fun j => getD_set at2 s (y + 1) j hs2
          have hgrow : ∀ j : Nat, at_.getD j 0 ≤ (at2.set s (y + 1)).getD j 0 := by
            intro j
            rw [gd]
            have := hat2 j
            split
            · rename_i e
              subst e
              omega
            · exact this
          have h12 : ∀ j : Nat, (at2.set s (y + 1)).getD j 0 ≤ 12 := by
            intro j
            rw [gd]
            split
            · omega
            · exact hat12 j
          by_cases hx1 : (x.size : Int) ≤ 100
          case neg =>
            simp [q159, q4, q27, q23, ir, lr, iy, ly, ix, lx, i64w ((y : Int) + 1) (by omega) (by omega), a11, isLt (show (100 : Int) < (x.size : Int) by omega)]
            refine ⟨12 - (y + 1), by omega, ?_⟩
            unfold LInv
            exact ⟨at2.set s (y + 1), lv, wv2, L, W2, by rw [gd, if_pos rfl], by rw [List.length_set]; exact hal2, hgrow, h12, by rw [gd, if_pos rfl]; omega, hLs, hGW2, by simp [q4], by simp [q5], by simp [q13], by simp [q14], by simp [q15], by simp [q16], by simp [q17], by simp [q19], by simp [q21], by simp [q22], by simp [q23], by simp [q24], by simp [q27], by simp [q29], W13, FS13, FK13⟩
          have Ml11 : Mine 1 L.length h11 lv (L.map ss) := W13.own.get (i := 7) (v := lv) (o := .vec 1 L.length (L.map ss)) rfl
          obtain ⟨lv', h12', a12, M12, F12, K12⟩ := Ml11.push (P := Try.prog) el32 (a := [ss x]) (ex := true) rfl rfl (by omega)
          have a12 : aappend Try.prog (h11.new (.cells [.str x] false)) 32 32 lv (.sl h11.next 0 1 1 1 true) = some (lv', h12') := a12
          have M12' : Mine 1 (L ++ [x]).length h12' lv' ((L ++ [x]).map ss) := by simpa using M12
          have W14 := W13.upd (i := 7) (v := lv) (o := .vec 1 L.length (L.map ss)) rfl K12 (v' := lv') (o' := .vec 1 (L ++ [x]).length ((L ++ [x]).map ss)) M12' F12
          have FS14 := FS13.upd (i := 7) (x := lv) (o := .vec 1 L.length (L.map ss)) rfl K12 (x' := lv') (o' := .vec 1 (L ++ [x]).length ((L ++ [x]).map ss)) F12
          have FK14 := FK13.upd (i := 7) (x := lv) (o := .vec 1 L.length (L.map ss)) rfl K12 (x' := lv') (o' := .vec 1 (L ++ [x]).length ((L ++ [x]).map ss)) F12
          obtain ⟨cb', ec, cl12, cg12⟩ := W14.own.get (i := 0) (v := .ptr cb 0) (o := .blk c.c) rfl
          cases ec
          have ldS : aload Try.prog h12' 3 cb 3 = some (.int .i64 (S : Nat)) := ldc cg12 ta3 (by rw [cc]; rfl)
          obtain ⟨_, h13, E13, rfl, K13⟩ := pos_ok (k + 7) x (by omega) (by omega) ((A : Int) + B) (S : Nat) (o : Nat) h12'
          have W15 := W14.ext K13
          have FS15 := FS14.ext K13
          have FK15 := FK14.ext K13
          have hLs' : ∀ z, z ∈ L ++ [x] → z.size ≤ 100 := by
            intro z hz
            rcases List.mem_append.1 hz with q | q
            · exact hLs z q
            · rw [List.mem_singleton.1 q]
              omega
          by_cases hp : 0 ≤ posF (stripeL x.data.toList ((A : Int) + B) (S : Nat)) o 0
          · have hon : onSlot c o x = true := by
              unfold onSlot
              rw [cK, cM, cS]
              exact decide_eq_true hp
            have Mw15 : Mine 1 W2.length h13 wv2 (W2.map ss) := W15.own.get (i := 5) (v := wv2) (o := .vec 1 W2.length (W2.map ss)) rfl
            have lW2 : W2.length < 1000000 := by
              rw [← hGW2, List.length_append]
              have := List.length_filter_le (onSlot c o) L
              omega
            obtain ⟨wv', h14, a14, M14, F14, K14⟩ := Mw15.push (P := Try.prog) el32 (a := [ss x]) (ex := true) rfl rfl (by omega)
            have a14 : aappend Try.prog (h13.new (.cells [.str x] false)) 32 32 wv2 (.sl h13.next 0 1 1 1 true) = some (wv', h14) := a14
            have M14' : Mine 1 (W2 ++ [x]).length h14 wv' ((W2 ++ [x]).map ss) := by simpa using M14
            have W16 := W15.upd (i := 5) (v := wv2) (o := .vec 1 W2.length (W2.map ss)) rfl K14 (v' := wv') (o' := .vec 1 (W2 ++ [x]).length ((W2 ++ [x]).map ss)) M14' F14
            have FS16 := FS15.upd (i := 5) (x := wv2) (o := .vec 1 W2.length (W2.map ss)) rfl K14 (x' := wv') (o' := .vec 1 (W2 ++ [x]).length ((W2 ++ [x]).map ss)) F14
            have FK16 := FK15.upd (i := 5) (x := wv2) (o := .vec 1 W2.length (W2.map ss)) rfl K14 (x' := wv') (o' := .vec 1 (W2 ++ [x]).length ((W2 ++ [x]).map ss)) F14
            simp [q159, q4, q27, q23, q29, q13, q14, q15, q16, q21, ir, lr, iy, ly, ix, lx, i64w ((y : Int) + 1) (by omega) (by omega), a11, hx1, aalloc, afill, a12, wA, ldS, E13, hp, a14]
            refine ⟨12 - (y + 1), by omega, ?_⟩
            unfold LInv
            exact ⟨at2.set s (y + 1), lv', wv', L ++ [x], W2 ++ [x], by rw [gd, if_pos rfl], by rw [List.length_set]; exact hal2, hgrow, h12, by rw [gd, if_pos rfl, List.length_append, List.length_singleton]; omega, hLs', by rw [List.filter_append, ← List.append_assoc, hGW2, List.filter_cons, if_pos hon]; rfl, by simp [q4], by simp [q5], by simp [q13], by simp [q14], by simp [q15], by simp [q16], by simp [q17], by simp [q19], by simp, by simp [q22], by simp [q23], by simp [q24], by simp [q27], by simp, W16, FS16, FK16⟩
          · have hon : ¬ onSlot c o x = true := by
              unfold onSlot
              rw [cK, cM, cS]
              simpa using hp
            simp [q159, q4, q27, q23, q29, q13, q14, q15, q16, q21, ir, lr, iy, ly, ix, lx, i64w ((y : Int) + 1) (by omega) (by omega), a11, hx1, aalloc, afill, a12, wA, ldS, E13, hp]
            refine ⟨12 - (y + 1), by omega, ?_⟩
            unfold LInv
            exact ⟨at2.set s (y + 1), lv', wv2, L ++ [x], W2, by rw [gd, if_pos rfl], by rw [List.length_set]; exact hal2, hgrow, h12, by rw [gd, if_pos rfl, List.length_append, List.length_singleton]; omega, hLs', by rw [List.filter_append, ← List.append_assoc, hGW2, List.filter_cons, if_neg hon]; simp, by simp [q4], by simp [q5], by simp [q13], by simp [q14], by simp [q15], by simp [q16], by simp [q17], by simp [q19], by simp [q21], by simp [q22], by simp [q23], by simp [q24], by simp [q27], by simp, W15, FS15, FK15⟩
      rintro ⟨t, h10⟩ ⟨m, hL⟩
      unfold LInv at hL
      obtain ⟨at2, lv, wv2, L, W2, rfl, hal2, hat2, hat12, hLl, hLs, hGW2, q4, q5, q13, q14, q15, q16, q17, q19, q21, q22, q23, q24, q27, q29, W12, FS12, FK12⟩ := hL
      simp only at q4 q5 q13 q14 q15 q16 q17 q19 q21 q22 q23 q24 q27 q29 W12 FS12 FK12
      have hy12 := hat12 s
      have Ml : Mine 1 L.length h10 lv (L.map ss) := W12.own.get (i := 7) (v := lv) (o := .vec 1 L.length (L.map ss)) rfl
      obtain ⟨b', eb, bl10, bg10⟩ := W12.own.get (i := 1) (v := .ptr b 0) (o := .blk (fillC c o bv true busy sv9 fr9 kv9)) rfl
      cases eb
      have inb : Inn (Rw c o cb b sb bv true busy sv9 fr9 kv9 st av at2 wv2 W2 gv G ++ [(lv, .vec 1 L.length (L.map ss))]) b := in_iff.2 ⟨(.ptr b 0, .blk (fillC c o bv true busy sv9 fr9 kv9)), by simp [Rw], rfl⟩
      have nlv : ¬ Has lv b := fun q => W12.own.ne (i := 1) (j := 7) (v := .ptr b 0) (o := .blk (fillC c o bv true busy sv9 fr9 kv9)) (w := lv) (p := .vec 1 L.length (L.map ss)) rfl rfl (by omega) rfl q
      obtain ⟨_, h11, E11, rfl, K11, alt⟩ := scanned_ok (k + 8) h10 c o b bv true busy sv9 fr9 kv9 s Y lv L bg10 bl10 (by simpa using FS12.sl) Ml.sl (fun q => FS12.no b q inb) nlv (by omega) FK12.sl.oneV
      have K11' : Keep h10.next (Has (.ptr b 0)) h10 h11 := K11.weak (Nat.le_refl _) fun d _ e => by show AV.at? (.ptr b 0) = some d; rw [e]; rfl
      have E11 : acall Try.prog (k + 10) 10 [.ptr b 0, lv, .bool true] h10 = some (.tup [], h11) := E11
      simp [q17, q29, q24, E11, i64w ((i : Int) + 1) (by omega) (by omega)]
      refine ⟨400 - (i + 1), by omega, i + 1, rfl, ?_⟩
      have hwm := wt_mono hat2 Y
      rw [wt_cons] at hwE
      have lW2 : W2.length ≤ 12 * (i + 1) := by
        rw [← hGW2, List.length_append]
        have := List.length_filter_le (onSlot c o) L
        omega
      have innR : ∀ (sw kw : AV) (fx : ByteArray) (d : Nat), Inn (Rw c o cb b sb bv true false sw fx kw st av at2 wv2 W2 gv G) d → Inn (Rw c o cb b sb bv true busy sv9 fr9 kv9 st av at2 wv2 W2 gv G ++ [(lv, .vec 1 L.length (L.map ss))]) d := fun sw kw fx d q => in_append.2 (.inl q)
      have Wn : ∀ (sw kw : AV) (fx : ByteArray), h11.get b = some (.cells (fillC c o bv true false sw fx kw) false) → Wd h h11 (Rw c o cb b sb bv true false sw fx kw st av at2 wv2 W2 gv G) := by
        intro sw kw fx g
        have W13 := W12.upd (i := 1) (v := .ptr b 0) (o := .blk (fillC c o bv true busy sv9 fr9 kv9)) rfl K11' (v' := .ptr b 0) (o' := .blk (fillC c o bv true false sw fx kw)) ⟨b, rfl, Nat.lt_of_lt_of_le bl10 K11.1, g⟩ (From.refl _ _)
        exact Wd.drop (A := Rw c o cb b sb bv true false sw fx kw st av at2 wv2 W2 gv G) (B := [(lv, .vec 1 L.length (L.map ss))]) W13
      rcases alt with ⟨hL0, sv', fr', SY, hsv, g11⟩ | ⟨hL1, kv', fr', SK, hkv, g11⟩
      · have W13 := Wn sv' kv9 fr' g11
        subst hL0
        have hGW3 : G = W2 := by simpa using hGW2
        have FS13 : Frz (Rw c o cb b sb bv true false sv' fr' kv9 st av at2 wv2 W2 gv G) h11 sv' (Y.map nn) := ⟨by simpa using SY, fun d hd => sl_lt SY hd, fun d hd q => FS12.no d (hsv d hd) (innR _ _ _ d q)⟩
        have SK' := sl_keepH FK12.sl K11 (fun d hd e => FK12.no d hd (e ▸ inb))
        have FK13 : Frz (Rw c o cb b sb bv true false sv' fr' kv9 st av at2 wv2 W2 gv G) h11 kv9 (([] : List ByteArray).map ss) := ⟨SK', fun d hd => sl_lt SK' hd, fun d hd q => FK12.no d hd (innR _ _ _ d q)⟩
        unfold FInv
        refine ⟨st, true, sv', kv9, wv2, gv, fr', Y, at2, [], W2, G, by simp; omega, hs12, ho, by omega, hat12, fun y hy => hX12 y (hXm y (by simp [hy])), by simp at hEl; omega, by simp, by simp, by simpa using hGW3, lW2, by simp [q4], by simp [q5], by simp [q13], by simp [q14], by simp [q15], by simp [q16], by simp [q17], by simp [q19], by simp [q21], by simp [q22], by simp [q23], by simp, W13, FS13, FK13⟩
      · have W13 := Wn sv9 kv' fr' g11
        have l1 : 0 < L.length := List.length_pos_iff.2 hL1
        have SS' := sl_keepH FS12.sl K11 (fun d hd e => FS12.no d hd (e ▸ inb))
        have FS13 : Frz (Rw c o cb b sb bv true false sv9 fr' kv' st av at2 wv2 W2 gv G) h11 sv9 ((s :: Y).map nn) := ⟨SS', fun d hd => sl_lt SS' hd, fun d hd q => FS12.no d hd (innR _ _ _ d q)⟩
        have FK13 : Frz (Rw c o cb b sb bv true false sv9 fr' kv' st av at2 wv2 W2 gv G) h11 kv' (L.map ss) := ⟨by simpa using SK, fun d hd => sl_lt SK hd, fun d hd q => by
          have := hkv d hd
          have := W12.own.lt (innR _ _ _ d q)
          omega⟩
        have hw2 := wt_cons at2 s Y
        unfold FInv
        refine ⟨st, true, sv9, kv', wv2, gv, fr', s :: Y, at2, L, W2, G, by rw [if_pos rfl, hw2]; omega, hs12, ho, by omega, hat12, fun y hy => hX12 y (hXm y hy), hEl, by simp, hLs, hGW2, lW2, by simp [q4], by simp [q5], by simp [q13], by simp [q14], by simp [q15], by simp [q16], by simp [q17], by simp [q19], by simp [q21], by simp [q22], by simp [q23], by simp, W13, FS13, FK13⟩


theorem own : ownKnob Try.prog.godebug = none := by kernel_rfl
theorem laid : laidOutB Try.prog = true := by kernel_rfl

set_option maxRecDepth 100000 in
theorem lifted (os : Os) (started : os.Started) (H : Type) (enc : TypeId × Value → H) :
    ReturnsInHanded {} Try.checked os 4 .any (Rows.fillAllSpec.pre6 enc Try.prog Try.f4 Rows.fillAllRow.domain false) (Rows.fillAllSpec.post enc Try.prog Try.f4 false true false false) := by
  refine returnsInHanded_of_change (C := Try.checked) own started (by kernel_rfl) Try.func4
    (ChangeSpec.witness6 (enc := enc) (C := Try.checked) false ⟨#[], #[.int .i64 0, .int .i64 0, .int .i64 0, .int .i64 0, .slice none 0 0, .slice none 0 0], []⟩ 8 (by kernel_rfl) (by kernel_rfl) (by kernel_rfl) (by kernel_rfl)) ?_
  intro W base args ds gs before hval0 hW hcnd _
  have hval : ∀ (j : Nat) t v, Try.f4.params.toList[j]? = some t → args.toList[j]? = some v → Value.okWide Try.prog W .any base t v := fun j t v h1 h2 => hval0 j t v (by simpa using h1) (by simpa using h2)
  have hW' := hW
  obtain ⟨p, q, hA0, hV, rfl, hfz, hnd⟩ := hW
  have hA : DataW.TrodAll enc Try.prog W 0 (fun _ => true) true Try.f4.params.toList args.toList ds p := hA0
  obtain ⟨rfl, rfl⟩ := trodVars_none hV
  have hlt : ∀ x ∈ p, x.block < W.heap.size := fun x hx => hW'.lt x (by simp [hx])
  have hps : Try.f4.params.toList = [3, 3, 3, 3, 34, 35] := by rw [Try.params4]
  rw [hps] at hA hval
  obtain ⟨m, h, avs, x, g1, _, _, g2, g3, g4⟩ := (good_as1 (good_int Try.underlying3 (by kernel_rfl)) rfl (by kernel_rfl) (good_as1 (good_int Try.underlying3 (by kernel_rfl)) rfl (by kernel_rfl) (good_as1 (good_int Try.underlying3 (by kernel_rfl)) rfl (by kernel_rfl) (good_as1 (good_int Try.underlying3 (by kernel_rfl)) rfl (by kernel_rfl) (good_as1 (good_slice Try.underlying34 (by kernel_rfl) (by decide) (good_slice Try.underlying32 (by kernel_rfl) (by decide) (good_str Try.underlying9 (by kernel_rfl)))) rfl (by kernel_rfl) (good_as1 (good_slice Try.underlying35 (by kernel_rfl) (by decide) (good_int Try.underlying3 (by kernel_rfl))) rfl (by kernel_rfl) good_as0)))))) H enc W base args.toList ds p hval hA _ _ (HRo.start W)
  obtain ⟨a0, a1, a2, a3, a4, a5, _⟩ := x
  obtain ⟨_, _, rfl, ⟨e0, w0⟩, ⟨_, _, rfl, ⟨e1, w1⟩, ⟨_, _, rfl, ⟨e2, w2⟩, ⟨_, _, rfl, ⟨e3, w3⟩, ⟨v4, _, rfl, ⟨u4, e4, w4⟩, ⟨v5, _, rfl, ⟨u5, e5, w5⟩, rfl⟩⟩⟩⟩⟩⟩ := g3
  obtain rfl := (List.cons.inj e0).1
  obtain rfl := (List.cons.inj e1).1
  obtain rfl := (List.cons.inj e2).1
  obtain rfl := (List.cons.inj e3).1
  obtain rfl := (List.cons.inj e4).1
  obtain rfl := (List.cons.inj e5).1
  have hcall := law_any mixed (k := 3000000 + 10) Try.func4 (by kernel_rfl) runs_ok g1 g2 (law_run 3000000 (by decide) h a0 w0 a1 w1 a2 w2 a3 w3 v4 a4 w4 v5 a5 w5)
  refine hcall.mono fun e W' ⟨he, hg⟩ => ?_
  subst he
  simp only [List.append_nil] at hW' hA0 ⊢
  have hlen : ds.length = 6 := trodAll_len hA
  have hvars : (Rows.fillAllSpec.fn H (ds ++ [])).vars = [] ∧ (Rows.fillAllSpec.fn H (ds ++ [])).args = ds ∧ (Rows.fillAllSpec.fn H (ds ++ [])).results = [.lit (.bool true)] := by
    rw [List.append_nil]
    match ds, hlen with
    | [d0, d1, d2, d3, d4, d5], _ => exact ⟨rfl, rfl, rfl⟩
  obtain ⟨hv1, hv2, hv3⟩ := hvars
  refine ⟨_, rfl, law_post hW' rfl hg (fun _ _ _ => ?_) (fun sp hsp => ?_) hv1
    (ok_one (by kernel_rfl) rfl (okWide_bool_mk Try.underlying4 _))⟩
  · rw [hv3]
    exact (trodAll_cons_mk (shut_bool Try.underlying4 _) trodAll_mk0)
  · have hA1 := trodAll_below laid hg sp (ts := [3, 3, 3, 3, 34, 35]) (by decide +kernel) hlt hsp hA
    rw [hv2, hps]
    exact hA1

theorem over : Rows.fillAllRow.holds Try.pinned (OpenSpec.ofChange Rows.fillAllSpec) :=
  OpenClaim.holds_of_wide 4 Try.f4 rfl rfl rfl rfl rfl rfl rfl ⟨rfl, rfl, rfl, rfl, rfl⟩ rfl rfl rfl rfl rfl (by kernel_rfl) Try.func4 (by kernel_rfl)
    (of_decide_eq_true (by kernel_rfl)) (by unfold Func.isWrapper; first | (rw [if_pos (by decide +kernel)]; kernel_rfl) | (rw [if_neg (by decide +kernel)]; exact ⟨rfl, rfl⟩))
    (fun os started H enc _ => lifted os started H enc)

/-- The statement. -/
theorem proved : Rows.FillAllSaid :=
  over
#print axioms proved
end Go.Proofs.Ytangdhaihhgjkaa.cFillAll
