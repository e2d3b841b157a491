/- The law FillWaits returns true for every input, and its input reads behind the call as it did; no conditions. The kit's model is followed by an abstract machine that is shown to tell what the model does; the contracts of the functions are proved over that machine. -/
import Derived.Test.YtangdhaihhgjkaaRows
import Derived.Test.YtangdhaihhgjkaaFillWaitsA
import Derived.WalkKit
import Derived.ProofKit
import Derived.OpenShut
import Derived.JoinedCond
namespace Go.Proofs.Ytangdhaihhgjkaa.cFillWaits
open Go Go.ChangeShapes Go.WideShapes Go.ChangeAt Go.RowKit Go.YtangdhaihhgjkaaAbs
set_option linter.unusedSimpArgs false
set_option linter.unusedVariables false

set_option maxRecDepth 4000
def ne (x : Int) (l : List Int) : List Int := l.filter fun y => decide (y ≠ x)
set_option maxHeartbeats 8000000 in
theorem law_run (k : Nat) (hk : 5000 < k) (h : Heap) (v0 : AV) (a0 : (List Int)) (w0 : SlA (kInt .i64) h v0 a0) (v1 : AV) (a1 : (List Int)) (w1 : SlA (kInt .i64) h v1 a1) :
    ∃ v h', afuncT Try.prog [] (orRuns 3 (acall Try.prog (k + 10))) (k + 10) Try.f5 [v0, v1] h = some (v, h') ∧ v = .bool true := by
  obtain ⟨S0, _⟩ := sla_ints w0
  obtain ⟨S1, _⟩ := sla_ints w1
  obtain ⟨c, hc⟩ : ∃ c : Cf, c = ⟨1, 1, 0, 3, 1, 64⟩ := ⟨_, rfl⟩
  have ok : c.Ok := by subst hc; constructor <;> simp
  have cc : c.c = [.int .i64 1, .int .i64 1, .int .i64 0, .int .i64 3, .int .i64 1, .int .i64 64] := by subst hc; rfl
  have row : (AV.agg c.c).row1 = some c.c := row1_agg c.one
  have K1 : Keep h.next nob h (h.new (.cells c.c false)) := Keep.new (Nat.le_refl _) _
  have g1 : (h.new (.cells c.c false)).get h.next = some (.cells c.c false) := get_new_self _ _
  have lay1 : alay (h.new (.cells [.int .i64 0, .int .i64 0, .int .i64 0, .int .i64 0, .int .i64 0, .int .i64 0] false)) h.next 0 c.c = some (h.new (.cells c.c false)) := alay_new rfl
  obtain ⟨cb, hcb⟩ : ∃ cb, h.next = cb := ⟨_, rfl⟩
  obtain ⟨h1, e1⟩ : ∃ h1, h.new (.cells c.c false) = h1 := ⟨_, rfl⟩
  rw [e1] at K1 g1 lay1
  rw [hcb] at g1 lay1
  have ldc1 : aload Try.prog h1 27 cb 0 = some (.agg c.c) := by simp [aload, Heap.row, g1, Cf.c]
  have ll0 := S0.len'
  rw [cc] at row lay1
  refine afuncT_ex rfl (by simp [Try.f5]) ?_
  simp [Try.f5, afill, aalloc, hcb, row, lay1, ll0, -W_cond]
  refine W_cutN (fun st => ∃ (v0' : AV) (L : List Int), st.t.get 0 = some v0' ∧ st.t.get 1 = some v1 ∧ st.t.get 5 = some (.ptr cb 0) ∧ st.h = h1 ∧ Sl 1 L.length h1 v0' (L.map ii) ∧ L.length ≤ 10) ?_ ?_
  · by_cases h10 : 10 < a0.length
    · obtain ⟨v', c1, c2⟩ := (S0.ext K1).to (P := Try.prog) (ty := 35) Try.underlying35 ts3 (k := .i64) (j := 10) (by omega)
      rw [Nat.mul_one, ← List.map_take] at c2
      have lt : (a0.take 10).length = 10 := by rw [List.length_take]; omega
      simp at c1
      simp [isLt (show (10 : Int) < (a0.length : Int) by omega), c1]
      exact ⟨a0.take 10, by rw [lt]; exact c2, by omega⟩
    · simp [isLe (show (a0.length : Int) ≤ 10 by omega)]
      exact ⟨a0, S0.ext K1, by omega⟩
  rintro ⟨t, h2⟩ ⟨v0', L, q0, q1, q5, e, SL, hL⟩
  simp only at q0 q1 q5 e
  subst e
  obtain ⟨_, h3, E3, b, bv, rfl, W3⟩ := nfill_ok (k + 5) (by omega) h2 c ok 0 (by subst hc; simp) v0' L SL (by omega)
  rw [cc] at E3
  simp at E3
  have ae : aeql Try.prog 22 (.ptr b 0) .nilp = some false := by rfl
  have V0 : Mine 1 0 (h3.new (.cells [] false)) (.sl h3.next 0 0 0 1 true) [] := by
    have := Mine.new (sz := 1) (n := 0) (m := 0) h3 [] (by simp) (Nat.le_refl _) (by simp) true
    simpa using this
  have k0 : Keep h3.next nob h3 (h3.new (.cells [] false)) := Keep.new (Nat.le_refl _) _
  have S' := (SL.ext W3.kb).ext k0
  obtain ⟨w, h4, b1, b2, b3, b4⟩ := V0.append (P := Try.prog) el35 (xt := 35) (by rw [Try.underlying35]; rfl) S'.alen S'.acells (ii_one L) (by simp) (by omega)
  have W3' := W3.snoc (v := (.sl h3.next 0 0 0 1 true)) (o := .vec 1 0 []) k0 V0 (fun d hd => by cases hd; exact Nat.le_refl _)
  have W4 := W3'.upd (i := 2) (v := .sl h3.next 0 0 0 1 true) (o := .vec 1 0 []) rfl b4 (v' := w) (o' := .vec 1 L.length (L.map ii)) (by show Mine _ _ _ _ _; simpa using b2) b3
  have K5 : Keep h4.next nob h4 (h4.new (.cells zst false)) := Keep.new (Nat.le_refl _) _
  have W5 := W4.snoc (v := .ptr h4.next 0) (o := .blk zst) K5 ⟨_, rfl, Nat.lt_succ_self _, get_new_self _ _⟩ (fun d hd => by cases hd; exact Nat.le_refl _)
  obtain ⟨sb, hsb⟩ : ∃ sb, h4.next = sb := ⟨_, rfl⟩
  obtain ⟨h5, e5⟩ : ∃ h5, h4.new (.cells zst false) = h5 := ⟨_, rfl⟩
  rw [e5, hsb] at W5
  have W5 : Wd h2 h5 (FRow c 0 b bv false false .nils .empty .nils L ++ [(w, .vec 1 L.length (L.map ii)), (.ptr sb 0, .blk zst)]) := by simpa using W5
  have e5' : h4.new (.cells [.int .i64 0, .int .i64 0, .int .i64 0, .int .i64 0, .int .i64 0, .int .i64 0, .int .i64 0, .int .i64 0, .int .i64 0, .int .i64 0, .int .i64 0, .int .i64 0] false) = h5 := e5
  have S1 := S1.ext K1
  have l1 := S1.len'
  simp [q0, q1, q5, ldc1, cc, E3, ae, aalloc, afill, b1, e5', hsb]
  refine W_cutLoop 0 (fun st => ∃ (bv' w' : AV) (X : List Int), st.t.get 6 = some (.ptr b 0) ∧ st.t.get 8 = some w' ∧ st.t.get 9 = some (.ptr sb 0) ∧ X.length ≤ 10 ∧ Wd h2 st.h (FRow c 0 b bv' false false .nils .empty .nils X ++ [(w', .vec 1 X.length (X.map ii)), (.ptr sb 0, .blk zst)])) ?_ ?_
  · refine W_loop (fun mm st => ∃ (i : Nat) (bv' w' : AV) (X : List Int), mm = 20 - i ∧ i ≤ 20 ∧ st.t.get 1 = some v1 ∧ st.t.get 10 = some (.int .i64 (i : Nat)) ∧ st.t.get 6 = some (.ptr b 0) ∧ st.t.get 8 = some w' ∧ st.t.get 9 = some (.ptr sb 0) ∧ X.length ≤ 10 ∧ Wd h2 st.h (FRow c 0 b bv' false false .nils .empty .nils X ++ [(w', .vec 1 X.length (X.map ii)), (.ptr sb 0, .blk zst)])) 20 (by omega) ⟨0, bv, w, L, rfl, by omega, by simp [q1], by simp, by simp, by simp, by simp, hL, W5⟩ ?_
    rintro mm ⟨t, h6⟩ ⟨i, bv', w', X, rfl, hi, q1, q10, q6, q8, q9, hX, W6⟩
    simp only at q1 q10 q6 q8 q9 W6
    have Mw : Mine 1 X.length h6 w' (X.map ii) := W6.own.get (i := 2) (v := w') (o := .vec 1 X.length (X.map ii)) rfl
    have lw := Mw.sl.len'
    by_cases hlt : i < a1.length
    case neg =>
      simp [q1, q10, l1, (show a1.length ≤ i by omega)]
      exact ⟨q6, bv', w', q8, q9, X, hX, by simpa using W6⟩
    by_cases h20 : i < 20
    case neg =>
      simp [q1, q10, l1, isLt (show (i : Int) < (a1.length : Int) by omega), (show (20 : Int) ≤ (i : Int) by omega)]
      exact ⟨q6, bv', w', q8, q9, X, hX, by simpa using W6⟩
    by_cases hx0 : X.length = 0
    · simp [q1, q10, l1, q8, lw, hx0, isLt (show (i : Int) < (a1.length : Int) by omega), isLt (show (i : Int) < 20 by omega)]
      exact ⟨q6, q9, bv', X, hX, by simpa using W6⟩
    obtain ⟨g6, lt6, M6, nb6⟩ := fill_get W6
    obtain ⟨sb', es, ls6, gs6⟩ := W6.own.get (i := 3) (v := .ptr sb 0) (o := .blk zst) rfl
    cases es
    have lds : aload Try.prog h6 28 sb 0 = some (.agg zst) := by simp [aload, Heap.row, gs6, zst]
    obtain ⟨_, h7, E7, rfl, K7⟩ := next_wait (k + 9) h6 c 0 b bv' false .nils .empty .nils X g6 lt6 M6.sl (by omega) zst (by decide +kernel)
    have W7 := W6.ext K7
    obtain ⟨y, hy⟩ : ∃ y, a1[i]? = some y := ⟨a1[i], by simp⟩
    have S7 := S1.ext W7.kb
    have ix := S7.idx1 (P := Try.prog) Try.underlying35 ts3 (j := i) (by omega) .i64
    have ld : aload Try.prog h7 3 v1.blk (v1.off + i) = some (.int .i64 y) := S7.ld ta3 (ii_get hy)
    obtain ⟨_, h8, E8, bv8, rfl, W8⟩ := ended_ok (k + 6) h2 h7 c 0 b bv' false false .nils .empty .nils X _ W7 y (by omega) (by omega) rfl rfl
    simp [q1, q10, l1, q6, q8, q9, lw, hx0, isLt (show (i : Int) < (a1.length : Int) by omega), isLt (show (i : Int) < 20 by omega), lds, E7, ix, ld, E8]
    have Mw8 : Mine 1 X.length h8 w' (X.map ii) := W8.own.get (i := 2) (v := w') (o := .vec 1 X.length (X.map ii)) rfl
    have W8' := W8.snoc (v := .nils) (o := .vec 1 0 []) (Keep.refl _ _ _) (Mine.nil 1 h8) (fun d hd => by cases hd)
    obtain ⟨F, hF⟩ : ∃ F, (X.filter fun z => decide (z ≠ y)) = F := ⟨_, rfl⟩
    have hF10 : F.length ≤ 10 := by rw [← hF]; exact Nat.le_trans (List.length_filter_le _ _) hX
    rw [hF] at W8'
    refine W_cutLoop 2 (fun st => ∃ (lv : AV), st.t.get 1 = some v1 ∧ st.t.get 10 = some (.int .i64 (i : Nat)) ∧ st.t.get 6 = some (.ptr b 0) ∧ st.t.get 9 = some (.ptr sb 0) ∧ st.t.get 14 = some lv ∧ Wd h2 st.h (FRow c 0 b bv8 false false .nils .empty .nils F ++ [(w', .vec 1 X.length (X.map ii)), (.ptr sb 0, .blk zst), (lv, .vec 1 F.length (F.map ii))])) ?_ ?_
    · refine W_loop (fun mm st => ∃ (j : Nat) (lv : AV), mm = X.length - j ∧ j ≤ X.length ∧ st.t.get 1 = some v1 ∧ st.t.get 10 = some (.int .i64 (i : Nat)) ∧ st.t.get 6 = some (.ptr b 0) ∧ st.t.get 9 = some (.ptr sb 0) ∧ st.t.get 14 = some lv ∧ st.t.get 68 = some w' ∧ st.t.get 69 = some (.int .i64 (X.length : Nat)) ∧ st.t.get 70 = some (.int .i64 (j : Nat)) ∧ Wd h2 st.h (FRow c 0 b bv8 false false .nils .empty .nils F ++ [(w', .vec 1 X.length (X.map ii)), (.ptr sb 0, .blk zst), (lv, .vec 1 ((X.take j).filter fun z => decide (z ≠ y)).length (((X.take j).filter fun z => decide (z ≠ y)).map ii))])) X.length (by omega) ⟨0, .nils, rfl, by omega, by simp [q1], by simp [q10], by simp [q6], by simp [q9], by simp, by simp, by simp, by simp, by simpa using W8'⟩ ?_
      rintro mm ⟨t, h9⟩ ⟨j, lv, rfl, hj, q1, q10, q6, q9, q14, q68, q69, q70, W9⟩
      simp only at q1 q10 q6 q9 q14 q68 q69 q70 W9
      by_cases hjl : j < X.length
      case neg =>
        have e : j = X.length := by omega
        subst e
        rw [List.take_length, hF] at W9
        simp [q68, q69, q70]
        exact ⟨q1, q10, q6, q9, lv, q14, by simpa using W9⟩
      obtain ⟨x, hx⟩ : ∃ x, X[j]? = some x := ⟨X[j], by simp⟩
      have Mw9 : Mine 1 X.length h9 w' (X.map ii) := W9.own.get (i := 2) (v := w') (o := .vec 1 X.length (X.map ii)) rfl
      have S9 := S1.ext W9.kb
      have ix := S9.idx1 (P := Try.prog) Try.underlying35 ts3 (j := i) (by omega) .i64
      have ld : aload Try.prog h9 3 v1.blk (v1.off + i) = some (.int .i64 y) := S9.ld ta3 (ii_get hy)
      have ixj := Mw9.sl.idx1 (P := Try.prog) Try.underlying35 ts3 (j := j) (by omega) .i64
      have ldj : aload Try.prog h9 3 w'.blk (w'.off + j) = some (.int .i64 x) := Mw9.sl.ld ta3 (ii_get hx)
      have ft := filter_take (id := y) hx
      by_cases q : x = y
      · rw [if_pos q, List.append_nil] at ft
        rw [← ft] at W9
        simp [q1, q10, q6, q9, q14, q68, q69, q70, isLt (show (j : Int) < (X.length : Int) by omega), ixj, ldj, ix, ld, q, i64w ((j : Int) + 1) (by omega) (by omega)]
        exact ⟨X.length - (j + 1), by omega, j + 1, rfl, by omega, by simp, by simpa using W9⟩
      · rw [if_neg q] at ft
        have Ml := W9.own.get (i := 4) (v := lv) (o := .vec 1 ((X.take j).filter fun z => decide (z ≠ y)).length (((X.take j).filter fun z => decide (z ≠ y)).map ii)) rfl
        have Ml : Mine 1 ((X.take j).filter fun z => decide (z ≠ y)).length h9 lv (((X.take j).filter fun z => decide (z ≠ y)).map ii) := Ml
        have lle : ((X.take j).filter fun z => decide (z ≠ y)).length ≤ 10 := by
          refine Nat.le_trans (List.length_filter_le _ _) ?_
          rw [List.length_take]; omega
        obtain ⟨lv', h10, a1', a2, a3, a4⟩ := Ml.push (P := Try.prog) el35 (a := [ii x]) (ex := true) rfl rfl (by omega)
        have a1' : aappend Try.prog (h9.new (.cells [.int .i64 x] false)) 35 35 lv (.sl h9.next 0 1 1 1 true) = some (lv', h10) := a1'
        have W10 := W9.upd (i := 4) (v := lv) (o := .vec 1 ((X.take j).filter fun z => decide (z ≠ y)).length (((X.take j).filter fun z => decide (z ≠ y)).map ii)) rfl a4 (v' := lv') (o' := .vec 1 ((X.take (j + 1)).filter fun z => decide (z ≠ y)).length (((X.take (j + 1)).filter fun z => decide (z ≠ y)).map ii)) (by rw [ft]; show Mine _ _ _ _ _; simpa using a2) a3
        simp [q1, q10, q6, q9, q14, q68, q69, q70, isLt (show (j : Int) < (X.length : Int) by omega), ixj, ldj, ix, ld, q, aalloc, afill, a1', i64w ((j : Int) + 1) (by omega) (by omega)]
        exact ⟨X.length - (j + 1), by omega, j + 1, rfl, by omega, by simp, by simpa using W10⟩
    rintro ⟨t, h9⟩ ⟨lv, q1, q10, q6, q9, q14, W9⟩
    simp only at q1 q10 q6 q9 q14 W9
    simp [q1, q10, q6, q9, q14, i64w ((i : Int) + 1) (by omega) (by omega)]
    refine ⟨20 - (i + 1), by omega, i + 1, rfl, by omega, by simp, bv8, F, hF10, ?_⟩
    have p : List.Perm [((.ptr b 0 : AV), Ob.blk (fillC c 0 bv8 false false .nils .empty .nils)), (bv8, .vec 1 F.length (F.map ii)), (w', .vec 1 X.length (X.map ii)), (.ptr sb 0, .blk zst), (lv, .vec 1 F.length (F.map ii))] ([(.ptr b 0, Ob.blk (fillC c 0 bv8 false false .nils .empty .nils)), (bv8, .vec 1 F.length (F.map ii)), (lv, .vec 1 F.length (F.map ii)), (.ptr sb 0, .blk zst)] ++ [(w', .vec 1 X.length (X.map ii))]) := by
      refine List.Perm.cons _ (List.Perm.cons _ ?_)
      exact (List.reverse_perm [(w', Ob.vec 1 X.length (X.map ii)), (.ptr sb 0, .blk zst), (lv, .vec 1 F.length (F.map ii))]).symm
    exact (Wd.perm W9 p).drop
  rintro ⟨t, h6⟩ ⟨bv', w', X, q6, q8, q9, hX, W6⟩
  simp only at q6 q8 q9 W6
  have Mw : Mine 1 X.length h6 w' (X.map ii) := W6.own.get (i := 2) (v := w') (o := .vec 1 X.length (X.map ii)) rfl
  have lw := Mw.sl.len'
  simp [q6, q8, q9, lw]
  refine W_cutLoop 4 (fun st => ∃ (bv' : AV), st.t.get 6 = some (.ptr b 0) ∧ st.t.get 9 = some (.ptr sb 0) ∧ Wd h2 st.h (FRow c 0 b bv' false false .nils .empty .nils [] ++ [(w', .vec 1 X.length (X.map ii)), (.ptr sb 0, .blk zst)])) ?_ ?_
  · refine W_loop (fun mm st => ∃ (j : Nat) (bv' : AV) (Y : List Int), mm = X.length - j ∧ j ≤ X.length ∧ st.t.get 6 = some (.ptr b 0) ∧ st.t.get 9 = some (.ptr sb 0) ∧ st.t.get 86 = some w' ∧ st.t.get 87 = some (.int .i64 (X.length : Nat)) ∧ st.t.get 88 = some (.int .i64 (j : Nat)) ∧ Y.length ≤ 10 ∧ (∀ z, z ∈ Y → z ∈ X.drop j) ∧ Wd h2 st.h (FRow c 0 b bv' false false .nils .empty .nils Y ++ [(w', .vec 1 X.length (X.map ii)), (.ptr sb 0, .blk zst)])) X.length (by omega) ⟨0, bv', X, rfl, by omega, by simp [q6], by simp [q9], by simp, by simp, by simp, hX, by simp, W6⟩ ?_
    rintro mm ⟨t, h9⟩ ⟨j, bv9, Y, rfl, hj, q6, q9, q86, q87, q88, hY, hYX, W9⟩
    simp only at q6 q9 q86 q87 q88 W9
    by_cases hjl : j < X.length
    case neg =>
      have e : j = X.length := by omega
      subst e
      have : Y = [] := by
        cases Y with
        | nil => rfl
        | cons z Y => have := hYX z (by simp); simp at this
      subst this
      simp [q86, q87, q88]
      exact ⟨q6, q9, bv9, by simpa using W9⟩
    obtain ⟨x, hx⟩ : ∃ x, X[j]? = some x := ⟨X[j], by simp⟩
    have Mw9 : Mine 1 X.length h9 w' (X.map ii) := W9.own.get (i := 2) (v := w') (o := .vec 1 X.length (X.map ii)) rfl
    have ixj := Mw9.sl.idx1 (P := Try.prog) Try.underlying35 ts3 (j := j) (by omega) .i64
    have ldj : aload Try.prog h9 3 w'.blk (w'.off + j) = some (.int .i64 x) := Mw9.sl.ld ta3 (ii_get hx)
    obtain ⟨_, h10, E10, bv10, rfl, W10⟩ := ended_ok (k + 6) h2 h9 c 0 b bv9 false false .nils .empty .nils Y _ W9 x (by omega) (by omega) rfl rfl
    simp [q6, q9, q86, q87, q88, isLt (show (j : Int) < (X.length : Int) by omega), ixj, ldj, E10, i64w ((j : Int) + 1) (by omega) (by omega)]
    refine ⟨X.length - (j + 1), by omega, j + 1, rfl, by omega, by simp, bv10, Y.filter (fun z => decide (z ≠ x)), ?_⟩
    have hd : X.drop j = x :: X.drop (j + 1) := by
      rw [List.drop_eq_getElem_cons hjl]
      congr 1
      exact (List.getElem?_eq_some_iff.1 hx).2
    refine ⟨Nat.le_trans (List.length_filter_le _ _) hY, fun z hz => ?_, W10⟩
    rw [List.mem_filter] at hz
    have h1 := hYX z hz.1
    rw [hd] at h1
    rcases List.mem_cons.1 h1 with e | e
    · exact absurd e (by simpa using hz.2)
    · exact e
  rintro ⟨t, h9⟩ ⟨bv9, q6, q9, W9⟩
  simp only at q6 q9 W9
  obtain ⟨g9, lt9, M9, _⟩ := fill_get W9
  obtain ⟨sb', es, ls9, gs9⟩ := W9.own.get (i := 3) (v := .ptr sb 0) (o := .blk zst) rfl
  cases es
  have lds : aload Try.prog h9 28 sb 0 = some (.agg zst) := by simp [aload, Heap.row, gs9, zst]
  obtain ⟨_, h10, E10, rfl⟩ := is_full (k + 7) (by omega) h9 c (by subst hc; simp) 0 b bv9 g9 lt9 M9.sl
  simp [q6, q9, lds, E10]


theorem own : ownKnob Try.prog.godebug = none := by kernel_rfl
theorem laid : laidOutB Try.prog = true := by kernel_rfl

set_option maxRecDepth 100000 in
theorem lifted (os : Os) (started : os.Started) (H : Type) (enc : TypeId × Value → H) :
    ReturnsInHanded {} Try.checked os 5 .any (Rows.fillWaitsSpec.pre6 enc Try.prog Try.f5 Rows.fillWaitsRow.domain false) (Rows.fillWaitsSpec.post enc Try.prog Try.f5 false true false false) := by
  refine returnsInHanded_of_change (C := Try.checked) own started (by kernel_rfl) Try.func5
    (ChangeSpec.witness6 (enc := enc) (C := Try.checked) false ⟨#[], #[.slice none 0 0, .slice none 0 0], []⟩ 8 (by kernel_rfl) (by kernel_rfl) (by kernel_rfl) (by kernel_rfl)) ?_
  intro W base args ds gs before hval0 hW hcnd _
  have hval : ∀ (j : Nat) t v, Try.f5.params.toList[j]? = some t → args.toList[j]? = some v → Value.okWide Try.prog W .any base t v := fun j t v h1 h2 => hval0 j t v (by simpa using h1) (by simpa using h2)
  have hW' := hW
  obtain ⟨p, q, hA0, hV, rfl, hfz, hnd⟩ := hW
  have hA : DataW.TrodAll enc Try.prog W 0 (fun _ => true) true Try.f5.params.toList args.toList ds p := hA0
  obtain ⟨rfl, rfl⟩ := trodVars_none hV
  have hlt : ∀ x ∈ p, x.block < W.heap.size := fun x hx => hW'.lt x (by simp [hx])
  have hps : Try.f5.params.toList = [35, 35] := by rw [Try.params5]
  rw [hps] at hA hval
  obtain ⟨m, h, avs, x, g1, _, _, g2, g3, g4⟩ := (good_as1 (good_slice Try.underlying35 (by kernel_rfl) (by decide) (good_int Try.underlying3 (by kernel_rfl))) rfl (by kernel_rfl) (good_as1 (good_slice Try.underlying35 (by kernel_rfl) (by decide) (good_int Try.underlying3 (by kernel_rfl))) rfl (by kernel_rfl) good_as0)) H enc W base args.toList ds p hval hA _ _ (HRo.start W)
  obtain ⟨a0, a1, _⟩ := x
  obtain ⟨v0, _, rfl, ⟨u0, e0, w0⟩, ⟨v1, _, rfl, ⟨u1, e1, w1⟩, rfl⟩⟩ := g3
  obtain rfl := (List.cons.inj e0).1
  obtain rfl := (List.cons.inj e1).1
  have hcall := law_any mixed (k := 3000000 + 10) Try.func5 (by kernel_rfl) runs_ok g1 g2 (law_run 3000000 (by decide) h v0 a0 w0 v1 a1 w1)
  refine hcall.mono fun e W' ⟨he, hg⟩ => ?_
  subst he
  simp only [List.append_nil] at hW' hA0 ⊢
  have hlen : ds.length = 2 := trodAll_len hA
  have hvars : (Rows.fillWaitsSpec.fn H (ds ++ [])).vars = [] ∧ (Rows.fillWaitsSpec.fn H (ds ++ [])).args = ds ∧ (Rows.fillWaitsSpec.fn H (ds ++ [])).results = [.lit (.bool true)] := by
    rw [List.append_nil]
    match ds, hlen with
    | [d0, d1], _ => exact ⟨rfl, rfl, rfl⟩
  obtain ⟨hv1, hv2, hv3⟩ := hvars
  refine ⟨_, rfl, law_post hW' rfl hg (fun _ _ _ => ?_) (fun sp hsp => ?_) hv1
    (ok_one (by kernel_rfl) rfl (okWide_bool_mk Try.underlying4 _))⟩
  · rw [hv3]
    exact (trodAll_cons_mk (shut_bool Try.underlying4 _) trodAll_mk0)
  · have hA1 := trodAll_below laid hg sp (ts := [35, 35]) (by decide +kernel) hlt hsp hA
    rw [hv2, hps]
    exact hA1

theorem over : Rows.fillWaitsRow.holds Try.pinned (OpenSpec.ofChange Rows.fillWaitsSpec) :=
  OpenClaim.holds_of_wide 5 Try.f5 rfl rfl rfl rfl rfl rfl rfl ⟨rfl, rfl, rfl, rfl, rfl⟩ rfl rfl rfl rfl rfl (by kernel_rfl) Try.func5 (by kernel_rfl)
    (of_decide_eq_true (by kernel_rfl)) (by unfold Func.isWrapper; first | (rw [if_pos (by decide +kernel)]; kernel_rfl) | (rw [if_neg (by decide +kernel)]; exact ⟨rfl, rfl⟩))
    (fun os started H enc _ => lifted os started H enc)

/-- The statement. -/
theorem proved : Rows.FillWaitsSaid :=
  over
#print axioms proved
end Go.Proofs.Ytangdhaihhgjkaa.cFillWaits
