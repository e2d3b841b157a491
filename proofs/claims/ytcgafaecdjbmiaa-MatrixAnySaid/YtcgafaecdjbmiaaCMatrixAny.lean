/- The law MatrixAny returns true for every input, and its input reads behind the call as it did; no conditions. The kit's model is followed by an abstract machine that is shown to tell what the model does; the contracts of the functions are proved over that machine. -/
import Derived.Test.YtcgafaecdjbmiaaRows
import Derived.Test.YtcgafaecdjbmiaaRuns
import Derived.Test.YtcgafaecdjbmiaaMatC
import Derived.Test.YtcgafaecdjbmiaaArgs
import Derived.Test.YtcgafaecdjbmiaaBook
import Derived.WalkKit
import Derived.ProofKit
import Derived.OpenShut
import Derived.JoinedCond
namespace Go.Proofs.Ytcgafaecdjbmiaa.cMatrixAny
open Go Go.ChangeShapes Go.WideShapes Go.ChangeAt Go.RowKit Go.YtcgafaecdjbmiaaAbs
set_option linter.unusedSimpArgs false
set_option linter.unusedVariables false

set_option maxRecDepth 4000
def nI (x : Nat) : AV := .int .i64 (x : Nat)
theorem sl_one {sz n : Nat} {h : Heap} {v : AV} {l : List AV} (S : Sl sz n h v l) : v.one = true := by
  rcases S with ⟨rfl, _⟩ | ⟨rfl, _⟩ | ⟨_, _, _, _, _, _, rfl, _⟩ <;> rfl
def rAt (rs : List AV) (s : Nat) : AV := (rs[s]?).getD .nils
set_option maxHeartbeats 8000000 in
theorem law_run (k : Nat) (hk : 3000 < k) (h : Heap) (a0 : Int) (w0 : (Lit.int .i64 a0).wf = true) (a1 : Int) (w1 : (Lit.int .i64 a1).wf = true) (v2 : AV) (a2 : (List Int)) (w2 : SlA (kInt .i64) h v2 a2) :
    ∃ v h', afuncT Try.prog [] (orRuns 3 (acall Try.prog (k + 10))) (k + 10) Try.f4 [.int .i64 a0, .int .i64 a1, v2] h = some (v, h') ∧ v = .bool true := by
  obtain ⟨s2, r2⟩ := sla_ints w2
  have W1 : acall Try.prog (k + 10) 15 [.int .i64 a0, .int .i64 1, .int .i64 8] h = _ := within_ok (k + 9) a0 1 8 (by omega) (by omega) (by omega) h
  obtain ⟨n, hn⟩ : ∃ n : Nat, (1 : Int) + a0 % (8 - 1 + 1) = (n : Int) := ⟨((1 : Int) + a0 % (8 - 1 + 1)).toNat, by omega⟩
  have hn2 : 1 ≤ n ∧ n ≤ 8 := by omega
  rw [hn] at W1
  have s12 := i64w ((12 : Int) - (n : Int)) (by omega) (by omega)
  have W2 : acall Try.prog (k + 10) 15 [.int .i64 a1, .int .i64 0, .int .i64 ((12 : Int) - (n : Int))] h = _ := within_ok (k + 9) a1 0 ((12 : Int) - (n : Int)) (by omega) (by omega) (by omega) h
  have m1 : 0 ≤ a1 % ((12 : Int) - (n : Int) - 0 + 1) := Int.emod_nonneg _ (by omega)
  have m2 : a1 % ((12 : Int) - (n : Int) - 0 + 1) < (12 : Int) - (n : Int) - 0 + 1 := Int.emod_lt_of_pos _ (by omega)
  obtain ⟨m, hm⟩ : ∃ m : Nat, (0 : Int) + a1 % ((12 : Int) - (n : Int) - 0 + 1) = (m : Int) := ⟨((0 : Int) + a1 % ((12 : Int) - (n : Int) - 0 + 1)).toNat, by omega⟩
  have hm2 : m + n ≤ 12 := by omega
  rw [hm] at W2
  clear hn hm m1 m2 w0 w1
  obtain ⟨_, h1, E1, rfl, k1⟩ := make_ok (k + 9) (by omega) h
  have row : (AV.agg fieldC).row1 = some fieldC := row1_agg fieldC_one
  have lay : alay (h1.new (.cells zz25 false)) h1.next 0 fieldC = some (h1.new (.cells fieldC false)) := alay_new (by rw [fieldC_len, zz25_len])
  have g2 : (h1.new (.cells fieldC false)).get h1.next = some (.cells fieldC false) := get_new_self _ _
  have k2 : Keep h.next nob h (h1.new (.cells fieldC false)) := k1.trans (Keep.new k1.1 _)
  have f : Fld (h1.new (.cells fieldC false)) (.ptr h1.next 0) := ⟨_, _, _, _, rfl, Nat.lt_succ_self _, g2, fun j _ => by rw [Nat.zero_add]⟩
  obtain ⟨fb1, hfb⟩ : ∃ b, b = h1.next := ⟨_, rfl⟩
  rw [← hfb] at lay f
  obtain ⟨h2, e2⟩ : ∃ h2, h1.new (.cells fieldC false) = h2 := ⟨_, rfl⟩
  rw [e2] at lay f k2
  obtain ⟨cv, h3, E3, Nc⟩ := cauchy_ok (k + 8) (by omega) h2 (.ptr fb1 0) f n m (by omega) (by omega) (by omega)
  obtain ⟨rs, Rc⟩ := Nc.rd
  have f3 := f.ext Nc.kb
  have lc := Rc.sl.len'
  rw [show (cauM n m).length = n + m by simp [cauM]] at lc
  have k3 : Keep h.next nob h h3 := k2.trans (Nc.kb.weak k2.1 fun _ _ q => q)
  have snm := i64w ((n : Int) + (m : Int)) (by omega) (by omega)
  refine afuncT_ex rfl (by simp [Try.f4]) ?_
  simp [Try.f4, W1, W2, s12, E1, aalloc, afill, row, fieldC_len, lay, ← hfb, E3, lc, snm]
  refine W_cutLoop 0 (fun st => ∃ v11, st.t.get 2 = some v2 ∧ st.t.get 7 = some (.int .i64 (n : Nat)) ∧ st.t.get 9 = some (.ptr fb1 0) ∧ st.t.get 10 = some cv ∧ st.t.get 11 = some v11 ∧ Wd h3 st.h [(v11, .vec 1 (n + m) ((List.range (n + m)).map nI))]) ?_ ?_
  · refine W_loop (fun mm st => ∃ (j : Nat) (v11 : AV), mm = n + m - j ∧ j ≤ n + m ∧ st.t.get 2 = some v2 ∧ st.t.get 7 = some (.int .i64 (n : Nat)) ∧ st.t.get 8 = some (.int .i64 (m : Nat)) ∧ st.t.get 9 = some (.ptr fb1 0) ∧ st.t.get 10 = some cv ∧ st.t.get 11 = some v11 ∧ st.t.get 12 = some (.int .i64 (j : Nat)) ∧ Wd h3 st.h [(v11, .vec 1 j ((List.range j).map nI))]) (n + m) (by omega)
      ⟨0, .nils, by omega, by omega, by simp, by simp, by simp, by simp, by simp, by simp, by simp, (Wd.start h3).cons (Keep.refl _ _ _) (Mine.nil 1 h3) (fun d hd => by cases hd)⟩ ?_
    rintro mm ⟨t, h4⟩ ⟨j, v11, rfl, hj, q2, q7, q8, q9, q10, q11, q12, W⟩
    simp only at q2 q7 q8 q9 q10 q11 q12 W
    by_cases hlt : j < n + m
    · obtain ⟨v', h5, a5, M5, F5, K5⟩ := (show Mine 1 j h4 v11 ((List.range j).map nI) from W.own.get (i := 0) rfl).push (P := Try.prog) el37 (a := [nI j]) (ex := true) rfl rfl (by omega)
      have W5 := W.upd (i := 0) rfl K5 (v' := v') (o' := .vec 1 (j + 1) ((List.range (j + 1)).map nI)) (by rw [List.range_succ, List.map_append]; exact M5) F5
      simp [nI] at a5
      simp [q2, q7, q8, q9, q10, q11, q12, snm, isLt (show (j : Int) < (n : Int) + (m : Int) by omega), aalloc, afill, a5, i64w ((j : Int) + 1) (by omega) (by omega)]
      exact ⟨n + m - (j + 1), by omega, j + 1, rfl, by omega, by simp, W5⟩
    · have e : j = n + m := by omega
      subst e
      simp [q2, q7, q8, q9, q10, q11, q12, snm]
      exact W
  rintro ⟨t, h4⟩ ⟨v11, q2, q7, q9, q10, q11, W⟩
  simp only at q2 q7 q9 q10 q11 W
  simp [q2, q7, q9, q10, q11]
  have W0 := W.snoc (Keep.refl _ _ _) (v := .nils) (o := .vec 1 0 []) (Mine.nil 1 h4) (fun d hd => by cases hd)
  refine W_cutLoop 2 (fun st => ∃ (v13 : AV) (sel : List Nat), st.t.get 7 = some (.int .i64 (n : Nat)) ∧ st.t.get 9 = some (.ptr fb1 0) ∧ st.t.get 13 = some v13 ∧ sel.length = n ∧ sel.Nodup ∧ (∀ s, s ∈ sel → s < n + m) ∧ Keep h3.next nob h3 st.h ∧ Mine 1 sel.length st.h v13 (sel.map (rAt rs))) ?_ ?_
  · refine W_loop (fun mm st => ∃ (i : Nat) (v11 v13 : AV) (left sel : List Nat), mm = n - i ∧ i ≤ n ∧ st.t.get 2 = some v2 ∧ st.t.get 7 = some (.int .i64 (n : Nat)) ∧ st.t.get 9 = some (.ptr fb1 0) ∧ st.t.get 10 = some cv ∧ st.t.get 11 = some v11 ∧ st.t.get 13 = some v13 ∧ st.t.get 14 = some (.int .i64 (i : Nat)) ∧
        sel.length = i ∧ left.length = n + m - i ∧ (sel ++ left).Nodup ∧ (∀ s, s ∈ sel ++ left → s < n + m) ∧ Wd h3 st.h [(v11, .vec 1 left.length (left.map nI)), (v13, .vec 1 sel.length (sel.map (rAt rs)))]) n (by omega)
      ⟨0, v11, .nils, List.range (n + m), [], by omega, by omega, by simp [q2], by simp [q7], by simp [q9], by simp [q10], by simp [q11], by simp, by simp, rfl, by simp, by simpa using List.nodup_range, by simp, by simpa using W0⟩ ?_
    clear q2 q7 q9 q10 q11 W W0
    rintro mm ⟨t, h5⟩ ⟨i, v11, v13, left, sel, rfl, hi, q2, q7, q9, q10, q11, q13, q14, hsl, hll, hnd, hlt, W⟩
    simp only at q2 q7 q9 q10 q11 q13 q14 W
    have ll := (show Mine 1 left.length h5 v11 (left.map nI) from W.own.get (i := 0) rfl).sl.len'
    have sa := s2.ext (k3.trans (W.kb.weak k3.1 fun _ _ q => q))
    have la := sa.len'
    by_cases hin : i < n
    · have step : ∀ p, p < left.length → ∃ (s : Nat) (u1 u2 s1 s2 v13' : AV) (h6 h7 h8 : Heap), aindex Try.prog 37 v11 (.int .i64 (p : Nat)) = some (.ptr v11.blk (v11.off + p)) ∧ aload Try.prog h5 3 v11.blk (v11.off + p) = some (.int .i64 (s : Nat)) ∧
          aindex Try.prog 27 cv (.int .i64 (s : Nat)) = some (.ptr cv.blk (cv.off + s)) ∧ aload Try.prog h5 31 cv.blk (cv.off + s) = some (rAt rs s) ∧ (rAt rs s).one = true ∧
          aappend Try.prog (h5.new (.cells [rAt rs s] false)) 27 27 v13 (.sl h5.next 0 1 1 1 true) = some (v13', h6) ∧
          aslice Try.prog 37 v11 none (some (.int .i64 (p : Nat))) none = some s1 ∧ aappend Try.prog (h6.new (.cells [] false)) 37 37 (.sl h6.next 0 0 0 1 true) s1 = some (u1, h7) ∧
          aslice Try.prog 37 v11 (some (.int .i64 ((p : Int) + 1))) none none = some s2 ∧ aappend Try.prog h7 37 37 u1 s2 = some (u2, h8) ∧
          (sel ++ [s]).length = i + 1 ∧ (left.take p ++ left.drop (p + 1)).length = n + m - (i + 1) ∧ ((sel ++ [s]) ++ (left.take p ++ left.drop (p + 1))).Nodup ∧ (∀ x, x ∈ (sel ++ [s]) ++ (left.take p ++ left.drop (p + 1)) → x < n + m) ∧
          Wd h3 h8 [(u2, .vec 1 (left.take p ++ left.drop (p + 1)).length ((left.take p ++ left.drop (p + 1)).map nI)), (v13', .vec 1 (sel ++ [s]).length ((sel ++ [s]).map (rAt rs)))] := by
        intro p hp
        obtain ⟨s, hs⟩ : ∃ s, left[p]? = some s := ⟨left[p], by simp⟩
        have hsm := List.mem_of_getElem? hs
        have hsn := hlt s (List.mem_append.2 (.inr hsm))
        have M11 : Mine 1 left.length h5 v11 (left.map nI) := W.own.get (i := 0) rfl
        have M13 : Mine 1 sel.length h5 v13 (sel.map (rAt rs)) := W.own.get (i := 1) rfl
        have Rc5 := Rc.ext W.kb
        have hcl : (cauM n m).length = n + m := by simp [cauM]
        obtain ⟨r, hr, Sr⟩ := Rc5.get (i := s) (by omega)
        have er : rAt rs s = r := by unfold rAt; rw [hr]; rfl
        have ro := sl_one Sr
        obtain ⟨v13', h6, a6, M6, F6, K6⟩ := M13.push (P := Try.prog) el27 (a := [rAt rs s]) (ex := true) (by simp [er, ro]) rfl (by omega)
        have W6 := W.upd (i := 1) rfl K6 (v' := v13') (o' := .vec 1 (sel ++ [s]).length ((sel ++ [s]).map (rAt rs))) (by rw [List.length_append, List.map_append]; exact M6) F6
        have N11 : Mine 1 left.length h6 v11 (left.map nI) := W6.own.get (i := 0) rfl
        obtain ⟨s1, s2, u1, h7, u2, h8, b1, b2, b3, b4, b5, b6, b7⟩ := N11.cut (P := Try.prog) el37 (j := p) hp (by omega)
        have hln : (left.take p ++ left.drop (p + 1)).length = left.length - 1 := by rw [List.length_append, List.length_take, List.length_drop]; omega
        have W8 := W6.upd (i := 0) rfl (b6.weak (Nat.le_refl _) fun _ _ q => q.elim) (v' := u2) (o' := .vec 1 (left.take p ++ left.drop (p + 1)).length ((left.take p ++ left.drop (p + 1)).map nI)) (show Mine 1 _ h8 u2 _ by rw [hln, List.map_append, List.map_take, List.map_drop]; simpa using b5) (fun d hd => .inr (b7 d hd))
        have pm : ((sel ++ [s]) ++ (left.take p ++ left.drop (p + 1))).Perm (sel ++ left) := by
          obtain ⟨z1, z2⟩ := List.getElem?_eq_some_iff.1 hs
          have e : left = left.take p ++ s :: left.drop (p + 1) := by
            conv => lhs; rw [← List.take_append_drop p left, List.drop_eq_getElem_cons z1, z2]
          conv => rhs; rw [e]
          rw [List.append_assoc]
          refine List.Perm.append_left sel ?_
          exact (List.perm_middle (a := s) (l₁ := left.take p) (l₂ := left.drop (p + 1))).symm
        refine ⟨s, u1, u2, s1, s2, v13', h6, h7, h8, M11.sl.idx1 (P := Try.prog) Try.underlying37 ts3 hp .i64, M11.sl.ld ta3 (by rw [List.getElem?_map, hs]; rfl), Rc5.sl.idx1 (P := Try.prog) Try.underlying27 ts31 (by omega) .i64, ?_, by rw [er]; exact ro, a6, b1, b2, b3, b4, by simp [hsl], by omega, pm.nodup_iff.2 hnd, fun x hx => hlt x (pm.mem_iff.1 hx), W8⟩
        rw [er]
        exact Rc5.sl.ld ta31 hr
      have fin : ∀ p, p < left.length → True := fun _ _ => trivial
      by_cases hv : i < a2.length
      · obtain ⟨x, hx⟩ : ∃ x, a2[i]? = some x := ⟨a2[i], by simp⟩
        have ixa := sa.idx1 (P := Try.prog) Try.underlying37 ts3 (j := i) hv .i64
        have lda : aload Try.prog h5 3 v2.blk (v2.off + i) = some (.int .i64 x) := sa.ld ta3 (ii_get hx)
        have sl1 := i64w ((left.length : Int) - 1) (by omega) (by omega)
        have W3 : acall Try.prog (k + 10) 15 [.int .i64 x, .int .i64 0, .int .i64 ((left.length : Int) - 1)] h5 = _ := within_ok (k + 9) x 0 ((left.length : Int) - 1) (by omega) (by omega) (by omega) h5
        have m1 : 0 ≤ x % ((left.length : Int) - 1 - 0 + 1) := Int.emod_nonneg _ (by omega)
        have m2 : x % ((left.length : Int) - 1 - 0 + 1) < (left.length : Int) - 1 - 0 + 1 := Int.emod_lt_of_pos _ (by omega)
        obtain ⟨p, hp⟩ : ∃ p : Nat, (0 : Int) + x % ((left.length : Int) - 1 - 0 + 1) = (p : Int) := ⟨((0 : Int) + x % ((left.length : Int) - 1 - 0 + 1)).toNat, by omega⟩
        have hpl : p < left.length := by omega
        rw [hp] at W3
        clear hp m1 m2
        have sp := i64w ((p : Int) + 1) (by omega) (by omega)
        obtain ⟨s, u1, u2, s1, s2', v13', h6, h7, h8, x1, x2, x3, x4, x5, x6, x7, x8, x9, x10, y1, y2, y3, y4, W8⟩ := step p hpl
        have rw5 := row1_one x5
        simp [q2, q7, q9, q10, q11, q13, q14, isLt (show (i : Int) < (n : Int) by omega), la, isLt (show (i : Int) < (a2.length : Int) by omega), ixa, lda, ll, sl1, W3, x1, x2, x3, x4, x5, rw5, aalloc, afill, x6, x7, x8, sp, x9, x10, i64w ((i : Int) + 1) (by omega) (by omega)]
        exact ⟨n - (i + 1), by omega, i + 1, by omega, by omega, by simp, _, _, y1, y2, y3, (fun x hx => y4 x (List.mem_append.2 hx)), W8⟩
      · obtain ⟨s, u1, u2, s1, s2', v13', h6, h7, h8, x1, x2, x3, x4, x5, x6, x7, x8, x9, x10, y1, y2, y3, y4, W8⟩ := step 0 (by omega)
        have rw5 := row1_one x5
        simp at x1 x2 x7 x9
        simp [q2, q7, q9, q10, q11, q13, q14, isLt (show (i : Int) < (n : Int) by omega), la, isLe (show (a2.length : Int) ≤ (i : Int) by omega), ll, x1, x2, x3, x4, x5, rw5, aalloc, afill, x6, x7, x8, i64w 1 (by omega) (by omega), x9, x10, i64w ((i : Int) + 1) (by omega) (by omega)]
        exact ⟨n - (i + 1), by omega, i + 1, by omega, by omega, by simp, _, _, y1, y2, y3, (fun x hx => y4 x (List.mem_append.2 hx)), W8⟩
    · have e : i = n := by omega
      simp [q2, q7, q9, q10, q11, q13, q14, e]
      exact ⟨sel, by omega, (List.nodup_append.1 hnd).1, fun s hs => hlt s (List.mem_append.2 (.inl hs)), W.kb, W.own.get (i := 1) rfl⟩
  clear q2 q7 q9 q10 q11 W W0
  rintro ⟨t, h5⟩ ⟨v13, sel, q7, q9, q13, hsl, hnd, hlt, K5, M5⟩
  simp only at q7 q9 q13 K5 M5
  have R5 : Rd h5 v13 (sel.map (rAt rs)) (sel.map (cauR n)) := by
    refine ⟨by have := M5.sl; rwa [show (sel.map (cauR n)).length = sel.length by simp], fun i r L hr hL => ?_⟩
    rw [List.getElem?_map] at hr hL
    cases hs : sel[i]? with
    | none => rw [hs] at hr; cases hr
    | some s =>
      rw [hs] at hr hL
      cases hr
      cases hL
      have hs' := hlt s (List.mem_of_getElem? hs)
      have hc : (cauM n m)[s]? = some (cauR n s) := by simp [cauM, hs']
      obtain ⟨r, hr⟩ : ∃ r, rs[s]? = some r := ⟨rs[s]'(by rw [Rc.len]; simp [cauM]; omega), by simp⟩
      have := (Rc.row s r _ hr hc).ext K5
      unfold rAt
      rw [hr]
      exact this
  have hrk := cau_apart (k := n) (by omega) hsl hnd (fun s hs => by have := hlt s hs; omega)
  generalize hA : sel.map (cauR n) = A at *
  have hAr : RowsN n A := fun r hr => by
    rw [← hA] at hr
    obtain ⟨s, _, rfl⟩ := List.mem_map.1 hr
    simp
  have hAl : A.length = n := by rw [← hA]; simp [hsl]
  have hw0 : (rowA A 0).length = n := hAr.row (by omega)
  have hright : rightM A = true := by rw [rightM_iff, hw0]; exact ⟨by omega, hAr⟩
  obtain ⟨B, hB, _⟩ := invA_ok hAr hAl hrk
  have f5 := f3.ext K5
  obtain ⟨vi, h6, B', b', E6, hp, K6, _, _⟩ := invert_ok (k + 6) (by omega) h5 _ f5 v13 _ A R5
  have hb : b' = true := by
    unfold invP at hp
    rw [if_pos ⟨hright, by omega⟩, hB] at hp
    cases hp; rfl
  rw [hb] at E6
  obtain ⟨_, h7, E7, rfl, K7⟩ := rank_ok (k + 6) (by omega) h6 _ (f5.ext K6) v13 _ A (R5.ext K6)
  have hrp : rankP A = n := by unfold rankP; rw [if_pos hright, hw0, hrk]
  rw [hrp] at E7
  simp [q7, q9, q13, E6, E7]


theorem own : ownKnob Try.prog.godebug = none := by kernel_rfl
theorem laid : laidOutB Try.prog = true := by kernel_rfl

set_option maxRecDepth 100000 in
theorem lifted (os : Os) (started : os.Started) (H : Type) (enc : TypeId × Value → H) :
    ReturnsInHanded {} Try.checked os 4 .any (Rows.matrixAnySpec.pre6 enc Try.prog Try.f4 Rows.matrixAnyRow.domain false) (Rows.matrixAnySpec.post enc Try.prog Try.f4 false true false false) := by
  refine returnsInHanded_of_change (C := Try.checked) own started (by kernel_rfl) Try.func4
    (ChangeSpec.witness6 (enc := enc) (C := Try.checked) false ⟨#[], #[.int .i64 0, .int .i64 0, .slice none 0 0], []⟩ 8 (by kernel_rfl) (by kernel_rfl) (by kernel_rfl) (by kernel_rfl)) ?_
  intro W base args ds gs before hval0 hW hcnd _
  have hval : ∀ (j : Nat) t v, Try.f4.params.toList[j]? = some t → args.toList[j]? = some v → Value.okWide Try.prog W .any base t v := fun j t v h1 h2 => hval0 j t v (by simpa using h1) (by simpa using h2)
  have hW' := hW
  obtain ⟨p, q, hA0, hV, rfl, hfz, hnd⟩ := hW
  have hA : DataW.TrodAll enc Try.prog W 0 (fun _ => true) true Try.f4.params.toList args.toList ds p := hA0
  obtain ⟨rfl, rfl⟩ := trodVars_none hV
  have hlt : ∀ x ∈ p, x.block < W.heap.size := fun x hx => hW'.lt x (by simp [hx])
  have hps : Try.f4.params.toList = [3, 3, 37] := by rw [Try.params4]
  rw [hps] at hA hval
  obtain ⟨m, h, avs, x, g1, _, _, g2, g3, g4⟩ := (good_as1 (good_int Try.underlying3 (by kernel_rfl)) rfl (by kernel_rfl) (good_as1 (good_int Try.underlying3 (by kernel_rfl)) rfl (by kernel_rfl) (good_as1 (good_slice Try.underlying37 (by kernel_rfl) (by decide) (good_int Try.underlying3 (by kernel_rfl))) rfl (by kernel_rfl) good_as0))) H enc W base args.toList ds p hval hA _ _ (HRo.start W)
  obtain ⟨a0, a1, a2, _⟩ := x
  obtain ⟨_, _, rfl, ⟨e0, w0⟩, ⟨_, _, rfl, ⟨e1, w1⟩, ⟨v2, _, rfl, ⟨u2, e2, w2⟩, rfl⟩⟩⟩ := g3
  obtain rfl := (List.cons.inj e0).1
  obtain rfl := (List.cons.inj e1).1
  obtain rfl := (List.cons.inj e2).1
  have hcall := law_any mixed (k := 3000000 + 10) Try.func4 (by kernel_rfl) runs_ok g1 g2 (law_run 3000000 (by decide) h a0 w0 a1 w1 v2 a2 w2)
  refine hcall.mono fun e W' ⟨he, hg⟩ => ?_
  subst he
  simp only [List.append_nil] at hW' hA0 ⊢
  have hlen : ds.length = 3 := trodAll_len hA
  have hvars : (Rows.matrixAnySpec.fn H (ds ++ [])).vars = [] ∧ (Rows.matrixAnySpec.fn H (ds ++ [])).args = ds ∧ (Rows.matrixAnySpec.fn H (ds ++ [])).results = [.lit (.bool true)] := by
    rw [List.append_nil]
    match ds, hlen with
    | [d0, d1, d2], _ => exact ⟨rfl, rfl, rfl⟩
  obtain ⟨hv1, hv2, hv3⟩ := hvars
  refine ⟨_, rfl, law_post hW' rfl hg (fun _ _ _ => ?_) (fun sp hsp => ?_) hv1
    (ok_one (by kernel_rfl) rfl (okWide_bool_mk Try.underlying4 _))⟩
  · rw [hv3]
    exact (trodAll_cons_mk (shut_bool Try.underlying4 _) trodAll_mk0)
  · have hA1 := trodAll_below laid hg sp (ts := [3, 3, 37]) (by decide +kernel) hlt hsp hA
    rw [hv2, hps]
    exact hA1

theorem over : Rows.matrixAnyRow.holds Try.pinned (OpenSpec.ofChange Rows.matrixAnySpec) :=
  OpenClaim.holds_of_wide 4 Try.f4 rfl rfl rfl rfl rfl rfl rfl ⟨rfl, rfl, rfl, rfl, rfl⟩ rfl rfl rfl rfl rfl (by kernel_rfl) Try.func4 (by kernel_rfl)
    (of_decide_eq_true (by kernel_rfl)) (by unfold Func.isWrapper; first | (rw [if_pos (by decide +kernel)]; kernel_rfl) | (rw [if_neg (by decide +kernel)]; exact ⟨rfl, rfl⟩))
    (fun os started H enc _ => lifted os started H enc)

/-- The statement. -/
theorem proved : Rows.MatrixAnySaid :=
  over
#print axioms proved
end Go.Proofs.Ytcgafaecdjbmiaa.cMatrixAny
