/- matrix.reduce. -/
import Derived.Test.YtcgafaecdjbmiaaMatR
namespace Go.Proofs.Ytcgafaecdjbmiaa
open Go Go.YtcgafaecdjbmiaaAbs
set_option linter.unusedSimpArgs false
set_option linter.unusedVariables false
set_option maxRecDepth 4000

theorem set_rowA {A : Mt} {i : Nat} (h : i < A.length) : A.set i (rowA A i) = A := by
  refine List.ext_getElem? fun k => ?_
  by_cases q : i = k
  · subst q; rw [List.getElem?_set_self h, (rowA_mem h).1]
  · rw [List.getElem?_set_ne q]
/-- Cleared so far. -/
def clrTo (A : Mt) (r c i : Nat) : Mt := (List.range A.length).map fun k => if k < i then clrR A r c k else rowA A k
@[simp] theorem clrTo_len (A : Mt) (r c i : Nat) : (clrTo A r c i).length = A.length := by simp [clrTo]
theorem clrTo_row {A : Mt} {r c i k : Nat} (h : k < A.length) : rowA (clrTo A r c i) k = if k < i then clrR A r c k else rowA A k := by
  unfold clrTo rowA
  rw [List.getElem?_map, List.getElem?_range h]; rfl
theorem mt_ext {A B : Mt} (h : A.length = B.length) (e : ∀ k, k < A.length → rowA A k = rowA B k) : A = B := by
  refine List.ext_getElem? fun k => ?_
  by_cases hk : k < A.length
  · rw [(rowA_mem hk).1, (rowA_mem (A := B) (by omega)).1, e k hk]
  · rw [List.getElem?_eq_none (by omega), List.getElem?_eq_none (by omega)]
theorem clrTo_0 (A : Mt) (r c : Nat) : clrTo A r c 0 = A := mt_ext (by simp) fun k hk => by
  rw [clrTo_row (by simpa using hk), if_neg (by omega)]
theorem clrTo_all (A : Mt) (r c : Nat) : clrTo A r c A.length = clrA A r c := mt_ext (by simp) fun k hk => by
  have hk : k < A.length := by simpa using hk
  rw [clrTo_row hk, if_pos hk, clrA_row hk]
theorem clrTo_set {A : Mt} {r c i : Nat} (hi : i < A.length) : (clrTo A r c i).set i (clrR A r c i) = clrTo A r c (i + 1) := mt_ext (by simp) fun k hk => by
  have hk : k < A.length := by simpa using hk
  rw [rowA_set (by simpa using hi), clrTo_row hk, clrTo_row hk]
  by_cases q : i = k
  · subst q; rw [if_pos rfl, if_pos (by omega)]
  · rw [if_neg q]
    by_cases q2 : k < i
    · rw [if_pos q2, if_pos (by omega)]
    · rw [if_neg q2, if_neg (by omega)]
theorem clrTo_skip {A : Mt} {r c : Nat} (hr : r < A.length) : clrTo A r c (r + 1) = clrTo A r c r := by
  rw [← clrTo_set hr]
  have : clrR A r c r = rowA (clrTo A r c r) r := by
    rw [clrTo_row hr, if_neg (by omega)]
    unfold clrR
    rw [if_pos rfl]
  rw [this]
  exact set_rowA (by simpa using hr)
section
variable {h0 h h1 : Heap} {F : List Nat} {v : AV} {rs : List AV} {A : Mt}
theorem Wk.ix (W : Wk h0 h F v rs A) {j : Nat} (hj : j < A.length) : aindex Try.prog 27 v (.int .i64 (j : Nat)) = some (.ptr v.blk (v.off + j)) := W.rows.own.sl.idx1 (P := Try.prog) Try.underlying27 ts31 (by rw [W.rows.len]; exact hj) .i64
theorem Wk.ld (W : Wk h0 h F v rs A) {j : Nat} {r : AV} (hr : rs[j]? = some r) : aload Try.prog h 31 v.blk (v.off + j) = some r := W.rows.own.sl.ld (P := Try.prog) ta31 hr
theorem row_ix {r : AV} {L : Vc} (S : Sl 1 L.length h r (L.map bb)) {j : Nat} (hj : j < L.length) : aindex Try.prog 31 r (.int .i64 (j : Nat)) = some (.ptr r.blk (r.off + j)) := S.idx1 (P := Try.prog) Try.underlying31 ts5 hj .i64
theorem row_ld {r : AV} {L : Vc} (S : Sl 1 L.length h r (L.map bb)) {j : Nat} (hj : j < L.length) : aload Try.prog h 5 r.blk (r.off + j) = some (.int .u8 ((L[j]?.getD 0).toNat : Nat)) := by
  have := S.ld (P := Try.prog) (e := 5) ta5 (j := j) (x := bb (L[j]?.getD 0)) (by rw [List.getElem?_map, List.getElem?_eq_getElem hj]; rfl)
  exact this
end
theorem redA_succ (A : Mt) (c : Nat) : redA A (c + 1) = stepA (redA A c) c := by
  unfold redA
  rw [List.range_succ, List.foldl_append]; rfl

set_option maxHeartbeats 4000000 in
theorem red_ok (k : Nat) (hk : 200 < k) (h : Heap) (fv : AV) (f : Fld h fv) (v : AV) (rs : List AV) (A : Mt) (R : RowsO fb 1 h v rs A) (Ap : Apart (v :: rs)) (w : Nat) (hw : RowsN w A) (w1 : 1 ≤ w) (w2 : w ≤ 24) (hl : A.length ≤ 12) (n : Nat) (hn : n ≤ w) (hf : Off fv (fun d => d ∈ blks (v :: rs))) :
    ∃ v' h', acall Try.prog (k + 3) 28 [fv, v, .int .i64 (n : Nat)] h = some (v', h') ∧ v' = .int .i64 ((redA A n).2 : Nat) ∧ ∃ rs', Wk h h' (blks (v :: rs)) v rs' (redA A n).1 := by
  rw [acall_text [14] Try.func28 (by kernel_rfl)]
  refine afuncT_ex rfl (by simp [Try.f28]) ?_
  have W0 : Wk h h (blks (v :: rs)) v rs A := ⟨R, Ap, fun d hd => hd, Keep.refl _ _ _, fun d hd => R.lt hd⟩
  generalize hF : blks (v :: rs) = F at *
  simp [Try.f28]
  refine W_cutLoop 0 (fun st => st.t.get 7 = some (.int .i64 ((redA A n).2 : Nat)) ∧ ∃ rs', Wk h st.h F v rs' (redA A n).1) ?_ ?_
  · refine W_loop (fun m st => ∃ c rs', m = n - c ∧ c ≤ n ∧ st.t.get 0 = some fv ∧ st.t.get 1 = some v ∧ st.t.get 7 = some (.int .i64 ((redA A c).2 : Nat)) ∧ st.t.get 13 = some (.int .i64 (n : Nat)) ∧ st.t.get 14 = some (.int .i64 (c : Nat)) ∧ Wk h st.h F v rs' (redA A c).1) n (by omega)
      ⟨0, rs, by omega, by omega, by simp, by simp, by simp [redA], by simp, by simp, W0⟩ ?_
    rintro m ⟨t, h3⟩ ⟨c, rs3, rfl, hc, q0, q1, q7, q13, q14, W⟩
    simp only at q0 q1 q7 q13 q14 W
    by_cases hlt : c < n
    · obtain ⟨ps, P, hpl, E, hln⟩ := redA_ok hw c
      have hr := P.le
      rw [hpl] at hr
      have hrw := E.rb
      have hs := redA_succ A c
      generalize redA A c = s at *
      obtain ⟨B0, r⟩ := s
      simp only at *
      have f3 : Fld h3 fv := fld_keep f W.kp hf
      have lv := W.rows.own.sl.len'
      rw [W.rows.len] at lv
      generalize hlen : B0.length = len at *
      simp [q0, q1, q7, q13, q14, isLt (show (c : Int) < (n : Int) by omega)]
      refine W_loop (fun m st => ∃ i, m = len - i ∧ r ≤ i ∧ i ≤ len ∧ findP B0 c (len - r) r = findP B0 c (len - i) i ∧ st.t.get 0 = some fv ∧ st.t.get 1 = some v ∧ st.t.get 7 = some (.int .i64 (r : Nat)) ∧ st.t.get 8 = some (.int .i64 (c : Nat)) ∧ st.t.get 9 = some (.int .i64 (i : Nat)) ∧ st.t.get 13 = some (.int .i64 (n : Nat)) ∧ st.t.get 14 = some (.int .i64 (c : Nat)) ∧ st.h = h3) (len - r) (by omega)
        ⟨r, by omega, by omega, by omega, rfl, by simp [q0], by simp [q1], by simp [q7], by simp, by simp, by simp [q13], by simp [q14], by simp⟩ ?_
      clear q0 q1 q7 q13 q14
      rintro m ⟨t, h3'⟩ ⟨i, rfl, hri, hi, hfp, q0, q1, q7, q8, q9, q13, q14, e3⟩
      simp only at q0 q1 q7 q8 q9 q13 q14 e3
      replace e3 := e3.symm
      subst e3
      by_cases hil : i < len
      · obtain ⟨x, hx, Mx⟩ := W.mine (j := i) (by omega)
        have ixi := W.ix (j := i) (by omega)
        have ldi := W.ld hx
        have wi := hrw.row (k := i) (by omega)
        have ixe := row_ix Mx.sl (j := c) (by omega)
        have lde := row_ld Mx.sl (j := c) (by omega)
        have hfs : len - i = (len - (i + 1)) + 1 := by omega
        rw [hfs] at hfp
        simp only [findP] at hfp
        have eat : (rowA B0 i)[c]?.getD 0 = atA B0 i c := rfl
        rw [eat] at lde
        by_cases hz : atA B0 i c = 0
        · rw [if_neg (by simpa using hz)] at hfp
          rw [hz] at lde
          simp [q0, q1, q7, q8, q9, q13, q14, lv, isLt (show (i : Int) < (len : Int) by omega), ixi, ldi, ixe, lde, i64w ((i : Int) + 1) (by omega) (by omega)]
          exact ⟨len - (i + 1), by omega, i + 1, rfl, by omega, by omega, hfp, rfl⟩
        · rw [if_pos hz] at hfp
          have hs' : redA A (c + 1) = (clrA (scaleA (swpA B0 r i) r c) r c, r + 1) := by
            rw [hs]
            unfold stepA
            simp only [hlen, hfp]
          have hz' := (b_not0 hz).1
          have hz2 := (b_not0 hz).2.1
          obtain ⟨y, hy, My⟩ := W.mine (j := r) (by omega)
          have ixr := W.ix (j := r) (by omega)
          have ldr := W.ld hy
          obtain ⟨h4, h5, a4, a5, W5⟩ := W.swap hy hx
          have rwx := row1_one (show x.one = true from Mx.oneV)
          have rwy := row1_one (show y.one = true from My.oneV)
          have hwB := swpA_rows hrw (i := r) (j := i) (by omega) (by omega)
          have lB : (swpA B0 r i).length = len := by rw [swpA_len, hlen]
          generalize hBB : swpA B0 r i = B at *
          generalize hrs5 : (rs3.set r x).set i y = rs5 at *
          obtain ⟨z, hzr, Mz⟩ := W5.mine (j := r) (by omega)
          have wr := hwB.row (k := r) (by omega)
          have ixr5 := W5.ix (j := r) (by omega)
          have ldr5 := W5.ld hzr
          have ixe5 := row_ix Mz.sl (j := c) (by omega)
          have lde5 := row_ld Mz.sl (j := c) (by omega)
          have f5 : Fld h5 fv := fld_keep f W5.kp hf
          have inv := invB_ok (k + 1) h5 fv f5 (atA B r c)
          have eat5 : (rowA B r)[c]?.getD 0 = atA B r c := rfl
          rw [eat5] at lde5
          have lz := Mz.sl.len'
          rw [wr] at lz
          obtain ⟨sc, hsc⟩ : ∃ sc, gi (atA B r c) = sc := ⟨_, rfl⟩
          rw [hsc] at inv
          have eS : B.set r (smul sc (rowA B r)) = scaleA B r c := by unfold scaleA; rw [hsc]
          simp [q0, q1, q7, q8, q9, q13, q14, lv, isLt (show (i : Int) < (len : Int) by omega), ixi, ldi, ixe, lde, hz, hz', hz2, ixr, ldr, rwx, rwy, a4, a5, ixr5, ldr5, ixe5, lde5, inv, lz]
          refine W_cutLoop 4 (fun st => st.t.get 0 = some fv ∧ st.t.get 1 = some v ∧ st.t.get 7 = some (.int .i64 (r : Nat)) ∧ st.t.get 8 = some (.int .i64 (c : Nat)) ∧ st.t.get 13 = some (.int .i64 (n : Nat)) ∧ st.t.get 14 = some (.int .i64 (c : Nat)) ∧ Wk h st.h F v rs5 (scaleA B r c)) ?_ ?_
          · refine W_loop (fun m st => ∃ j, m = w - j ∧ j ≤ w ∧ st.t.get 0 = some fv ∧ st.t.get 1 = some v ∧ st.t.get 7 = some (.int .i64 (r : Nat)) ∧ st.t.get 8 = some (.int .i64 (c : Nat)) ∧ st.t.get 10 = some (.int .u8 (sc.toNat : Nat)) ∧ st.t.get 13 = some (.int .i64 (n : Nat)) ∧ st.t.get 14 = some (.int .i64 (c : Nat)) ∧ st.t.get 59 = some (.int .i64 (w : Nat)) ∧ st.t.get 60 = some (.int .i64 (j : Nat)) ∧ Wk h st.h F v rs5 (B.set r (mixL (smul sc (rowA B r)) (rowA B r) j))) w (by omega)
              ⟨0, by omega, by omega, by simp [q0], by simp [q1], by simp [q7], by simp [q8], by simp, by simp [q13], by simp [q14], by simp, by simp, by rw [mixL_0, set_rowA (by omega)]; exact W5⟩ ?_
            clear q0 q1 q7 q8 q9 q13 q14
            rintro m ⟨t, h6⟩ ⟨j, rfl, hj, q0, q1, q7, q8, q10, q13, q14, q59, q60, W6⟩
            simp only at q0 q1 q7 q8 q10 q13 q14 q59 q60 W6
            have hx6 : (smul sc (rowA B r)).length = (rowA B r).length := smul_len _ _
            by_cases hjw : j < w
            · obtain ⟨z6, hz6, M6⟩ := W6.mine (j := r) (by simp; omega)
              have ez : z6 = z := Option.some.inj (hz6.symm.trans hzr)
              subst ez
              rw [rowA_set (by omega), if_pos rfl] at M6
              have lm := mixL_len hx6 j
              have ixr6 := W6.ix (j := r) (by simp; omega)
              have ldr6 := W6.ld hz6
              have ixe6 := row_ix M6.sl (j := j) (by omega)
              have lde6 := row_ld M6.sl (j := j) (by omega)
              rw [mixL_get hx6 (Nat.le_refl _)] at lde6
              obtain ⟨u, hu⟩ : ∃ u, (rowA B r)[j]? = some u := ⟨(rowA B r)[j]'(by omega), by simp⟩
              rw [hu, Option.getD_some] at lde6
              have f6 : Fld h6 fv := fld_keep f W6.kp hf
              have mul := mulB_ok (k + 1) h6 fv f6 u sc
              obtain ⟨h7, a7, M7, K7, n7⟩ := M6.lay1 (j := j) (x := .int .u8 ((gm u sc).toNat : Nat)) (by omega) rfl
              have e7 : ((mixL (smul sc (rowA B r)) (rowA B r) j).map bb).set j (.int .u8 ((gm u sc).toNat : Nat)) = (mixL (smul sc (rowA B r)) (rowA B r) (j + 1)).map bb := by
                rw [← mixL_set hx6 (smul_at hu), List.map_set, gm_comm sc u]; rfl
              rw [e7] at M7
              have W7 := W6.put hz6 (L := mixL (smul sc (rowA B r)) (rowA B r) (j + 1)) K7 (by rw [mixL_len hx6] at M7 ⊢; exact M7)
              rw [List.set_set] at W7
              have ag : Agree h6.next h6 h6 := fun _ _ => rfl
              have vlt := W6.rows.own.sl.blk_lt (by rw [W6.rows.len]; simp; omega)
              have zlt := M6.sl.blk_lt (by omega)
              have smz := M6.sl.same
              simp [q0, q1, q7, q8, q10, q13, q14, q59, q60, isLt (show (j : Int) < (w : Int) by omega)]
              refine W_split 15 h6.next (by rfl) (by kernel_rfl) (by rfl) ?_
              dsimp only [List.take, List.drop]
              simp [obl, mayEff, mayRead, sameAV, q0, q1, q7, q8, q10, q13, q14, q59, q60, ixr6, ldr6, ixe6, lde6, mul, ag, vlt, zlt, smz, a7, i64w ((j : Int) + 1) (by omega) (by omega)]
              exact ⟨w - (j + 1), by omega, j + 1, rfl, by omega, by simp, W7⟩
            · have e : j = w := by omega
              have ew : w = (smul sc (rowA B r)).length := by rw [hx6, wr]
              rw [e] at W6
              have W6 : Wk h h6 F v rs5 (B.set r (smul sc (rowA B r))) := by
                have := W6
                rw [ew, mixL_all hx6] at this
                exact this
              rw [eS] at W6
              simp [q0, q1, q7, q8, q10, q13, q14, q59, q60, e]
              exact W6
          clear q0 q1 q7 q8 q9 q13 q14
          rintro ⟨t, h6⟩ ⟨q0, q1, q7, q8, q13, q14, W6⟩
          simp only at q0 q1 q7 q8 q13 q14 W6
          have hwC := scaleA_rows hwB (r := r) (c := c) (by omega)
          have lC : (scaleA B r c).length = len := by rw [scaleA_len, lB]
          generalize hCC : scaleA B r c = C at *
          have lv6 := W6.rows.own.sl.len'
          rw [W6.rows.len, lC] at lv6
          simp [q0, q1, q7, q8, q13, q14, lv6]
          refine W_cutLoop 6 (fun st => st.t.get 0 = some fv ∧ st.t.get 1 = some v ∧ st.t.get 7 = some (.int .i64 (r : Nat)) ∧ st.t.get 13 = some (.int .i64 (n : Nat)) ∧ st.t.get 14 = some (.int .i64 (c : Nat)) ∧ Wk h st.h F v rs5 (clrA C r c)) ?_ ?_
          · refine W_loop (fun m st => ∃ j, m = len - j ∧ j ≤ len ∧ st.t.get 0 = some fv ∧ st.t.get 1 = some v ∧ st.t.get 7 = some (.int .i64 (r : Nat)) ∧ st.t.get 8 = some (.int .i64 (c : Nat)) ∧ st.t.get 13 = some (.int .i64 (n : Nat)) ∧ st.t.get 14 = some (.int .i64 (c : Nat)) ∧ st.t.get 81 = some (.int .i64 (len : Nat)) ∧ st.t.get 82 = some (.int .i64 (j : Nat)) ∧ Wk h st.h F v rs5 (clrTo C r c j)) len (by omega)
              ⟨0, by omega, by omega, by simp [q0], by simp [q1], by simp [q7], by simp [q8], by simp [q13], by simp [q14], by simp, by simp, by rw [clrTo_0]; exact W6⟩ ?_
            clear q0 q1 q7 q8 q13 q14 W6 lv6
            rintro m ⟨t, h7⟩ ⟨j, rfl, hj, q0, q1, q7, q8, q13, q14, q81, q82, W7⟩
            simp only at q0 q1 q7 q8 q13 q14 q81 q82 W7
            by_cases hjl : j < len
            · by_cases hjr : j = r
              · have W8 := W7
                rw [hjr, ← clrTo_skip (A := C) (r := r) (c := c) (by omega)] at W8
                simp [q0, q1, q7, q8, q13, q14, q81, q82, isLt (show (j : Int) < (len : Int) by omega), isLt (show (r : Int) < (len : Int) by omega), hjr, i64w ((r : Int) + 1) (by omega) (by omega)]
                exact ⟨len - (r + 1), by omega, r + 1, rfl, by omega, by simp, W8⟩
              · obtain ⟨a, ha, Ma⟩ := W7.mine (j := j) (by simp; omega)
                obtain ⟨s, hsr, Ms⟩ := W7.mine (j := r) (by simp; omega)
                have ea : rowA (clrTo C r c j) j = rowA C j := by rw [clrTo_row (by omega), if_neg (by omega)]
                have es : rowA (clrTo C r c j) r = rowA C r := by
                  rw [clrTo_row (by omega)]
                  unfold clrR
                  split
                  · rw [if_pos rfl]
                  · rfl
                rw [ea] at Ma
                rw [es] at Ms
                have wa := hwC.row (k := j) (by omega)
                have ws := hwC.row (k := r) (by omega)
                have f7 : Fld h7 fv := fld_keep f W7.kp hf
                have ixa := W7.ix (j := j) (by simp; omega)
                have ixs := W7.ix (j := r) (by simp; omega)
                have lda := W7.ld ha
                have lds := W7.ld hsr
                have ixe7 := row_ix Ma.sl (j := c) (by omega)
                have lde7 := row_ld Ma.sl (j := c) (by omega)
                have eat7 : (rowA C j)[c]?.getD 0 = atA C j c := rfl
                rw [eat7] at lde7
                obtain ⟨_, h8, E8, M8, K8, rfl⟩ := add_ok k (by omega) h7 fv f7 a s (rowA C j) (rowA C r) (atA C j c) Ma Ms.sl (by omega) (by omega) (by omega) (W7.ne hsr ha (fun q => hjr q.symm) (Ms.blk (by omega)))
                  (fun b o e q => hf b o e (W7.inn b (mem_blks.2 ⟨a, List.mem_cons.2 (.inr (List.mem_of_getElem? ha)), q⟩)))
                have la8 : (addL (rowA C j) (smul (atA C j c) (rowA C r))).length = (rowA C j).length := addL_len (by rw [smul_len]; omega)
                have W8 := W7.put ha (L := addL (rowA C j) (smul (atA C j c) (rowA C r))) K8 (by rw [la8]; exact M8)
                have ec : addL (rowA C j) (smul (atA C j c) (rowA C r)) = clrR C r c j := by unfold clrR; rw [if_neg hjr]
                rw [ec, clrTo_set (by omega)] at W8
                have hjr' : ¬ (j : Int) = (r : Int) := by omega
                simp [q0, q1, q7, q8, q13, q14, q81, q82, isLt (show (j : Int) < (len : Int) by omega), hjr, hjr', ixa, ixs, lda, lds, ixe7, lde7, E8, i64w ((j : Int) + 1) (by omega) (by omega)]
                exact ⟨len - (j + 1), by omega, j + 1, rfl, by omega, by simp, W8⟩
            · have e : j = C.length := by omega
              rw [e, clrTo_all] at W7
              simp [q0, q1, q7, q8, q13, q14, q81, q82, e, lC]
              exact W7
          clear q0 q1 q7 q8 q13 q14 W6 lv6
          rintro ⟨t, h7⟩ ⟨q0, q1, q7, q13, q14, W7⟩
          simp only at q0 q1 q7 q13 q14 W7
          simp [q0, q1, q7, q13, q14]
          exact ⟨n - (c + 1), by omega, c + 1, rfl, by omega, by rw [hs', i64w ((r : Int) + 1) (by omega) (by omega)]; rfl, i64w ((c : Int) + 1) (by omega) (by omega), rs5, by rw [hs']; exact W7⟩
      · have hil : i = len := by omega
        subst hil
        rw [Nat.sub_self] at hfp
        simp only [findP] at hfp
        have hs' : redA A (c + 1) = (B0, r) := by
          rw [hs]
          unfold stepA
          simp only [hlen, hfp]
        simp [q0, q1, q7, q8, q9, q13, q14, lv]
        exact ⟨n - (c + 1), by omega, c + 1, rfl, by omega, by rw [hs'], i64w ((c : Int) + 1) (by omega) (by omega), rs3, by rw [hs']; exact W⟩
    · have e : c = n := by omega
      subst e
      simp [q0, q1, q7, q13, q14]
      exact ⟨_, W⟩
  · rintro ⟨t, h3⟩ ⟨q7, rs', W⟩
    simp only at q7 W
    simp [q7]
    exact ⟨_, W⟩
end Go.Proofs.Ytcgafaecdjbmiaa
