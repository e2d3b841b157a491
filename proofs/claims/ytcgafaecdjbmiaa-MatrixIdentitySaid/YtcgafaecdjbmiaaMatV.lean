/- matrix.Rank, matrix.Invert. -/
import Derived.Test.YtcgafaecdjbmiaaMatS
namespace Go.Proofs.Ytcgafaecdjbmiaa
open Go Go.YtcgafaecdjbmiaaAbs
set_option linter.unusedSimpArgs false
set_option linter.unusedVariables false
set_option maxRecDepth 4000

theorem fld_lt {h : Heap} {fv : AV} (f : Fld h fv) : ∃ b o, fv = .ptr b o ∧ b < h.next := by
  obtain ⟨b, o, c, ro, e, h1, _⟩ := f
  exact ⟨b, o, e, h1⟩
theorem fld_off {h : Heap} {fv : AV} {F : Nat → Prop} (f : Fld h fv) (hF : ∀ d, F d → h.next ≤ d) : Off fv F := fun b o e q => by
  obtain ⟨b', o', e', hl⟩ := fld_lt f
  rw [e] at e'
  cases e'
  have := hF b q
  omega
theorem nw_wk {h h' h2 : Heap} {v : AV} {rs rs2 : List AV} {A : Mt} (f : ∀ d, d ∈ blks (v :: rs) → h.next ≤ d) (K : Keep h.next nob h h') (W : Wk h' h2 (blks (v :: rs)) v rs2 A) : Nw h h2 v A :=
  ⟨rs2, W.rows, W.ap, fun d hd => f d (W.inn d hd), K.trans ⟨W.kp.1, fun d hd _ => W.kp.2 d (Nat.lt_of_lt_of_le hd K.1) fun q => by have := f d q; omega⟩⟩
def rankP (M : Mt) : Nat := if rightM M = true then rankA (rowA M 0).length M else 0
theorem right_rows {M : Mt} (h : rightM M = true) : ∀ r, r ∈ M → 1 ≤ r.length ∧ r.length < 1000000 := fun r hr => by
  obtain ⟨a, b⟩ := rightM_iff.1 h
  have := b r hr
  omega
theorem rank_ok (k : Nat) (hk : 250 < k) (h : Heap) (fv : AV) (f : Fld h fv) (v : AV) (rs : List AV) (M : Mt) (R : Rd h v rs M) :
    ∃ v' h', acall Try.prog (k + 4) 12 [fv, v] h = some (v', h') ∧ v' = .int .i64 (rankP M : Nat) ∧ Keep h.next nob h h' := by
  rw [acall_text [3] Try.func12 (by kernel_rfl)]
  refine afuncT_ex rfl (by simp [Try.f12]) ?_
  have E1 : acall Try.prog (k + 3) 22 [v] h = _ := right_ok (k + 2) (by omega) h v rs M R
  unfold rankP
  cases hr : rightM M with
  | false =>
    rw [hr] at E1
    simp [Try.f12, E1]
    exact Keep.refl _ _ _
  | true =>
    rw [hr] at E1
    rw [if_pos rfl]
    obtain ⟨a, b⟩ := rightM_iff.1 hr
    obtain ⟨m, h1, E2, rsm, Rm, Am, fm, Km⟩ := copied_ok (k + 1) (by omega) h v rs M R (by omega) (right_rows hr)
    obtain ⟨r0, hr0, R0⟩ := R.get (i := 0) (by omega)
    have R1 := R.ext Km
    have ix0 : aindex Try.prog 27 v (.int .i64 0) = some (.ptr v.blk v.off) := R.sl.idx1 (P := Try.prog) Try.underlying27 ts31 (j := 0) (by omega) .i64
    have ld1 : aload Try.prog h1 31 v.blk v.off = some r0 := R1.sl.ld (P := Try.prog) ta31 hr0
    have l0 := R0.len'
    have vlt := R.sl.blk_lt (by omega)
    have sm0 := R0.same
    generalize hw : (rowA M 0).length = w at *
    have ag : Agree h.next h h1 := fun c hc => Km.2 c hc id
    obtain ⟨_, h2, E3, rfl, rs2, W2⟩ := red_ok k (by omega) h1 fv (f.ext Km) m rsm M Rm Am w b (by omega) (by omega) (by omega) w (Nat.le_refl _) (fld_off f fm)
    simp [Try.f12, E1]
    refine W_split 6 h.next (by rfl) (by kernel_rfl) (by rfl) ?_
    dsimp only [List.take, List.drop]
    simp [obl, mayEff, mayRead, sameAV, E2, ag, ix0, ld1, vlt, sm0, l0, E3]
    exact ⟨rfl, (nw_wk fm Km W2).kb⟩

def invP (M : Mt) : Mt × Bool := if rightM M = true ∧ M.length = (rowA M 0).length then invA M else ([], false)
set_option maxHeartbeats 4000000 in
theorem invert_ok (k : Nat) (hk : 250 < k) (h : Heap) (fv : AV) (f : Fld h fv) (v : AV) (rs : List AV) (M : Mt) (R : Rd h v rs M) :
    ∃ v' h' B b, acall Try.prog (k + 4) 10 [fv, v] h = some (.tup [v', .bool b], h') ∧ invP M = (B, b) ∧ Keep h.next nob h h' ∧ (b = true → Nw h h' v' B) ∧ (b = false → v' = .nils) := by
  have E1 : acall Try.prog (k + 3) 22 [v] h = _ := right_ok (k + 2) (by omega) h v rs M R
  have lv := R.sl.len'
  have start : ∀ (B : Mt) (b : Bool), (∃ r h', afuncT Try.prog [] (acall Try.prog (k + 3)) (k + 3) Try.f10 [fv, v] h = some (r, h') ∧ ∃ v', r = .tup [v', .bool b] ∧ Keep h.next nob h h' ∧ (b = true → Nw h h' v' B) ∧ (b = false → v' = .nils)) → invP M = (B, b) →
      ∃ v' h' B b, acall Try.prog (k + 4) 10 [fv, v] h = some (.tup [v', .bool b], h') ∧ invP M = (B, b) ∧ Keep h.next nob h h' ∧ (b = true → Nw h h' v' B) ∧ (b = false → v' = .nils) := by
    rintro B b ⟨r, h', e, v', rfl, x1, x2, x3⟩ hq
    refine ⟨v', h', B, b, ?_, hq, x1, x2, x3⟩
    rw [acall_text [] Try.func10 (by kernel_rfl)]
    exact e
  cases hr : rightM M with
  | false =>
    rw [hr] at E1
    refine start [] false (afuncT_ex rfl (by simp [Try.f10]) ?_) (by unfold invP; rw [hr]; simp)
    simp [Try.f10, E1]
    exact Keep.refl _ _ _
  | true =>
    rw [hr] at E1
    obtain ⟨a, b⟩ := rightM_iff.1 hr
    obtain ⟨r0, hr0, R0⟩ := R.get (i := 0) (by omega)
    have ix0 : aindex Try.prog 27 v (.int .i64 0) = some (.ptr v.blk v.off) := R.sl.idx1 (P := Try.prog) Try.underlying27 ts31 (j := 0) (by omega) .i64
    have ld0 : aload Try.prog h 31 v.blk v.off = some r0 := R.sl.ld (P := Try.prog) ta31 hr0
    have l0 := R0.len'
    generalize hw : (rowA M 0).length = w at *
    by_cases hsq : M.length = w
    rotate_left
    · have hsq' : ¬ (M.length : Int) = (w : Int) := by omega
      refine start [] false (afuncT_ex rfl (by simp [Try.f10]) ?_) (by unfold invP; rw [hw, if_neg (fun q => hsq q.2)])
      simp [Try.f10, E1, lv, ix0, ld0, l0, hsq, hsq']
      exact Keep.refl _ _ _
    have hinv : invP M = invA M := by unfold invP; rw [hw, if_pos ⟨hr, hsq⟩]
    rw [hsq] at lv
    obtain ⟨m, h1, E2, Nm⟩ := copied_ok (k + 1) (by omega) h v rs M R (by omega) (right_rows hr)
    obtain ⟨idv, h2, E3, Ni⟩ := identity_ok (k + 2) (by omega) h1 w (by omega) (by omega)
    obtain ⟨rsm, Rm, Am, fm, Km⟩ := Nm
    obtain ⟨rsi, Ri, Ai, fi, Ki⟩ := Ni
    have li := Ri.own.sl.len'
    rw [Ri.len, idM_len] at li
    have hjl : (joinA M (idM w)).length = M.length := joinA_len (by simp [hsq])
    have Rm2 := Rm.ext Ki
    have count := invA_rank b hsq
    have main : ∀ (B : Mt) (b : Bool), invA M = (B, b) → (∃ r h', afuncT Try.prog [] (acall Try.prog (k + 3)) (k + 3) Try.f10 [fv, v] h = some (r, h') ∧ ∃ v', r = .tup [v', .bool b] ∧ Keep h.next nob h h' ∧ (b = true → Nw h h' v' B) ∧ (b = false → v' = .nils)) := by
      intro B bl hB
      refine afuncT_ex rfl (by simp [Try.f10]) ?_
      simp [Try.f10, E1, lv, ix0, ld0, l0, E2, E3, li]
      refine W_cutLoop 0 (fun st => st.t.get 0 = some fv ∧ st.t.get 6 = some (.int .i64 (w : Nat)) ∧ st.t.get 7 = some m ∧ ∃ rs', RowsO fb 1 st.h m rs' (joinA M (idM w)) ∧ Apart (m :: rs') ∧ (∀ d, d ∈ blks (m :: rs') → h.next ≤ d) ∧ Keep h.next nob h st.h) ?_ ?_
      · refine W_loop (fun mm st => ∃ (j : Nat) (rs' : List AV), mm = w - j ∧ j ≤ w ∧ st.t.get 0 = some fv ∧ st.t.get 6 = some (.int .i64 (w : Nat)) ∧ st.t.get 7 = some m ∧ st.t.get 28 = some idv ∧ st.t.get 29 = some (.int .i64 (w : Nat)) ∧ st.t.get 30 = some (.int .i64 (j : Nat)) ∧
          RowsO fb 1 st.h m rs' (mixL (joinA M (idM w)) M j) ∧ Apart (m :: rs') ∧ (∀ d, d ∈ blks (m :: rs') → h.next ≤ d ∧ d ∉ blks (idv :: rsi)) ∧ Keep h.next nob h st.h ∧ RowsO fb 1 st.h idv rsi (idM w)) w (by omega)
          ⟨0, rsm, by omega, by omega, by simp, by simp, by simp, by simp, by simp, by simp, by rw [mixL_0]; exact Rm2, Am, fun d hd => ⟨fm d hd, fun q => by have := Rm.lt hd; have := fi d q; omega⟩, Km.trans (Ki.weak Km.1 fun _ _ q => q), Ri⟩ ?_
        rintro mm ⟨t, h3⟩ ⟨j, rs3, rfl, hj, q0, q6, q7, q28, q29, q30, R3, A3, f3, K3, I3⟩
        simp only at q0 q6 q7 q28 q29 q30 R3 K3 I3
        by_cases hlt : j < w
        · obtain ⟨L, hL⟩ : ∃ L, M[j]? = some L := ⟨M[j]'(by omega), by simp⟩
          have hmx : (mixL (joinA M (idM w)) M j)[j]? = some L := by rw [mixL_get hjl (Nat.le_refl _), hL]
          have hLl := b L (List.mem_of_getElem? hL)
          obtain ⟨r, hr1, Mr⟩ := R3.row hmx
          obtain ⟨e, he1, Me⟩ := I3.row (idM_get hlt)
          rw [cat_fb] at Mr Me
          have Se := Me.sl
          simp only [ev1_len] at Se
          obtain ⟨r', h4, a4, M4, F4, K4⟩ := Mr.append (P := Try.prog) el31 (xt := 31) (by rw [Try.underlying31]; rfl) Se.alen Se.acells (bb_one _) (by simp) (by omega)
          have M4 : Mine 1 (L ++ ev1 w j).length h4 r' (cat fb (L ++ ev1 w j)) := by
            rw [cat_fb, List.map_append, List.length_append, ev1_len]; exact M4
          obtain ⟨h5, b1, b2, b3, b4, b5⟩ := R3.set A3 hr1 K4 M4 F4
          have hset : (mixL (joinA M (idM w)) M j).set j (L ++ ev1 w j) = mixL (joinA M (idM w)) M (j + 1) := mixL_set hjl (joinA_get hL (idM_get hlt))
          rw [hset] at b2
          have ixm := R3.own.sl.idx1 (P := Try.prog) Try.underlying27 ts31 (j := j) (by rw [R3.len, mixL_len hjl]; omega) .i64
          have ldm := R3.own.sl.ld (P := Try.prog) ta31 hr1
          have ixi := I3.own.sl.idx1 (P := Try.prog) Try.underlying27 ts31 (j := j) (by rw [I3.len, idM_len]; omega) .i64
          have ldi := I3.own.sl.ld (P := Try.prog) ta31 he1
          have rwr := row1_one (show r'.one = true from M4.oneV)
          have inF : ∀ d, (Has r d ∨ Has m d) → d ∈ blks (m :: rs3) := fun d q => q.elim (fun q => mem_blks.2 ⟨r, List.mem_cons.2 (.inr (List.mem_of_getElem? hr1)), q⟩) fun q => mem_blks.2 ⟨m, by simp, q⟩
          simp [q0, q6, q7, q28, q29, q30, isLt (show (j : Int) < (w : Int) by omega), ixi, ldi, ixm, ldm, a4, rwr, b1, i64w ((j : Int) + 1) (by omega) (by omega)]
          refine ⟨w - (j + 1), by omega, j + 1, rfl, by omega, by simp, _, b2, ?_, fun d hd => ?_, K3.trans ⟨b3.1, fun d hd _ => b3.2 d (Nat.lt_of_lt_of_le hd K3.1) fun q => by have := (f3 d (inF d q)).1; omega⟩, I3.keep b3 fun d hd q => (f3 d (inF d q)).2 hd⟩
          · have := A3.set (i := j + 1) (v := r) (v' := r') (by simpa using hr1) fun c hc => by
              rcases F4 c hc with z | z
              · exact .inl z
              · exact .inr fun q => by have := R3.lt q; omega
            simpa using this
          · have hd' : Has r' d ∨ d ∈ blks (m :: rs3) := by
              have := blks_set (l := m :: rs3) (i := j + 1) (v' := r') (c := d) (by simpa using hd)
              exact this
            rcases hd' with q | q
            · rcases F4 d q with z | z
              · exact f3 d (inF d (.inl z))
              · exact ⟨Nat.le_trans K3.1 z, fun q => by have := I3.lt q; omega⟩
            · exact f3 d q
        · have e : j = M.length := by omega
          rw [e, ← hjl, mixL_all hjl] at R3
          simp [q0, q6, q7, q28, q29, q30, e, hsq]
          exact ⟨rs3, R3, A3, fun d hd => (f3 d hd).1, K3⟩
      rintro ⟨t, h3⟩ ⟨q0, q6, q7, rs3, R3, A3, f3, K3⟩
      simp only at q0 q6 q7 R3 K3
      have hjr := joinA_rows (show M.length = (idM w).length by simp [hsq]) b (idM_rows w)
      obtain ⟨ps, P, hpl, E, hl2⟩ := redA_ok hjr w
      have hle := sub_range P.sub
      obtain ⟨_, h4, E4, rfl, rs4, W4⟩ := red_ok k (by omega) h3 fv (f.ext K3) m rs3 _ R3 A3 (w + w) hjr (by omega) (by omega) (by omega) w (by omega) (fld_off f f3)
      have N4 := nw_wk f3 K3 W4
      have hA := hB
      unfold invA at hA
      rw [hsq] at hA
      have hrb := E.rb
      rw [hpl] at hle
      generalize redA (joinA M (idM w)) w = s at *
      obtain ⟨A', cnt⟩ := s
      simp only at *
      have hAl : A'.length = w := by omega
      by_cases hc : cnt < w
      · rw [if_pos hc] at hA
        cases hA
        simp [q0, q6, q7, E4, isLt (show (cnt : Int) < (w : Int) by omega)]
        exact N4.kb
      · rw [if_neg hc] at hA
        have lm := W4.rows.own.sl.len'
        rw [W4.rows.len, hAl] at lm
        simp [q0, q6, q7, E4, isLe (show (w : Int) ≤ (cnt : Int) by omega), lm]
        obtain ⟨D, hD⟩ : ∃ D, A'.map (·.drop w) = D := ⟨_, rfl⟩
        have hDl : D.length = A'.length := by rw [← hD]; simp
        rw [hD] at hA
        refine W_cutLoop 2 (fun st => st.t.get 7 = some m ∧ Nw h st.h m D) ?_ ?_
        · refine W_loop (fun mm st => ∃ (j : Nat), mm = w - j ∧ j ≤ w ∧ st.t.get 6 = some (.int .i64 (w : Nat)) ∧ st.t.get 7 = some m ∧ st.t.get 52 = some (.int .i64 (w : Nat)) ∧ st.t.get 53 = some (.int .i64 (j : Nat)) ∧ Nw h st.h m (mixL D A' j)) w (by omega)
            ⟨0, by omega, by omega, by simp [q6], by simp [q7], by simp, by simp, by rw [mixL_0]; exact N4⟩ ?_
          clear q0 q6 q7
          rintro mm ⟨t, h5⟩ ⟨j, rfl, hj, q6, q7, q52, q53, N⟩
          simp only at q6 q7 q52 q53 N
          by_cases hlt : j < w
          · obtain ⟨L, hL⟩ : ∃ L, A'[j]? = some L := ⟨A'[j]'(by omega), by simp⟩
            have hDj : D[j]? = some (L.drop w) := by rw [← hD, List.getElem?_map, hL]; rfl
            have hmx : (mixL D A' j)[j]? = some L := by rw [mixL_get hDl (Nat.le_refl _), hL]
            have hLl := hrb L (List.mem_of_getElem? hL)
            obtain ⟨rs5, R5, A5, f5, K5⟩ := id N
            obtain ⟨r, hr1, Mr⟩ := R5.row hmx
            rw [cat_fb] at Mr
            obtain ⟨s2, a2, S2⟩ := Mr.sl.from (P := Try.prog) (ty := 31) Try.underlying31 ts5 (k := .i64) (j := w) (by omega)
            have S2 : Sl 1 (L.drop w).length h5 s2 ((L.drop w).map bb) := by
              rw [List.length_drop, List.map_drop]
              rw [Nat.mul_one] at S2
              exact S2
            obtain ⟨c, h6, E6, M6, F6, K6⟩ := clone_ok (k + 2) h5 s2 (L.drop w) S2 (by rw [List.length_drop]; omega) (by rw [List.length_drop]; omega)
            obtain ⟨h7, a7, N7, _⟩ := N.set (j := j) (by rw [mixL_len hDl]; omega) K6 M6 F6
            rw [mixL_set hDl hDj] at N7
            have ixm := R5.own.sl.idx1 (P := Try.prog) Try.underlying27 ts31 (j := j) (by rw [R5.len, mixL_len hDl]; omega) .i64
            have ldm := R5.own.sl.ld (P := Try.prog) ta31 hr1
            have rwc := row1_one (show c.one = true from M6.oneV)
            simp [q6, q7, q52, q53, isLt (show (j : Int) < (w : Int) by omega), ixm, ldm, a2, E6, rwc, a7, i64w ((j : Int) + 1) (by omega) (by omega)]
            exact ⟨w - (j + 1), by omega, j + 1, rfl, by omega, by simp, N7⟩
          · have e : j = D.length := by omega
            rw [e, mixL_all hDl] at N
            simp [q6, q7, q52, q53, e, hDl, hAl]
            exact N
        rintro ⟨t, h5⟩ ⟨q7', N⟩
        simp only at q7' N
        cases hA
        simp [q7']
        exact ⟨N.kb, N⟩
    exact start (invA M).1 (invA M).2 (main (invA M).1 (invA M).2 rfl) (by rw [hinv])
end Go.Proofs.Ytcgafaecdjbmiaa
