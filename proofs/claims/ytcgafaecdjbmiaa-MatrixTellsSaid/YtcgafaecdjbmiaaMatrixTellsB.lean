/- Contracts of the functions that the law reaches, over the abstract machine. -/
import Derived.Test.YtcgafaecdjbmiaaMatrixTellsA
import Derived.Test.YtcgafaecdjbmiaaMachC
import Derived.Test.YtcgafaecdjbmiaaMachA
import Derived.Test.YtcgafaecdjbmiaaMachB
import Derived.Test.YtcgafaecdjbmiaaMachD
/- The document's Identity and Cauchy; both out of their bounds. -/
namespace Go.Proofs.Ytcgafaecdjbmiaa
open Go Go.YtcgafaecdjbmiaaAbs
set_option linter.unusedSimpArgs false
set_option linter.unusedVariables false
set_option maxRecDepth 4000

theorem nw_nil (h : Heap) : Nw h h .nils [] := ⟨[], ⟨Mine.nil 1 h, rfl, fun i r L hr => by simp at hr⟩, by show ([] : List Nat).Nodup; exact List.nodup_nil, fun d hd => by simp [blks, AV.at?] at hd, Keep.refl _ _ _⟩
set_option maxHeartbeats 1000000 in
theorem ridentity_ok (k : Nat) (hk : 30 < k) (h : Heap) (n : Nat) (h1 : 1 ≤ n) (h2 : n ≤ 12) :
    ∃ v' h', acall Try.prog (k + 1) 24 [.int .i64 (n : Nat)] h = some (v', h') ∧ Nw h h' v' (idM n) := by
  rw [acall_text [] Try.func24 (by kernel_rfl)]
  refine afuncT_ex rfl (by simp [Try.f24]) ?_
  simp [Try.f24]
  refine W_cutLoop 0 (fun st => ∃ mv, st.t.get 3 = some mv ∧ Nw h st.h mv (idM n)) ?_ ?_
  · refine W_loop (fun mm st => ∃ (i : Nat) (mv : AV), mm = n - i ∧ i ≤ n ∧ st.t.get 0 = some (.int .i64 (n : Nat)) ∧ st.t.get 3 = some mv ∧ st.t.get 4 = some (.int .i64 (i : Nat)) ∧ Nw h st.h mv ((idM n).take i)) n (by omega)
      ⟨0, .nils, by omega, by omega, by simp, by simp, by simp, nw_nil h⟩ ?_
    rintro mm ⟨t, h3⟩ ⟨i, mv, rfl, hi, q0, q3, q4, N⟩
    simp only at q0 q3 q4 N
    by_cases hlt : i < n
    · have Mz := new_row h3 (zv n) n (zv_len n)
      have Kz : Keep h3.next nob h3 (h3.new (.cells ((zv n).map bb) false)) := Keep.new (Nat.le_refl _) _
      have Fz : ∀ d, Has (.sl h3.next 0 n n 1 true) d → h3.next ≤ d := fun d hd => by cases hd; exact Nat.le_refl _
      have ixr := Mz.sl.idx1 (P := Try.prog) Try.underlying31 ts5 (j := i) hlt .i64
      obtain ⟨h4, a4, M4, K4, n4⟩ := Mz.lay1 (j := i) (x := bb 1) hlt rfl
      have e4 : ((zv n).map bb).set i (bb 1) = (ev1 n i).map bb := by unfold ev1; rw [List.map_set]
      rw [e4] at M4
      rw [zv_bb] at a4
      have K4' : Keep h3.next nob h3 h4 := Kz.trans ⟨K4.1, fun d hd _ => K4.2 d (Nat.lt_of_lt_of_le hd Kz.1) fun q => by have := Fz d q; omega⟩
      obtain ⟨v6, h6, a6, N6⟩ := N.push K4' (L := ev1 n i) (by rw [ev1_len]; exact M4) Fz (by rw [List.length_take]; omega)
      have e6 : (idM n).take i ++ [ev1 n i] = (idM n).take (i + 1) := by rw [List.take_add_one, idM_get hlt]; rfl
      rw [e6] at N6
      simp [AV.blk, AV.off] at ixr
      simp [AV.blk, AV.off, bb] at a4
      simp [q0, q3, q4, isLt (show (i : Int) < (n : Int) by omega), isLe (show (n : Int) ≤ 12 by omega), aalloc_make (P := Try.prog) el31 (z := [.int .u8 0]) az5 rfl rfl n n (Nat.le_refl _) (by omega), flat1, afill, ixr, a4]
      simp [q0, q3, q4, aalloc, afill, a6, i64w ((i : Int) + 1) (by omega) (by omega)]
      exact ⟨n - (i + 1), by omega, i + 1, rfl, by omega, by simp, N6⟩
    · have e : i = (idM n).length := by rw [idM_len]; omega
      rw [e, List.take_length] at N
      simp [q0, q3, q4, isLe (show (n : Int) ≤ (i : Int) by omega)]
      exact N
  · rintro ⟨t, h3⟩ ⟨mv, q3, N⟩
    simp only at q3 N
    simp [q3]
    exact N
/-- Out of its bounds. -/
theorem identity_no (k : Nat) (h : Heap) (n : Int) (hn : n < 1 ∨ 12 < n) : acall Try.prog (k + 1) 14 [.int .i64 n] h = some (.nils, h) := by
  rw [acall_text [] Try.func14 (by kernel_rfl)]
  refine afuncT_of rfl (by simp [Try.f14]) ?_
  by_cases q : n < 1
  · simp [Try.f14, isLt q]
  · simp [Try.f14, isLe (show 1 ≤ n by omega), isLt (show 12 < n by omega)]
theorem ridentity_no (k : Nat) (h : Heap) (n : Int) (hn : n < 1 ∨ 12 < n) : acall Try.prog (k + 31) 24 [.int .i64 n] h = some (.nils, h) := by
  rw [acall_text [] Try.func24 (by kernel_rfl)]
  refine afuncT_of rfl (by simp [Try.f24]) ?_
  simp [Try.f24]
  refine W_loop (fun mm st => st.t.get 0 = some (.int .i64 n) ∧ st.t.get 3 = some .nils ∧ st.t.get 4 = some (.int .i64 0) ∧ st.h = h) 1 (by omega) ⟨by simp, by simp, by simp, rfl⟩ ?_
  rintro mm ⟨t, h3⟩ ⟨q0, q3, q4, e⟩
  simp only at q0 q3 q4 e
  subst e
  by_cases q : n < 1
  · simp [q0, q3, q4, isLe (show n ≤ 0 by omega)]
  · simp [q0, q3, q4, isLt (show 0 < n by omega), isLt (show 12 < n by omega)]
def cauIn (n m : Int) : Prop := 1 ≤ n ∧ n ≤ 8 ∧ 0 ≤ m ∧ m ≤ 12 - n
theorem cauchy_no (k : Nat) (h : Heap) (fv : AV) (n m : Int) (hn : ¬ cauIn n m) : acall Try.prog (k + 1) 13 [fv, .int .i64 n, .int .i64 m] h = some (.nils, h) := by
  rw [acall_text [] Try.func13 (by kernel_rfl)]
  refine afuncT_of rfl (by simp [Try.f13]) ?_
  unfold cauIn at hn
  by_cases q1 : n < 1
  · simp [Try.f13, isLt q1]
  by_cases q2 : 8 < n
  · simp [Try.f13, isLe (show 1 ≤ n by omega), isLt q2]
  by_cases q3 : m < 0
  · simp [Try.f13, isLe (show 1 ≤ n by omega), isLe (show n ≤ 8 by omega), isLt q3]
  · simp [Try.f13, isLe (show 1 ≤ n by omega), isLe (show n ≤ 8 by omega), isLe (show 0 ≤ m by omega), i64w (12 - n) (by omega) (by omega), isLt (show 12 - n < m by omega)]
theorem rcauchy_no (k : Nat) (h : Heap) (n m : Int) (hn : ¬ cauIn n m) : acall Try.prog (k + 1) 25 [.int .i64 n, .int .i64 m] h = some (.nils, h) := by
  rw [acall_text [] Try.func25 (by kernel_rfl)]
  refine afuncT_of rfl (by simp [Try.f25]) ?_
  unfold cauIn at hn
  by_cases q1 : n < 1
  · simp [Try.f25, isLt q1]
  by_cases q2 : 8 < n
  · simp [Try.f25, isLe (show 1 ≤ n by omega), isLt q2]
  by_cases q3 : m < 0
  · simp [Try.f25, isLe (show 1 ≤ n by omega), isLe (show n ≤ 8 by omega), isLt q3]
  · simp [Try.f25, isLe (show 1 ≤ n by omega), isLe (show n ≤ 8 by omega), isLe (show 0 ≤ m by omega), i64w (12 - n) (by omega) (by omega), isLt (show 12 - n < m by omega)]
set_option maxHeartbeats 4000000 in
theorem rcauchy_ok (k : Nat) (hk : 350 < k) (h : Heap) (n m : Nat) (n1 : 1 ≤ n) (n2 : n ≤ 8) (hm : m + n ≤ 12) :
    ∃ v' h', acall Try.prog (k + 3) 25 [.int .i64 (n : Nat), .int .i64 (m : Nat)] h = some (v', h') ∧ Nw h h' v' (cauM n m) := by
  rw [acall_text [] Try.func25 (by kernel_rfl)]
  refine afuncT_ex rfl (by simp [Try.f25]) ?_
  obtain ⟨v0, h1, E1, N1⟩ := ridentity_ok (k + 1) (by omega) h n n1 (by omega)
  have s1 := i64w ((12 : Int) - (n : Int)) (by omega) (by omega)
  simp [Try.f25, isLe (show (1 : Int) ≤ (n : Int) by omega), isLe (show (n : Int) ≤ 8 by omega), isLe (show (0 : Int) ≤ (m : Int) by omega), s1, isLe (show (m : Int) ≤ 12 - (n : Int) by omega), E1]
  have eI : idM n = (List.range (n + 0)).map (cauR n) := by
    unfold idM
    exact List.map_congr_left fun i hi => (cauR_id (List.mem_range.1 hi)).symm
  refine W_cutLoop 0 (fun st => ∃ v', st.t.get 5 = some v' ∧ Nw h st.h v' (cauM n m)) ?_ ?_
  · refine W_loop (fun mm st => ∃ (i : Nat) (v' : AV), mm = m - i ∧ i ≤ m ∧ st.t.get 0 = some (.int .i64 (n : Nat)) ∧ st.t.get 1 = some (.int .i64 (m : Nat)) ∧ st.t.get 5 = some v' ∧ st.t.get 6 = some (.int .i64 (i : Nat)) ∧ Nw h st.h v' ((List.range (n + i)).map (cauR n))) m (by omega)
      ⟨0, v0, by omega, by omega, by simp, by simp, by simp, by simp, by rw [← eI]; exact N1⟩ ?_
    rintro mm ⟨t, h3⟩ ⟨i, v3, rfl, hi, q0, q1, q5, q6, N3⟩
    simp only at q0 q1 q5 q6 N3
    by_cases hlt : i < m
    · have Mz := new_row h3 (zv n) n (zv_len n)
      rw [zv_bb] at Mz
      have Kz : Keep h3.next nob h3 (h3.new (.cells (List.replicate n (.int .u8 0)) false)) := Keep.new (Nat.le_refl _) _
      obtain ⟨rv, hrv⟩ : ∃ rv, AV.sl h3.next 0 n n 1 true = rv := ⟨_, rfl⟩
      have Fz : ∀ d, Has rv d → h3.next ≤ d := fun d hd => by rw [← hrv] at hd; cases hd; exact Nat.le_refl _
      simp [q0, q1, q5, q6, isLt (show (i : Int) < (m : Int) by omega), aalloc_make (P := Try.prog) el31 (z := [.int .u8 0]) az5 rfl rfl n n (Nat.le_refl _) (by omega), flat1, afill]
      rw [hrv] at Mz ⊢
      have lc1 : (cauR n (n + i)).length = (zv n).length := by simp
      refine W_cutLoop 2 (fun st => st.t.get 0 = some (.int .i64 (n : Nat)) ∧ st.t.get 1 = some (.int .i64 (m : Nat)) ∧ st.t.get 5 = some v3 ∧ st.t.get 6 = some (.int .i64 (i : Nat)) ∧ st.t.get 7 = some rv ∧ Mine 1 n st.h rv ((cauR n (n + i)).map bb) ∧ Keep h3.next nob h3 st.h) ?_ ?_
      · refine W_loop (fun mm st => ∃ (j : Nat), mm = n - j ∧ j ≤ n ∧ st.t.get 0 = some (.int .i64 (n : Nat)) ∧ st.t.get 1 = some (.int .i64 (m : Nat)) ∧ st.t.get 5 = some v3 ∧ st.t.get 6 = some (.int .i64 (i : Nat)) ∧ st.t.get 7 = some rv ∧ st.t.get 8 = some (.int .i64 (j : Nat)) ∧ Mine 1 n st.h rv ((mixL (cauR n (n + i)) (zv n) j).map bb) ∧ Keep h3.next nob h3 st.h) n (by omega)
          ⟨0, by omega, by omega, by simp [q0], by simp [q1], by simp [q5], by simp [q6], by simp, by simp, by rw [mixL_0, zv_bb]; exact Mz, Kz⟩ ?_
        clear q0 q1 q5 q6
        rintro mm ⟨t, h5⟩ ⟨j, rfl, hj, q0, q1, q5, q6, q7, q8, M5, K5⟩
        simp only at q0 q1 q5 q6 q7 q8 M5 K5
        by_cases hjl : j < n
        · obtain ⟨x, hx⟩ : ∃ x, UInt8.ofNat (n + i) ^^^ UInt8.ofNat j = x := ⟨_, rfl⟩
          have inv := rinv_ok k (by omega) h5 x
          have hg : (cauR n (n + i))[j]? = some (gi x) := by
            unfold cauR
            rw [List.getElem?_map, List.getElem?_range hjl, Option.map_some]
            unfold gB
            rw [if_neg (by omega), hx]
          have ixr := M5.sl.idx1 (P := Try.prog) Try.underlying31 ts5 (j := j) hjl .i64
          obtain ⟨h6, a6, M6, K6, n6⟩ := M5.lay1 (j := j) (x := .int .u8 ((gi x).toNat : Nat)) hjl rfl
          have e6 : ((mixL (cauR n (n + i)) (zv n) j).map bb).set j (.int .u8 ((gi x).toNat : Nat)) = (mixL (cauR n (n + i)) (zv n) (j + 1)).map bb := by
            rw [← mixL_set lc1 hg, List.map_set]; rfl
          rw [e6] at M6
          have K6' : Keep h3.next nob h3 h6 := K5.trans ⟨K6.1, fun d hd _ => K6.2 d (Nat.lt_of_lt_of_le hd K5.1) fun q => by have := Fz d q; omega⟩
          obtain ⟨p, hp⟩ : ∃ p, p = n + i := ⟨_, rfl⟩
          have s2 : fwrap .i64 ((n : Int) + (i : Int)) = (p : Nat) := by rw [i64w _ (by omega) (by omega)]; omega
          have s3 : fwrap .u8 ((p : Nat) : Int) = (p : Nat) := fwrap_u8 (by omega)
          have s4 : fwrap .u8 ((j : Nat) : Int) = (j : Nat) := fwrap_u8 (by omega)
          have s5 : fwrap .u8 (((p % modulus .u8) ^^^ (j % modulus .u8) : Nat) : Int) = ((x.toNat : Nat) : Int) := by
            have := xor_u8 (UInt8.ofNat p) (UInt8.ofNat j)
            rw [ofNat_toNat (by omega), ofNat_toNat (by omega)] at this
            rw [this, hp, hx]
          simp [q0, q1, q5, q6, q7, q8, isLt (show (j : Int) < (n : Int) by omega), s2, s3, s4, s5, inv, ixr, a6, i64w ((j : Int) + 1) (by omega) (by omega)]
          exact ⟨n - (j + 1), by omega, j + 1, rfl, by omega, by simp, M6, K6'⟩
        · have e : j = (cauR n (n + i)).length := by simp; omega
          rw [e, mixL_all lc1] at M5
          simp [q0, q1, q5, q6, q7, q8, e]
          exact ⟨M5, K5⟩
      clear q0 q1 q5 q6
      rintro ⟨t, h5⟩ ⟨q0, q1, q5, q6, q7, M5, K5⟩
      simp only at q0 q1 q5 q6 q7 M5 K5
      obtain ⟨v6, h6, a6, N6⟩ := N3.push K5 (L := cauR n (n + i)) (by simpa using M5) Fz (by simp; omega)
      have rwr := row1_one (show rv.one = true from M5.oneV)
      have e6 : (List.range (n + i)).map (cauR n) ++ [cauR n (n + i)] = (List.range (n + (i + 1))).map (cauR n) := by
        rw [← Nat.add_assoc, List.range_succ, List.map_append]; rfl
      rw [e6] at N6
      simp [q0, q1, q5, q6, q7, aalloc, afill, rwr, show rv.one = true from M5.oneV, a6, i64w ((i : Int) + 1) (by omega) (by omega)]
      exact ⟨m - (i + 1), by omega, i + 1, rfl, by omega, by simp, N6⟩
    · have e : i = m := by omega
      subst e
      simp [q0, q1, q5, q6]
      exact N3
  · rintro ⟨t, h3⟩ ⟨v', q5, N⟩
    simp only at q5 N
    simp [q5]
    exact N
end Go.Proofs.Ytcgafaecdjbmiaa
/- The document's Invert. -/
namespace Go.Proofs.Ytcgafaecdjbmiaa
open Go Go.YtcgafaecdjbmiaaAbs
set_option linter.unusedSimpArgs false
set_option linter.unusedVariables false
set_option maxRecDepth 4000

/-- A new row of rows that were there. -/
structure Lst (h0 h : Heap) (v : AV) (rs : List AV) (M : Mt) : Prop where
  own : Mine 1 M.length h v rs
  len : rs.length = M.length
  row : ∀ (i : Nat) (r : AV) (L : Vc), rs[i]? = some r → M[i]? = some L → Sl 1 L.length h0 r (L.map bb)
  nw : ∀ d, Has v d → h0.next ≤ d
  kb : Keep h0.next nob h0 h
theorem Lst.nil (h : Heap) : Lst h h .nils [] [] := ⟨Mine.nil 1 h, rfl, (fun i r L hr => by simp at hr), (fun d hd => by cases hd), Keep.refl _ _ _⟩
theorem Lst.rd {h0 h : Heap} {v : AV} {rs : List AV} {M : Mt} (S : Lst h0 h v rs M) : Rd h v rs M := ⟨S.own.sl, fun i r L hr hL => (S.row i r L hr hL).ext S.kb⟩
theorem Lst.push {h0 h : Heap} {v : AV} {rs : List AV} {M : Mt} (S : Lst h0 h v rs M) {r : AV} {L : Vc} (Sr : Sl 1 L.length h0 r (L.map bb)) (hl : M.length < 1000000) :
    ∃ v' h', aappend Try.prog (h.new (.cells [r] false)) 27 27 v (.sl h.next 0 1 1 1 true) = some (v', h') ∧ Lst h0 h' v' (rs ++ [r]) (M ++ [L]) := by
  obtain ⟨v2, h2, a1, a2, a3, a4⟩ := S.own.push (P := Try.prog) el27 (a := [r]) (ex := true) (by simp [Sr.oneV]) rfl (by omega)
  have hlen := S.len
  refine ⟨v2, h2, a1, by rw [List.length_append]; exact a2, by simp [hlen], fun j r2 L2 hr2 hL2 => ?_, fun d hd => ?_, S.kb.trans ⟨a4.1, fun d hd _ => a4.2 d (Nat.lt_of_lt_of_le hd S.kb.1) fun q => by have := S.nw d q; omega⟩⟩
  · by_cases hj : j < rs.length
    · rw [List.getElem?_append_left (by omega)] at hr2 hL2
      exact S.row j r2 L2 hr2 hL2
    · have hj' : j = rs.length := by
        have := (List.getElem?_eq_some_iff.1 hr2).1
        rw [List.length_append] at this
        simp at this
        omega
      rw [hj', List.getElem?_append_right (by omega), Nat.sub_self] at hr2
      rw [hj', hlen, List.getElem?_append_right (by omega), Nat.sub_self] at hL2
      cases hr2
      cases hL2
      exact Sr
  · rcases a3 d hd with z | z
    · exact S.nw d z
    · exact Nat.le_trans S.kb.1 z
theorem smul_zero (v : Vc) : smul 0 v = zv v.length := by
  refine vc_ext (by simp) fun j hj => ?_
  rw [smul_get, zv_get, gm_comm, gm_zero]
/-- One pivot for each column so far. -/
theorem redA_le {n : Nat} {A : Mt} (h : RowsN n A) : ∀ (d c : Nat), (redA A (c + d)).2 ≤ (redA A c).2 + d
  | 0, c => Nat.le_refl _
  | d + 1, c => by
    have ih := redA_le h d c
    rw [← Nat.add_assoc, redA_succ]
    unfold stepA
    split
    · exact Nat.le_trans ih (by omega)
    · show _ + 1 ≤ _; omega
theorem findP_at {A : Mt} {c p f : Nat} (h : atA A p c ≠ 0) : findP A c (f + 1) p = some p := by
  simp only [findP]
  rw [if_pos h]
/-- The first rows of both, one behind the other. -/
theorem take_push {A : Mt} {i : Nat} {L : Vc} (h : A[i]? = some L) : A.take i ++ [L] = A.take (i + 1) := by rw [List.take_add_one, h]; rfl

set_option maxHeartbeats 8000000 in
theorem rinvert_ok (k : Nat) (hk : 400 < k) (h : Heap) (v : AV) (rs : List AV) (M : Mt) (R : Rd h v rs M) :
    ∃ v' h' B b, acall Try.prog (k + 4) 20 [v] h = some (.tup [v', .bool b], h') ∧ invP M = (B, b) ∧ Keep h.next nob h h' ∧ (b = true → ∃ rs', Rd h' v' rs' B) ∧ (b = false → v' = .nils) := by
  have E1 : acall Try.prog (k + 3) 23 [v] h = _ := rright_ok (k + 2) (by omega) h v rs M R
  have lv := R.sl.len'
  have start : ∀ (B : Mt) (b : Bool), (∃ r h', afuncT Try.prog [22, 31] (acall Try.prog (k + 3)) (k + 3) Try.f20 [v] h = some (r, h') ∧ ∃ v', r = .tup [v', .bool b] ∧ Keep h.next nob h h' ∧ (b = true → ∃ rs', Rd h' v' rs' B) ∧ (b = false → v' = .nils)) → invP M = (B, b) →
      ∃ v' h' B b, acall Try.prog (k + 4) 20 [v] h = some (.tup [v', .bool b], h') ∧ invP M = (B, b) ∧ Keep h.next nob h h' ∧ (b = true → ∃ rs', Rd h' v' rs' B) ∧ (b = false → v' = .nils) := by
    rintro B b ⟨r, h', e, v', rfl, x1, x2, x3⟩ hq
    refine ⟨v', h', B, b, ?_, hq, x1, x2, x3⟩
    rw [acall_text [22, 31] Try.func20 (by kernel_rfl)]
    exact e
  cases hr : rightM M with
  | false =>
    rw [hr] at E1
    refine start [] false (afuncT_ex rfl (by simp [Try.f20]) ?_) (by unfold invP; rw [hr]; simp)
    simp [Try.f20, E1]
    exact Keep.refl _ _ _
  | true =>
    rw [hr] at E1
    obtain ⟨a, b⟩ := rightM_iff.1 hr
    obtain ⟨r0, hr0, R0⟩ := R.get (i := 0) (by omega)
    have ix0 : aindex Try.prog 27 v (.int .i64 0) = some (.ptr v.blk v.off) := R.sl.idx1 (P := Try.prog) Try.underlying27 ts31 (j := 0) (by omega) .i64
    have ld0 : aload Try.prog h 31 v.blk v.off = some r0 := R.sl.ld (P := Try.prog) ta31 hr0
    have l0 := R0.len'
    generalize hw : (rowA M 0).length = n at *
    by_cases hsq : M.length = n
    rotate_left
    · have hsq' : ¬ (M.length : Int) = (n : Int) := by omega
      refine start [] false (afuncT_ex rfl (by simp [Try.f20]) ?_) (by unfold invP; rw [hw, if_neg (fun q => hsq q.2)])
      simp [Try.f20, E1, lv, ix0, ld0, l0, hsq, hsq']
      exact Keep.refl _ _ _
    have hinv : invP M = invA M := by unfold invP; rw [hw, if_pos ⟨hr, hsq⟩]
    rw [hsq] at lv
    obtain ⟨D, hD⟩ : ∃ D, joinA M (idM n) = D := ⟨_, rfl⟩
    have hDl : D.length = n := by rw [← hD, joinA_len (by simp [hsq]), hsq]
    obtain ⟨w, hww⟩ : ∃ w, n + n = w := ⟨_, rfl⟩
    have hDr : RowsN w D := by rw [← hww, ← hD]; exact joinA_rows (by simp [hsq]) b (idM_rows n)
    have hDi : invA M = if (redA D n).2 < n then ([], false) else ((redA D n).1.map (·.drop n), true) := by unfold invA; rw [hsq, hD]
    have main : ∀ (B : Mt) (b : Bool), invA M = (B, b) → (∃ r h', afuncT Try.prog [22, 31] (acall Try.prog (k + 3)) (k + 3) Try.f20 [v] h = some (r, h') ∧ ∃ v', r = .tup [v', .bool b] ∧ Keep h.next nob h h' ∧ (b = true → ∃ rs', Rd h' v' rs' B) ∧ (b = false → v' = .nils)) := by
      intro B bl hB
      rw [hDi] at hB
      refine afuncT_ex rfl (by simp [Try.f20]) ?_
      simp [Try.f20, E1, lv, ix0, ld0, l0]
      -- the rows, and Identity beside them
      refine W_cutLoop 0 (fun st => ∃ av, st.t.get 4 = some (.int .i64 (n : Nat)) ∧ st.t.get 5 = some av ∧ Nw h st.h av D) ?_ ?_
      · refine W_loop (fun mm st => ∃ (i : Nat) (av : AV), mm = n - i ∧ i ≤ n ∧ st.t.get 0 = some v ∧ st.t.get 4 = some (.int .i64 (n : Nat)) ∧ st.t.get 5 = some av ∧ st.t.get 6 = some (.int .i64 (i : Nat)) ∧ Nw h st.h av (D.take i)) n (by omega)
          ⟨0, .nils, by omega, by omega, by simp, by simp, by simp, by simp, nw_nil h⟩ ?_
        rintro mm ⟨t, h3⟩ ⟨i, av, rfl, hi, q0, q4, q5, q6, N⟩
        simp only at q0 q4 q5 q6 N
        by_cases hlt : i < n
        · have R3 := R.ext N.kb
          obtain ⟨r, hr1, Sr⟩ := R3.get (i := i) (by omega)
          have hrl := b.row (k := i) (by omega)
          have ix := R3.sl.idx1 (P := Try.prog) Try.underlying27 ts31 (j := i) (by omega) .i64
          have k0 : Keep h3.next nob h3 (h3.new (.cells [] false)) := Keep.new (Nat.le_refl _) _
          have ld : aload Try.prog (h3.new (.cells [] false)) 31 v.blk (v.off + i) = some r := (R3.ext k0).sl.ld (P := Try.prog) ta31 hr1
          have V0 : Mine 1 0 (h3.new (.cells [] false)) (.sl h3.next 0 0 0 1 true) [] := by
            have := Mine.new (sz := 1) (n := 0) (m := 0) h3 [] (by simp) (Nat.le_refl _) (by simp) true
            simpa using this
          have S' := Sr.ext k0
          obtain ⟨r1, h4, b1, b2, b3, b4⟩ := V0.append (P := Try.prog) el31 (xt := 31) (by rw [Try.underlying31]; rfl) S'.alen S'.acells (bb_one _) (by simp) (by omega)
          have K4 : Keep h3.next nob h3 h4 := k0.trans ⟨b4.1, fun d hd _ => b4.2 d (Nat.lt_of_lt_of_le hd k0.1) (fun q => by cases q; omega)⟩
          have F4 : ∀ d, Has r1 d → h3.next ≤ d := fun d hd => by
            rcases b3 d hd with z | z
            · cases z; exact Nat.le_refl _
            · exact Nat.le_trans k0.1 z
          obtain ⟨idv, h5, E5, Ni⟩ := ridentity_ok (k + 2) (by omega) h4 n (by omega) (by omega)
          obtain ⟨rsi, Ri, Ai, fi, Ki⟩ := Ni
          obtain ⟨e, he1, Me⟩ := Ri.row (idM_get hlt)
          rw [cat_fb] at Me
          have Se := Me.sl
          simp only [ev1_len] at Se
          have ixi := Ri.own.sl.idx1 (P := Try.prog) Try.underlying27 ts31 (j := i) (by rw [Ri.len, idM_len]; omega) .i64
          have ldi := Ri.own.sl.ld (P := Try.prog) ta31 he1
          have M5 := b2.ext Ki
          obtain ⟨r2, h6, c1, c2, c3, c4⟩ := M5.append (P := Try.prog) el31 (xt := 31) (by rw [Try.underlying31]; rfl) Se.alen Se.acells (bb_one _) (by simp) (by omega)
          have K5 : Keep h3.next nob h3 h5 := K4.trans (Ki.weak K4.1 fun _ _ q => q)
          have K6 : Keep h3.next nob h3 h6 := K5.trans ⟨c4.1, fun d hd _ => c4.2 d (Nat.lt_of_lt_of_le hd K5.1) fun q => by have := F4 d q; omega⟩
          have F6 : ∀ d, Has r2 d → h3.next ≤ d := fun d hd => by
            rcases c3 d hd with z | z
            · exact F4 d z
            · exact Nat.le_trans K5.1 z
          have hDi' : D[i]? = some (rowA M i ++ ev1 n i) := by rw [← hD]; exact joinA_get (rowA_mem (by omega)).1 (idM_get hlt)
          obtain ⟨v7, h7, a7, N7⟩ := N.push K6 (L := rowA M i ++ ev1 n i) (by
            have := c2
            simp only [List.nil_append, Nat.zero_add] at this
            rw [List.map_append, List.length_append, ev1_len]
            exact this) F6 (by rw [List.length_take]; omega)
          rw [take_push hDi'] at N7
          have rwr := row1_one (show r2.one = true from c2.oneV)
          simp [q0, q4, q5, q6, isLt (show (i : Int) < (n : Int) by omega), aalloc, afill, ix, ld, b1, E5, ixi, ldi, c1, rwr, show r2.one = true from c2.oneV, a7, i64w ((i : Int) + 1) (by omega) (by omega)]
          exact ⟨n - (i + 1), by omega, i + 1, rfl, by omega, by simp, N7⟩
        · have e : i = D.length := by omega
          rw [e, List.take_length] at N
          simp [q0, q4, q5, q6, isLe (show (n : Int) ≤ (i : Int) by omega)]
          exact N
      rintro ⟨t, h1⟩ ⟨av, q4, q5, N1⟩
      simp only at q4 q5 N1
      obtain ⟨rs1, Rr1, Ar1, fr1, Kr1⟩ := id N1
      have W1 : Wk h1 h1 (blks (av :: rs1)) av rs1 D := ⟨Rr1, Ar1, fun d hd => hd, Keep.refl _ _ _, fun d hd => Rr1.lt hd⟩
      generalize hF : blks (av :: rs1) = F at *
      have kb : ∀ {hx : Heap} {rsx : List AV} {X : Mt}, Wk h1 hx F av rsx X → Keep h.next nob h hx := fun {hx rsx X} W => Kr1.trans ⟨W.kp.1, fun d hd _ => W.kp.2 d (Nat.lt_of_lt_of_le hd Kr1.1) fun q => by have := fr1 d q; omega⟩
      simp [q4, q5]
      have s2 : fwrap .i64 ((2 : Int) * (n : Int)) = (w : Nat) := by rw [i64w _ (by omega) (by omega)]; omega
      refine W_loop (fun mm st => ∃ (c : Nat) (rs3 : List AV), mm = n - c ∧ c ≤ n ∧ st.t.get 4 = some (.int .i64 (n : Nat)) ∧ st.t.get 5 = some av ∧ st.t.get 7 = some (.int .i64 (c : Nat)) ∧ (redA D c).2 = c ∧ Wk h1 st.h F av rs3 (redA D c).1) n (by omega)
        ⟨0, rs1, by omega, by omega, by simp [q4], by simp [q5], by simp, rfl, W1⟩ ?_
      clear q4 q5
      rintro mm ⟨t, h3⟩ ⟨c, rs3, rfl, hc, q4, q5, q7, hcc, W⟩
      simp only at q4 q5 q7 W
      obtain ⟨ps, P, hpl, E, hln⟩ := redA_ok hDr c
      by_cases hlt : c < n
      · have hrw := E.rb
        have hs := redA_succ D c
        have hcount := fun (e : (redA D (c + 1)).2 = c) => show (redA D n).2 < n from by
          have := redA_le hDr (n - (c + 1)) (c + 1)
          rw [show c + 1 + (n - (c + 1)) = n by omega, e] at this
          omega
        generalize redA D c = s at *
        obtain ⟨B0, r⟩ := s
        simp only at *
        subst hcc
        have hlen : B0.length = n := by omega
        simp [q4, q5, q7, isLt (show (r : Int) < (n : Int) by omega)]
        refine W_cutLoop 4 (fun st => st.h = h3 ∧ st.t.get 4 = some (.int .i64 (n : Nat)) ∧ st.t.get 5 = some av ∧ st.t.get 7 = some (.int .i64 (r : Nat)) ∧ ∃ p : Nat, st.t.get 8 = some (.int .i64 (p : Nat)) ∧ ((p = n ∧ findP B0 r (n - r) r = none) ∨ (p < n ∧ r ≤ p ∧ findP B0 r (n - r) r = some p))) ?_ ?_
        · refine W_loop (fun mm st => ∃ p : Nat, mm = n - p ∧ r ≤ p ∧ p ≤ n ∧ findP B0 r (n - r) r = findP B0 r (n - p) p ∧ st.t.get 4 = some (.int .i64 (n : Nat)) ∧ st.t.get 5 = some av ∧ st.t.get 7 = some (.int .i64 (r : Nat)) ∧ st.t.get 8 = some (.int .i64 (p : Nat)) ∧ st.h = h3) (n - r) (by omega)
            ⟨r, rfl, by omega, by omega, rfl, by simp [q4], by simp [q5], by simp [q7], by simp, by simp⟩ ?_
          clear q4 q5 q7
          rintro mm ⟨t, h3'⟩ ⟨p, rfl, hrp, hp, hfp, q4, q5, q7, q8, e3⟩
          simp only at q4 q5 q7 q8 e3
          replace e3 := e3.symm
          subst e3
          by_cases hpn : p < n
          · obtain ⟨x, hx, Mx⟩ := W.mine (j := p) (by omega)
            have ixi := W.ix (j := p) (by omega)
            have ldi := W.ld hx
            have wi := hrw.row (k := p) (by omega)
            have ixe := row_ix Mx.sl (j := r) (by omega)
            have lde := row_ld Mx.sl (j := r) (by omega)
            have eat : (rowA B0 p)[r]?.getD 0 = atA B0 p r := rfl
            rw [eat] at lde
            have hfs : n - p = (n - (p + 1)) + 1 := by omega
            rw [hfs] at hfp
            by_cases hz : atA B0 p r = 0
            · simp only [findP] at hfp
              rw [if_neg (by simpa using hz)] at hfp
              rw [hz] at lde
              simp [q4, q5, q7, q8, isLt (show (p : Int) < (n : Int) by omega), ixi, ldi, ixe, lde, i64w ((p : Int) + 1) (by omega) (by omega)]
              exact ⟨n - (p + 1), by omega, p + 1, rfl, by omega, by omega, hfp, rfl⟩
            · rw [findP_at hz] at hfp
              have hz' := (b_not0 hz).1
              have hz2 := (b_not0 hz).2.1
              simp [q4, q5, q7, q8, isLt (show (p : Int) < (n : Int) by omega), ixi, ldi, ixe, lde, hz, hz', hz2]
              exact ⟨p, rfl, .inr ⟨hpn, hrp, hfp⟩⟩
          · have e : p = n := by omega
            rw [e, Nat.sub_self] at hfp
            simp only [findP] at hfp
            simp [q4, q5, q7, q8, e, hfp]
        · clear q4 q5 q7
          rintro ⟨t, h3'⟩ ⟨e3, q4, q5, q7, p, q8, hp⟩
          simp only at q4 q5 q7 q8 e3
          replace e3 := e3.symm
          subst e3
          rcases hp with ⟨rfl, hfp⟩ | ⟨hpn, hrp, hfp⟩
          · have hs' : redA D (r + 1) = (B0, r) := by
              rw [hs]
              unfold stepA
              simp only [hlen, hfp]
            rw [if_pos (hcount (by rw [hs']))] at hB
            cases hB
            simp [q4, q5, q7, q8]
            exact kb W
          · have hs' : redA D (r + 1) = (clrA (scaleA (swpA B0 r p) r r) r r, r + 1) := by
              rw [hs]
              unfold stepA
              simp only [hlen, hfp]
            have hpn1 : ¬ p = n := by omega
            have hpn2 : ¬ (p : Int) = (n : Int) := by omega
            obtain ⟨x, hx, Mx⟩ := W.mine (j := p) (by omega)
            obtain ⟨y, hy, My⟩ := W.mine (j := r) (by omega)
            have ixp := W.ix (j := p) (by omega)
            have ldp := W.ld hx
            have ixr := W.ix (j := r) (by omega)
            have ldr := W.ld hy
            obtain ⟨h4, h5, a4, a5, W5⟩ := W.swap hy hx
            have rwx := row1_one (show x.one = true from Mx.oneV)
            have rwy := row1_one (show y.one = true from My.oneV)
            have hwB := swpA_rows hrw (i := r) (j := p) (by omega) (by omega)
            have lB : (swpA B0 r p).length = n := by rw [swpA_len, hlen]
            generalize hBB : swpA B0 r p = C0 at *
            generalize hrs5 : (rs3.set r x).set p y = rs5 at *
            obtain ⟨z, hzr, Mz⟩ := W5.mine (j := r) (by omega)
            have wr := hwB.row (k := r) (by omega)
            have ixr5 := W5.ix (j := r) (by omega)
            have ldr5 := W5.ld hzr
            have ixe5 := row_ix Mz.sl (j := r) (by omega)
            have lde5 := row_ld Mz.sl (j := r) (by omega)
            have inv := rinv_ok (k + 1) (by omega) h5 (atA C0 r r)
            have eat5 : (rowA C0 r)[r]?.getD 0 = atA C0 r r := rfl
            rw [eat5] at lde5
            obtain ⟨sc, hsc⟩ : ∃ sc, gi (atA C0 r r) = sc := ⟨_, rfl⟩
            rw [hsc] at inv
            have eS : C0.set r (smul sc (rowA C0 r)) = scaleA C0 r r := by unfold scaleA; rw [hsc]
            simp [q4, q5, q7, q8, hpn1, hpn2, ixp, ldp, ixr, ldr, rwx, rwy, a4, a5, ixr5, ldr5, ixe5, lde5, inv]
            refine W_cutLoop 6 (fun st => st.t.get 4 = some (.int .i64 (n : Nat)) ∧ st.t.get 5 = some av ∧ st.t.get 7 = some (.int .i64 (r : Nat)) ∧ Wk h1 st.h F av rs5 (scaleA C0 r r)) ?_ ?_
            · refine W_loop (fun mm st => ∃ j : Nat, mm = w - j ∧ j ≤ w ∧ st.t.get 4 = some (.int .i64 (n : Nat)) ∧ st.t.get 5 = some av ∧ st.t.get 7 = some (.int .i64 (r : Nat)) ∧ st.t.get 9 = some (.int .u8 (sc.toNat : Nat)) ∧ st.t.get 10 = some (.int .i64 (j : Nat)) ∧ Wk h1 st.h F av rs5 (C0.set r (mixL (smul sc (rowA C0 r)) (rowA C0 r) j))) w (by omega)
                ⟨0, by omega, by omega, by simp [q4], by simp [q5], by simp [q7], by simp, by simp, by rw [mixL_0, set_rowA (by omega)]; exact W5⟩ ?_
              clear q4 q5 q7 q8
              rintro mm ⟨t, h6⟩ ⟨j, rfl, hj, q4, q5, q7, q9, q10, W6⟩
              simp only at q4 q5 q7 q9 q10 W6
              have hx6 : (smul sc (rowA C0 r)).length = (rowA C0 r).length := smul_len _ _
              by_cases hjw : j < w
              · obtain ⟨z6, hz6, M6⟩ := W6.mine (j := r) (by simp; omega)
                have ez : z6 = z := Option.some.inj (hz6.symm.trans hzr)
                subst ez
                rw [rowA_set (by omega), if_pos rfl] at M6
                have lm := mixL_len hx6 j
                have ixr6 := W6.ix (j := r) (by simp; omega)
                have ldr6 := W6.ld hz6
                have ixe6 := row_ix M6.sl (j := j) (by omega)
                have lde6 := row_ld M6.sl (j := j) (by omega)
                rw [mixL_get hx6 (Nat.le_refl _)] at lde6
                obtain ⟨u, hu⟩ : ∃ u, (rowA C0 r)[j]? = some u := ⟨(rowA C0 r)[j]'(by omega), by simp⟩
                rw [hu, Option.getD_some] at lde6
                have mul := rmul_ok (k + 2) (by omega) h6 u sc
                obtain ⟨h7, a7, M7, K7, n7⟩ := M6.lay1 (j := j) (x := .int .u8 ((gm u sc).toNat : Nat)) (by omega) rfl
                have e7 : ((mixL (smul sc (rowA C0 r)) (rowA C0 r) j).map bb).set j (.int .u8 ((gm u sc).toNat : Nat)) = (mixL (smul sc (rowA C0 r)) (rowA C0 r) (j + 1)).map bb := by
                  rw [← mixL_set hx6 (smul_at hu), List.map_set, gm_comm sc u]; rfl
                rw [e7] at M7
                have W7 := W6.put hz6 (L := mixL (smul sc (rowA C0 r)) (rowA C0 r) (j + 1)) K7 (by rw [mixL_len hx6] at M7 ⊢; exact M7)
                rw [List.set_set] at W7
                have ag : Agree h6.next h6 h6 := fun _ _ => rfl
                have vlt := W6.rows.own.sl.blk_lt (by rw [W6.rows.len]; simp; omega)
                have zlt := M6.sl.blk_lt (by omega)
                have smz := M6.sl.same
                simp [q4, q5, q7, q9, q10, s2, isLt (show (j : Int) < (w : Int) by omega)]
                refine W_split 14 h6.next (by rfl) (by kernel_rfl) (by rfl) ?_
                dsimp only [List.take, List.drop]
                simp [obl, mayEff, mayRead, sameAV, q4, q5, q7, q9, q10, ixr6, ldr6, ixe6, lde6, mul, ag, vlt, zlt, smz, a7, i64w ((j : Int) + 1) (by omega) (by omega)]
                exact ⟨w - (j + 1), by omega, j + 1, rfl, by omega, by simp, W7⟩
              · have e : j = w := by omega
                have ew : w = (smul sc (rowA C0 r)).length := by rw [hx6, wr]
                rw [e] at W6
                have W6 : Wk h1 h6 F av rs5 (C0.set r (smul sc (rowA C0 r))) := by
                  have := W6
                  rw [ew, mixL_all hx6] at this
                  exact this
                rw [eS] at W6
                simp [q4, q5, q7, q9, q10, s2, e]
                exact W6
            clear q4 q5 q7 q8
            rintro ⟨t, h6⟩ ⟨q4, q5, q7, W6⟩
            simp only at q4 q5 q7 W6
            have hwC := scaleA_rows hwB (r := r) (c := r) (by omega)
            have lC : (scaleA C0 r r).length = n := by rw [scaleA_len, lB]
            generalize hCC : scaleA C0 r r = C at *
            simp [q4, q5, q7]
            refine W_cutLoop 8 (fun st => st.t.get 4 = some (.int .i64 (n : Nat)) ∧ st.t.get 5 = some av ∧ st.t.get 7 = some (.int .i64 (r : Nat)) ∧ Wk h1 st.h F av rs5 (clrA C r r)) ?_ ?_
            · refine W_loop (fun mm st => ∃ i : Nat, mm = n - i ∧ i ≤ n ∧ st.t.get 4 = some (.int .i64 (n : Nat)) ∧ st.t.get 5 = some av ∧ st.t.get 7 = some (.int .i64 (r : Nat)) ∧ st.t.get 11 = some (.int .i64 (i : Nat)) ∧ Wk h1 st.h F av rs5 (clrTo C r r i)) n (by omega)
                ⟨0, by omega, by omega, by simp [q4], by simp [q5], by simp [q7], by simp, by rw [clrTo_0]; exact W6⟩ ?_
              clear q4 q5 q7 W6
              rintro mm ⟨t, h7⟩ ⟨i, rfl, hi, q4, q5, q7, q11, W7⟩
              simp only at q4 q5 q7 q11 W7
              by_cases hin : i < n
              · obtain ⟨a, ha, Ma⟩ := W7.mine (j := i) (by simp; omega)
                have ea : rowA (clrTo C r r i) i = rowA C i := by rw [clrTo_row (by omega), if_neg (by omega)]
                rw [ea] at Ma
                have wa := hwC.row (k := i) (by omega)
                have ixa := W7.ix (j := i) (by simp; omega)
                have lda := W7.ld ha
                have ixe7 := row_ix Ma.sl (j := r) (by omega)
                have lde7 := row_ld Ma.sl (j := r) (by omega)
                have eat7 : (rowA C i)[r]?.getD 0 = atA C i r := rfl
                rw [eat7] at lde7
                by_cases hir : i = r
                · have W8 := W7
                  rw [hir, ← clrTo_skip (A := C) (r := r) (c := r) (by omega)] at W8
                  subst hir
                  simp [q4, q5, q7, q11, isLt (show (i : Int) < (n : Int) by omega), ixa, lda, ixe7, lde7, i64w ((i : Int) + 1) (by omega) (by omega)]
                  exact ⟨n - (i + 1), by omega, i + 1, rfl, by omega, by simp, W8⟩
                have hir' : ¬ (i : Int) = (r : Int) := by omega
                have ec : addL (rowA C i) (smul (atA C i r) (rowA C r)) = clrR C r r i := by unfold clrR; rw [if_neg hir]
                have hset := clrTo_set (A := C) (r := r) (c := r) (i := i) (by omega)
                by_cases hz : atA C i r = 0
                · have e0 : clrR C r r i = rowA (clrTo C r r i) i := by
                    rw [← ec, hz, smul_zero, ea]
                    exact addL_zv (by rw [wa, hwC.row (k := r) (by omega)])
                  rw [e0, set_rowA (by simp; omega)] at hset
                  rw [hset] at W7
                  rw [hz] at lde7
                  simp [q4, q5, q7, q11, isLt (show (i : Int) < (n : Int) by omega), ixa, lda, ixe7, lde7, hir, hir', i64w ((i : Int) + 1) (by omega) (by omega)]
                  exact ⟨n - (i + 1), by omega, i + 1, rfl, by omega, by simp, W7⟩
                have hz' := (b_not0 hz).1
                have hz2 := (b_not0 hz).2.1
                obtain ⟨xv, hxv⟩ : ∃ xv, atA C i r = xv := ⟨_, rfl⟩
                rw [hxv] at lde7 hz hz' hz2 ec
                have ws := hwC.row (k := r) (by omega)
                have hx8 : (clrR C r r i).length = (rowA C i).length := by rw [← ec, addL_len (by rw [smul_len]; omega)]
                simp [q4, q5, q7, q11, isLt (show (i : Int) < (n : Int) by omega), ixa, lda, ixe7, lde7, hir, hir', hz, hz', hz2]
                refine W_cutLoop 10 (fun st => st.t.get 4 = some (.int .i64 (n : Nat)) ∧ st.t.get 5 = some av ∧ st.t.get 7 = some (.int .i64 (r : Nat)) ∧ st.t.get 11 = some (.int .i64 (i : Nat)) ∧ Wk h1 st.h F av rs5 (clrTo C r r (i + 1))) ?_ ?_
                · refine W_loop (fun mm st => ∃ j : Nat, mm = w - j ∧ j ≤ w ∧ st.t.get 4 = some (.int .i64 (n : Nat)) ∧ st.t.get 5 = some av ∧ st.t.get 7 = some (.int .i64 (r : Nat)) ∧ st.t.get 11 = some (.int .i64 (i : Nat)) ∧ st.t.get 12 = some (.int .u8 (xv.toNat : Nat)) ∧ st.t.get 13 = some (.int .i64 (j : Nat)) ∧ Wk h1 st.h F av rs5 ((clrTo C r r i).set i (mixL (clrR C r r i) (rowA C i) j))) w (by omega)
                    ⟨0, by omega, by omega, by simp [q4], by simp [q5], by simp [q7], by simp [q11], by simp, by simp, by rw [mixL_0, ← ea, set_rowA (by simp; omega)]; exact W7⟩ ?_
                  clear q4 q5 q7 q11
                  rintro mm ⟨t, h8⟩ ⟨j, rfl, hj, q4, q5, q7, q11, q12, q13, W8⟩
                  simp only at q4 q5 q7 q11 q12 q13 W8
                  by_cases hjw : j < w
                  · obtain ⟨a8, ha8, M8⟩ := W8.mine (j := i) (by simp; omega)
                    obtain ⟨s8, hs8, S8⟩ := W8.mine (j := r) (by simp; omega)
                    rw [rowA_set (by simp; omega), if_pos rfl] at M8
                    have es : rowA (clrTo C r r i) r = rowA C r := by
                      rw [clrTo_row (by omega)]
                      unfold clrR
                      split
                      · rw [if_pos rfl]
                      · rfl
                    rw [rowA_set (by simp; omega), if_neg hir, es] at S8
                    have lm := mixL_len hx8 j
                    have ixi8 := W8.ix (j := i) (by simp; omega)
                    have ldi8 := W8.ld ha8
                    have ixr8 := W8.ix (j := r) (by simp; omega)
                    have ldr8 := W8.ld hs8
                    have ixe8 := row_ix M8.sl (j := j) (by omega)
                    have lde8 := row_ld M8.sl (j := j) (by omega)
                    have ixf8 := row_ix S8.sl (j := j) (by omega)
                    have ldf8 := row_ld S8.sl (j := j) (by omega)
                    rw [mixL_get hx8 (Nat.le_refl _)] at lde8
                    obtain ⟨u, hu⟩ : ∃ u, (rowA C i)[j]? = some u := ⟨(rowA C i)[j]'(by omega), by simp⟩
                    obtain ⟨g, hg⟩ : ∃ g, (rowA C r)[j]? = some g := ⟨(rowA C r)[j]'(by omega), by simp⟩
                    rw [hu, Option.getD_some] at lde8
                    rw [hg, Option.getD_some] at ldf8
                    have mul := rmul_ok (k + 2) (by omega) h8 xv g
                    obtain ⟨h9, a9, M9, K9, n9⟩ := M8.lay1 (j := j) (x := .int .u8 ((u ^^^ gm xv g).toNat : Nat)) (by omega) rfl
                    have e9 : ((mixL (clrR C r r i) (rowA C i) j).map bb).set j (.int .u8 ((u ^^^ gm xv g).toNat : Nat)) = (mixL (clrR C r r i) (rowA C i) (j + 1)).map bb := by
                      rw [← mixL_set hx8 (show (clrR C r r i)[j]? = some (u ^^^ gm xv g) by rw [← ec]; exact addL_at hu (smul_at hg)), List.map_set]; rfl
                    rw [e9] at M9
                    rw [UInt8.toNat_xor] at a9
                    have W9 := W8.put ha8 (L := mixL (clrR C r r i) (rowA C i) (j + 1)) K9 (by rw [mixL_len hx8] at M9 ⊢; exact M9)
                    rw [List.set_set] at W9
                    have ag : Agree h8.next h8 h8 := fun _ _ => rfl
                    have vlt := W8.rows.own.sl.blk_lt (by rw [W8.rows.len]; simp; omega)
                    have alt := M8.sl.blk_lt (by omega)
                    have slt := S8.sl.blk_lt (by omega)
                    have sma := M8.sl.same
                    have sms := S8.sl.same
                    simp [q4, q5, q7, q11, q12, q13, s2, isLt (show (j : Int) < (w : Int) by omega)]
                    refine W_split 21 h8.next (by rfl) (by kernel_rfl) (by rfl) ?_
                    dsimp only [List.take, List.drop]
                    simp [obl, mayEff, mayRead, sameAV, q4, q5, q7, q11, q12, q13, ixi8, ldi8, ixr8, ldr8, ixe8, lde8, ixf8, ldf8, mul, ag, vlt, alt, slt, sma, sms, a9, xor_u8, i64w ((j : Int) + 1) (by omega) (by omega)]
                    exact ⟨w - (j + 1), by omega, j + 1, rfl, by omega, by simp, W9⟩
                  · have e : j = (clrR C r r i).length := by omega
                    rw [e, mixL_all hx8, hset] at W8
                    simp [q4, q5, q7, q11, q12, q13, s2, isLe (show (w : Int) ≤ (j : Int) by omega)]
                    exact W8
                · clear q4 q5 q7 q11
                  rintro ⟨t, h8⟩ ⟨q4, q5, q7, q11, W8⟩
                  simp only at q4 q5 q7 q11 W8
                  simp [q4, q5, q7, q11, i64w ((i : Int) + 1) (by omega) (by omega)]
                  exact ⟨n - (i + 1), by omega, i + 1, rfl, by omega, by simp, W8⟩
              · have e : i = C.length := by omega
                rw [e, clrTo_all] at W7
                simp [q4, q5, q7, q11, isLe (show (n : Int) ≤ (i : Int) by omega)]
                exact W7
            · clear q4 q5 q7 W6
              rintro ⟨t, h7⟩ ⟨q4, q5, q7, W7⟩
              simp only at q4 q5 q7 W7
              simp [q4, q5, q7]
              exact ⟨n - (r + 1), by omega, r + 1, rfl, by omega, i64w ((r : Int) + 1) (by omega) (by omega), by rw [hs'], rs5, by rw [hs']; exact W7⟩
      · have e : c = n := by omega
        subst e
        rw [if_neg (by omega)] at hB
        cases hB
        have hrw := E.rb
        obtain ⟨A', hA'⟩ : ∃ A', (redA D c).1 = A' := ⟨_, rfl⟩
        rw [hA'] at W hrw hln ⊢
        simp [q4, q5, q7]
        refine W_cutLoop 12 (fun st => ∃ ov, st.t.get 14 = some ov ∧ (∃ os, Rd st.h ov os (A'.map (·.drop c))) ∧ Keep h3.next nob h3 st.h) ?_ ?_
        · refine W_loop (fun mm st => ∃ (i : Nat) (ov : AV) (os : List AV), mm = c - i ∧ i ≤ c ∧ st.t.get 4 = some (.int .i64 (c : Nat)) ∧ st.t.get 5 = some av ∧ st.t.get 14 = some ov ∧ st.t.get 15 = some (.int .i64 (i : Nat)) ∧ Lst h3 st.h ov os ((A'.map (·.drop c)).take i)) c (by omega)
            ⟨0, .nils, [], by omega, by omega, by simp [q4], by simp [q5], by simp, by simp, Lst.nil h3⟩ ?_
          clear q4 q5 q7
          rintro mm ⟨t, h4⟩ ⟨i, ov, os, rfl, hi, q4, q5, q14, q15, S⟩
          simp only at q4 q5 q14 q15 S
          by_cases hic : i < c
          · obtain ⟨x, hx, Mx⟩ := W.mine (j := i) (by omega)
            have wi := hrw.row (k := i) (by omega)
            have W4 := W.ext S.kb
            have ixi := W4.ix (j := i) (by omega)
            have ldi := W4.ld hx
            obtain ⟨s2, b1, b2⟩ := Mx.sl.from (P := Try.prog) (ty := 31) Try.underlying31 ts5 (k := .i64) (j := c) (by omega)
            have b2 : Sl 1 ((rowA A' i).drop c).length h3 s2 (((rowA A' i).drop c).map bb) := by
              rw [List.length_drop, List.map_drop]
              rw [Nat.mul_one] at b2
              exact b2
            obtain ⟨v5, h5, a5, S5⟩ := S.push b2 (by rw [List.length_take]; omega)
            have hge : (A'.map (·.drop c))[i]? = some ((rowA A' i).drop c) := by rw [List.getElem?_map, (rowA_mem (by omega)).1]; rfl
            rw [take_push hge] at S5
            have rws := row1_one (show s2.one = true from b2.oneV)
            simp [q4, q5, q14, q15, isLt (show (i : Int) < (c : Int) by omega), ixi, ldi, b1, rws, show s2.one = true from b2.oneV, aalloc, afill, a5, i64w ((i : Int) + 1) (by omega) (by omega)]
            exact ⟨c - (i + 1), by omega, i + 1, rfl, by omega, by simp, _, S5⟩
          · have e : i = (A'.map (·.drop c)).length := by rw [List.length_map]; omega
            rw [e, List.take_length] at S
            simp [q4, q5, q14, q15, isLe (show (c : Int) ≤ (i : Int) by omega)]
            exact ⟨⟨os, S.rd⟩, S.kb⟩
        · rintro ⟨t, h4⟩ ⟨ov, q14, ⟨os, Ro⟩, Ko⟩
          simp only at q14 Ro Ko
          simp [q14]
          exact ⟨(kb W).trans (Ko.weak (kb W).1 fun _ _ q => q), os, Ro⟩
    exact start (invA M).1 (invA M).2 (main (invA M).1 (invA M).2 rfl) (by rw [hinv])
end Go.Proofs.Ytcgafaecdjbmiaa
/- MatrixTells: rows with room behind them; what both say of the same. -/
namespace Go.Proofs.Ytcgafaecdjbmiaa
open Go Go.YtcgafaecdjbmiaaAbs
set_option linter.unusedSimpArgs false
set_option linter.unusedVariables false
set_option maxRecDepth 4000

/-- Rows of bytes as an argument has them. -/
theorem rd_arg {h : Heap} {v : AV} {M : Mt} (w : SlA (kSlice kByte) h v M) : ∃ rs, Rd h v rs M := by
  obtain ⟨c, c1, c2, c3⟩ := w.sl
  have hs : (kSlice kByte).sz = 1 := rfl
  rw [hs] at c1 c2 c3
  refine ⟨c, c1, fun i r L hr hL => ?_⟩
  obtain ⟨u, e, su⟩ := c3 i L hL
  rw [Nat.mul_one] at e
  have e' := congrArg (·[0]?) e
  simp only [List.getElem?_take, List.getElem?_drop] at e'
  simp at e'
  rw [hr] at e'
  cases e'
  exact sla_bytes su
/-- Rows with room behind them, and what is theirs. -/
structure Ful (h0 h : Heap) (vf vo : AV) (fs os : List AV) (M : Mt) (i : Nat) : Prop where
  f : Mine 1 i h vf fs
  o : Mine 1 i h vo os
  ap : ∀ d, Has vf d → ¬ Has vo d
  nf : ∀ d, Has vf d → h0.next ≤ d
  no : ∀ d, Has vo d → h0.next ≤ d
  row : ∀ (j : Nat) (L : Vc), j < i → M[j]? = some L → ∃ b, fs[j]? = some (.sl b 0 (L.length + 80) (L.length + 80) 1 true) ∧ os[j]? = some (.sl b 0 L.length (L.length + 80) 1 true) ∧ h.get b = some (.cells (roomy L 9) false) ∧ b < h.next ∧ h0.next ≤ b ∧ ¬ Has vf b ∧ ¬ Has vo b
  kb : Keep h0.next nob h0 h
theorem Ful.nil (h : Heap) (M : Mt) : Ful h h .nils .nils [] [] M 0 := ⟨Mine.nil 1 h, Mine.nil 1 h, (fun d hd => by cases hd), (fun d hd => by cases hd), (fun d hd => by cases hd), (fun j L hj => absurd hj (Nat.not_lt_zero _)), Keep.refl _ _ _⟩
theorem Ful.push {h0 h h1 : Heap} {vf vo : AV} {fs os : List AV} {M : Mt} {i : Nat} (F : Ful h0 h vf vo fs os M i) {L : Vc} (hL : M[i]? = some L) (K : Keep h.next nob h h1) (g : h1.get h.next = some (.cells (roomy L 9) false)) (hn : h.next < h1.next) (hi : i < 1000) (r p q : Nat) (hp : p < r) (hq : q < r) :
    ∃ vf' h4 vo' h5, aappend Try.prog ((h1.bump r).at_ (h1.next + p) (.cells [.sl h.next 0 (L.length + 80) (L.length + 80) 1 true] false)) 27 27 vf (.sl (h1.next + p) 0 1 1 1 true) = some (vf', h4) ∧ nextOk h1.next r h4 = true ∧
      (∀ G : Nat → Prop, (∀ c, G c → c < h1.next ∧ ¬ Has vf c) → AgreeG G ((h1.bump r).at_ (h1.next + p) (.cells [.sl h.next 0 (L.length + 80) (L.length + 80) 1 true] false)) h4) ∧ Keep h1.next (Has vf) h1 h4 ∧
      aappend Try.prog (h4.at_ (h1.next + q) (.cells [.sl h.next 0 L.length (L.length + 80) 1 true] false)) 27 27 vo (.sl (h1.next + q) 0 1 1 1 true) = some (vo', h5) ∧ nextOk h1.next r h5 = true ∧
      Ful h0 h5 vf' vo' (fs ++ [.sl h.next 0 (L.length + 80) (L.length + 80) 1 true]) (os ++ [.sl h.next 0 L.length (L.length + 80) 1 true]) M (i + 1) := by
  have f1 := F.f.ext K
  have o1 := F.o.ext K
  obtain ⟨vf', h4, vo', h5, e1, n1, g1, k1, e2, n2, g2, m1, m2, K6, fk, fm, ap, o1', o2'⟩ := push2 (P := Try.prog) el27 el27 f1 o1 F.ap (a1 := [.sl h.next 0 (L.length + 80) (L.length + 80) 1 true]) (a2 := [.sl h.next 0 L.length (L.length + 80) 1 true]) rfl rfl rfl rfl (by omega) (by omega) r p q hp hq
  have lf := F.f.length
  have lo := F.o.length
  have hk := F.kb.1
  have nF : ∀ d, Has vf d → d < h.next := fun d hd => F.f.lt hd
  have nO : ∀ d, Has vo d → d < h.next := fun d hd => F.o.lt hd
  have old : ∀ b, b < h1.next → ¬ Has vf b → ¬ Has vo b → ¬ Has vf' b ∧ ¬ Has vo' b := fun b hb x y => ⟨fun z => by
    rcases fk b z with w | w
    · exact x w
    · omega, fun z => by
    rcases fm b z with w | w
    · exact y w
    · omega⟩
  refine ⟨vf', h4, vo', h5, e1, n1, g1, k1, e2, n2, ⟨m1, m2, ap, fun d hd => ?_, fun d hd => ?_, fun j L' hj hL' => ?_, ?_⟩⟩
  · rcases fk d hd with w | w
    · exact F.nf d w
    · have := K.1; omega
  · rcases fm d hd with w | w
    · exact F.no d w
    · have := K.1; omega
  · have hK1 := K.1
    have hK6 := K6.1
    by_cases hji : j < i
    · obtain ⟨b, b1, b2, b3, b4, b5, b6, b7⟩ := F.row j L' hji hL'
      obtain ⟨c1, c2⟩ := old b (by omega) b6 b7
      refine ⟨b, by rw [List.getElem?_append_left (by omega)]; exact b1, by rw [List.getElem?_append_left (by omega)]; exact b2, ?_, by omega, b5, c1, c2⟩
      rw [K6.2 b (by omega) (fun z => z.elim b6 b7), K.2 b b4 id, b3]
    · have e : j = i := by omega
      subst e
      rw [hL] at hL'
      cases hL'
      have x1 : ¬ Has vf h.next := fun z => by have := nF _ z; omega
      have x2 : ¬ Has vo h.next := fun z => by have := nO _ z; omega
      obtain ⟨c1, c2⟩ := old h.next hn x1 x2
      refine ⟨h.next, by rw [List.getElem?_append_right (by omega), show j - fs.length = 0 by omega]; rfl, by rw [List.getElem?_append_right (by omega), show j - os.length = 0 by omega]; rfl, ?_, by omega, hk, c1, c2⟩
      rw [K6.2 _ hn (fun z => z.elim x1 x2), g]
  · refine F.kb.trans ⟨Nat.le_trans K.1 K6.1, fun d hd _ => ?_⟩
    have hd1 : d < h.next := Nat.lt_of_lt_of_le hd hk
    rw [K6.2 d (Nat.lt_of_lt_of_le hd1 K.1) (fun z => z.elim (fun z => by have := F.nf d z; omega) fun z => by have := F.no d z; omega), K.2 d hd1 id]
theorem Ful.rd {h0 h : Heap} {vf vo : AV} {fs os : List AV} {M : Mt} (F : Ful h0 h vf vo fs os M M.length) : Rd h vo os M := by
  refine ⟨F.o.sl, fun i r L hr hL => ?_⟩
  obtain ⟨b, b1, b2, b3, b4, _⟩ := F.row i L (List.getElem?_eq_some_iff.1 hL).1 hL
  rw [hr] at b2
  cases b2
  exact .inr (.inr ⟨b, 0, _, _, _, _, rfl, b4, b3, by simp, by unfold roomy; simp, by unfold roomy; rw [List.drop_zero, List.take_append_of_le_length (by simp), List.take_of_length_le (by simp)], by omega⟩)
theorem Ful.full {h0 h : Heap} {vf vo : AV} {fs os : List AV} {M : Mt} (F : Ful h0 h vf vo fs os M M.length) {i : Nat} {L : Vc} (hL : M[i]? = some L) : ∃ r, fs[i]? = some r ∧ Sl 1 (L.length + 80) h r (roomy L 9) := by
  obtain ⟨b, b1, b2, b3, b4, _⟩ := F.row i L (List.getElem?_eq_some_iff.1 hL).1 hL
  exact ⟨_, b1, .inr (.inr ⟨b, 0, _, _, _, _, rfl, b4, b3, by unfold roomy; simp, by unfold roomy; simp, by rw [List.drop_zero, List.take_of_length_le (by unfold roomy; simp)], by omega⟩)⟩
/-- Both say the same. -/
theorem same_out (k : Nat) (hk : 100 < k) (h : Heap) (va vb : AV) (X : Mt) (b : Bool) (h1 : b = true → ∃ rs, Rd h va rs X) (h2 : b = false → va = .nils) (h3 : b = true → ∃ rs, Rd h vb rs X) (h4 : b = false → vb = .nils) (hx : b = true → X.length ≤ 12 ∧ ∀ r, r ∈ X → r.length ≤ 50) :
    acall Try.prog (k + 2) 11 [va, vb] h = some (.bool true, h) := by
  cases b with
  | true =>
    obtain ⟨_, R1⟩ := h1 rfl
    obtain ⟨_, R2⟩ := h3 rfl
    exact same_ok k hk h va vb _ _ X R1 R2 (hx rfl).1 (hx rfl).2
  | false =>
    rw [h2 rfl, h4 rfl]
    obtain ⟨_, R⟩ := (nw_nil h).rd
    exact same_ok k hk h .nils .nils _ _ [] R R (by simp) (fun r hr => by cases hr)
theorem timesP_small {A B : Mt} (h : (timesP A B).2 = true) : (timesP A B).1.length ≤ 12 ∧ ∀ r, r ∈ (timesP A B).1 → r.length ≤ 50 := by
  unfold timesP at h ⊢
  split at h
  · rename_i hc
    rw [if_pos hc]
    obtain ⟨c1, c2, c3⟩ := hc
    obtain ⟨a1, a2⟩ := rightM_iff.1 c1
    obtain ⟨b1, b2⟩ := rightM_iff.1 c2
    refine ⟨by simp [mtT]; omega, fun r hr => ?_⟩
    have := mtT_rows b2 A r hr
    omega
  · cases h
theorem invP_small {M B : Mt} (h : invP M = (B, true)) : B.length ≤ 12 ∧ ∀ r, r ∈ B → r.length ≤ 50 := by
  unfold invP at h
  split at h
  · rename_i hc
    obtain ⟨c1, c2⟩ := hc
    obtain ⟨a1, a2⟩ := rightM_iff.1 c1
    by_cases hr : rankA (rowA M 0).length M = (rowA M 0).length
    · obtain ⟨B', e, rB, lB, _⟩ := invA_ok a2 c2 hr
      rw [e] at h
      cases h
      exact ⟨by omega, fun r hr => by rw [rB r hr]; omega⟩
    · rw [invA_no a2 c2 hr] at h
      cases h
  · cases h
/-- Identity, of any number. -/
theorem both_id (k : Nat) (hk : 500 < k) (h : Heap) (n : Int) : ∃ v1 h1 v2 h2, acall Try.prog (k + 10) 14 [.int .i64 n] h = some (v1, h1) ∧ acall Try.prog (k + 10) 24 [.int .i64 n] h1 = some (v2, h2) ∧ acall Try.prog (k + 10) 11 [v1, v2] h2 = some (.bool true, h2) ∧ Keep h.next nob h h2 := by
  by_cases q : n < 1 ∨ 12 < n
  · have e := ridentity_no (k - 21) h n q
    rw [show k - 21 + 31 = k + 10 by omega] at e
    exact ⟨.nils, h, .nils, h, identity_no (k + 9) h n q, e, same_out (k + 8) (by omega) h .nils .nils [] false (fun q => by cases q) (fun _ => rfl) (fun q => by cases q) (fun _ => rfl) (fun q => by cases q), Keep.refl _ _ _⟩
  · obtain ⟨N, rfl⟩ : ∃ N : Nat, n = (N : Int) := ⟨n.toNat, by omega⟩
    obtain ⟨v1, h1, e1, N1⟩ := identity_ok (k + 9) (by omega) h N (by omega) (by omega)
    obtain ⟨v2, h2, e2, N2⟩ := ridentity_ok (k + 9) (by omega) h1 N (by omega) (by omega)
    obtain ⟨_, R1⟩ := (N1.ext N2.kb).rd
    obtain ⟨_, R2⟩ := N2.rd
    exact ⟨v1, h1, v2, h2, e1, e2, same_sq (k + 8) (by omega) h2 v1 v2 R1 R2 (idM_rows N) (idM_len N) (by omega), N1.kb.trans (N2.kb.weak N1.kb.1 fun _ _ q => q)⟩
theorem both_cau (k : Nat) (hk : 500 < k) (h : Heap) (fv : AV) (f : Fld h fv) (n m : Int) : ∃ v1 h1 v2 h2, acall Try.prog (k + 10) 13 [fv, .int .i64 n, .int .i64 m] h = some (v1, h1) ∧ acall Try.prog (k + 10) 25 [.int .i64 n, .int .i64 m] h1 = some (v2, h2) ∧ acall Try.prog (k + 10) 11 [v1, v2] h2 = some (.bool true, h2) ∧ Keep h.next nob h h2 := by
  by_cases q : cauIn n m
  · unfold cauIn at q
    obtain ⟨N, rfl⟩ : ∃ N : Nat, n = (N : Int) := ⟨n.toNat, by omega⟩
    obtain ⟨M, rfl⟩ : ∃ M : Nat, m = (M : Int) := ⟨m.toNat, by omega⟩
    obtain ⟨v1, h1, e1, N1⟩ := cauchy_ok (k + 8) (by omega) h fv f N M (by omega) (by omega) (by omega)
    obtain ⟨v2, h2, e2, N2⟩ := rcauchy_ok (k + 7) (by omega) h1 N M (by omega) (by omega) (by omega)
    obtain ⟨_, R1⟩ := (N1.ext N2.kb).rd
    obtain ⟨_, R2⟩ := N2.rd
    exact ⟨v1, h1, v2, h2, e1, e2, same_ok (k + 8) (by omega) h2 v1 v2 _ _ _ R1 R2 (by simp [cauM]; omega) (fun r hr => by rw [cauM_rows N M r hr]; omega), N1.kb.trans (N2.kb.weak N1.kb.1 fun _ _ q => q)⟩
  · exact ⟨.nils, h, .nils, h, cauchy_no (k + 9) h fv n m q, rcauchy_no (k + 9) h n m q, same_out (k + 8) (by omega) h .nils .nils [] false (fun q => by cases q) (fun _ => rfl) (fun q => by cases q) (fun _ => rfl) (fun q => by cases q), Keep.refl _ _ _⟩
end Go.Proofs.Ytcgafaecdjbmiaa
/- Rows of numbers and of texts, as arguments have them. -/
namespace Go.Proofs.Ytcgafaecdjbmiaa
open Go Go.YtcgafaecdjbmiaaAbs
set_option linter.unusedSimpArgs false
set_option linter.unusedVariables false

theorem rdl_map {α : Type} {K : Kind α} {f : α → AV} (hs : K.sz = 1) (hf : ∀ h cs x, K.rd h cs x → cs = [f x]) {h : Heap} {cs : List AV} {xs : List α} (r : RdL K h cs xs) : cs = xs.map f := by
  obtain ⟨r1, r2⟩ := r
  rw [hs, Nat.mul_one] at r1
  refine List.ext_getElem? fun j => ?_
  rw [List.getElem?_map]
  cases hx : xs[j]? with
  | none =>
    rw [List.getElem?_eq_none]
    · rfl
    · have := List.getElem?_eq_none_iff.1 hx
      omega
  | some x =>
    have := hf _ _ _ (r2 j x hx)
    rw [hs, Nat.mul_one] at this
    have e := congrArg (·[0]?) this
    simp only [List.getElem?_take, List.getElem?_drop] at e
    simpa using e
theorem sla_map {α : Type} {K : Kind α} {f : α → AV} (hs : K.sz = 1) (hf : ∀ h cs x, K.rd h cs x → cs = [f x]) {h : Heap} {v : AV} {xs : List α} (r : SlA K h v xs) : Sl 1 xs.length h v (xs.map f) ∧ ∀ x ∈ xs, ∃ h cs, K.rd h cs x := by
  obtain ⟨c, c1, c2⟩ := r.sl
  refine ⟨?_, fun x hx => ?_⟩
  · rw [rdl_map hs hf c2] at c1
    rw [hs] at c1
    exact c1
  · obtain ⟨j, hj⟩ := List.getElem?_of_mem hx
    exact ⟨_, _, c2.2 j x hj⟩
/-- Numbers. -/
def ii (n : Int) : AV := .int .i64 n
theorem sla_ints {h : Heap} {v : AV} {xs : List Int} (r : SlA (kInt .i64) h v xs) : Sl 1 xs.length h v (xs.map ii) ∧ ∀ x ∈ xs, -9223372036854775808 ≤ x ∧ x ≤ 9223372036854775807 := by
  obtain ⟨r1, r2⟩ := sla_map (K := kInt .i64) (f := ii) rfl (fun _ _ _ q => q.1) r
  exact ⟨r1, fun x hx => by obtain ⟨_, _, q⟩ := r2 x hx; exact wf64 q.2⟩
theorem ii_get {l : List Int} {j : Nat} {x : Int} (h : l[j]? = some x) : (l.map ii)[j]? = some (ii x) := by rw [List.getElem?_map, h]; rfl
theorem ii_one (l : List Int) : (l.map ii).all AV.one = true := by
  rw [List.all_map, List.all_eq_true]
  intro x _
  rfl
/-- Texts. -/
def ss (s : ByteArray) : AV := .str s
theorem sla_strs {h : Heap} {v : AV} {xs : List ByteArray} (r : SlA kStr h v xs) : Sl 1 xs.length h v (xs.map ss) ∧ ∀ x ∈ xs, x.size ≤ maxLen := by
  obtain ⟨r1, r2⟩ := sla_map (K := kStr) (f := ss) rfl (fun _ _ _ q => q.1) r
  exact ⟨r1, fun x hx => by obtain ⟨_, _, q⟩ := r2 x hx; exact q.2⟩
theorem ss_get {l : List ByteArray} {j : Nat} {x : ByteArray} (h : l[j]? = some x) : (l.map ss)[j]? = some (ss x) := by rw [List.getElem?_map, h]; rfl
theorem ss_one (l : List ByteArray) : (l.map ss).all AV.one = true := by
  rw [List.all_map, List.all_eq_true]
  intro x _
  rfl
end Go.Proofs.Ytcgafaecdjbmiaa
