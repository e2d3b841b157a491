/- matrix.Cauchy. -/
import Derived.Test.YtcgafaecdjbmiaaMatV
import Derived.Test.YtcgafaecdjbmiaaCau
import Derived.Test.YtcgafaecdjbmiaaRefGf
namespace Go.Proofs.Ytcgafaecdjbmiaa
open Go Go.YtcgafaecdjbmiaaAbs
set_option linter.unusedSimpArgs false
set_option linter.unusedVariables false
set_option maxRecDepth 4000

/-- A new row is appended. -/
theorem Nw.push {h h1 h2 : Heap} {v : AV} {M : Mt} (N : Nw h h1 v M) {r : AV} {L : Vc} (K : Keep h1.next nob h1 h2) (Mr : Mine 1 L.length h2 r (L.map bb)) (Fr : ∀ d, Has r d → h1.next ≤ d) (hl : M.length < 1000000) :
    ∃ v' h3, aappend Try.prog (h2.new (.cells [r] false)) 27 27 v (.sl h2.next 0 1 1 1 true) = some (v', h3) ∧ Nw h h3 v' (M ++ [L]) := by
  obtain ⟨rs, R, A, f, K0⟩ := N
  have R2 := R.ext K
  have hrl := R.len
  obtain ⟨v', h3, a1, a2, a3, a4⟩ := R2.own.push (P := Try.prog) el27 (a := [r]) (ex := true) (by simp [Mr.oneV]) rfl (by omega)
  have nv : ∀ {k : Nat} {u : AV} {d : Nat}, rs[k]? = some u → Has u d → ¬ Has v d := fun {k u d} hk hu hv => by
    have := A.get (i := k + 1) (j := 0) (v := u) (w := v) (by simpa using hk) rfl hu hv
    omega
  refine ⟨v', h3, a1, rs ++ [r], ⟨by rw [List.length_append]; exact a2, by simp [hrl], fun i u L' hu hL => ?_⟩, ?_, fun d hd => ?_, K0.trans ⟨Nat.le_trans K.1 a4.1, fun d hd _ => ?_⟩⟩
  · by_cases hi : i < rs.length
    · rw [List.getElem?_append_left hi] at hu
      rw [List.getElem?_append_left (by omega)] at hL
      exact (R2.each i u L' hu hL).keep a4 fun d hd => nv hu hd
    · have hi' : i = rs.length := by
        have := (List.getElem?_eq_some_iff.1 hu).1
        rw [List.length_append] at this
        simp at this
        omega
      subst hi'
      rw [List.getElem?_append_right (Nat.le_refl _), Nat.sub_self] at hu
      rw [hrl, List.getElem?_append_right (Nat.le_refl _), Nat.sub_self] at hL
      have hu : r = u := by simpa using hu
      have hL : L = L' := by simpa using hL
      subst hu hL
      rw [cat_fb]
      exact Mr.keep a4 fun d hd q => by have := Fr d hd; have := R.own.lt q; omega
  · have A1 : Apart (v' :: rs) := by
      have := A.set (i := 0) (v := v) (v' := v') rfl fun c hc => by
        rcases a3 c hc with z | z
        · exact .inl z
        · exact .inr fun q => by have := R2.lt q; omega
      simpa using this
    have e : v' :: (rs ++ [r]) = (v' :: rs) ++ [r] := rfl
    unfold Apart at A1 ⊢
    rw [e, blks_append, List.nodup_append]
    refine ⟨A1, ?_, fun d hd d' hd' q => ?_⟩
    · unfold blks
      simp only [List.filterMap_cons, List.filterMap_nil]
      split <;> simp
    · subst q
      obtain ⟨u, hu, hu'⟩ := mem_blks.1 hd'
      rw [List.mem_singleton] at hu
      subst hu
      have x1 := Fr d hu'
      have x2 := Mr.lt hu'
      obtain ⟨u, hu, hu''⟩ := mem_blks.1 hd
      rcases List.mem_cons.1 hu with rfl | hu
      · rcases a3 d hu'' with z | z
        · have := R.own.lt z; omega
        · omega
      · have := R.lt (mem_blks.2 ⟨u, List.mem_cons.2 (.inr hu), hu''⟩); omega
  · obtain ⟨u, hu, hu'⟩ := mem_blks.1 hd
    rcases List.mem_cons.1 hu with rfl | hu
    · rcases a3 d hu' with z | z
      · exact f d (mem_blks.2 ⟨v, by simp, z⟩)
      · have := K0.1; have := K.1; omega
    · rcases List.mem_append.1 hu with hu | hu
      · exact f d (mem_blks.2 ⟨u, List.mem_cons.2 (.inr hu), hu'⟩)
      · rw [List.mem_singleton] at hu
        subst hu
        have := Fr d hu'; have := K0.1; omega
  · have hd1 : d < h1.next := Nat.lt_of_lt_of_le hd K0.1
    rw [a4.2 d (Nat.lt_of_lt_of_le hd1 K.1) (fun q => by have := f d (mem_blks.2 ⟨v, by simp, q⟩); omega), K.2 d hd1 id]
theorem xor_byte {a b : Nat} (ha : a < 256) (hb : b < 256) : UInt8.ofNat a ^^^ UInt8.ofNat b = UInt8.ofNat (a ^^^ b) := b_ext (by rw [UInt8.toNat_xor, ofNat_toNat ha, ofNat_toNat hb, ofNat_toNat (xor_lt ha hb)])
theorem xor_i64' {x y : Nat} (hx : x < 256) (hy : y < 256) : fwrap .i64 (((x % modulus .i64) ^^^ (y % modulus .i64) : Nat) : Int) = ((x ^^^ y : Nat) : Int) := xor_i64 hx hy
set_option maxHeartbeats 4000000 in
theorem cauchy_ok (k : Nat) (hk : 250 < k) (h : Heap) (fv : AV) (f : Fld h fv) (n m : Nat) (n1 : 1 ≤ n) (n2 : n ≤ 8) (hm : m + n ≤ 12) :
    ∃ v' h', acall Try.prog (k + 2) 13 [fv, .int .i64 (n : Nat), .int .i64 (m : Nat)] h = some (v', h') ∧ Nw h h' v' (cauM n m) := by
  rw [acall_text [] Try.func13 (by kernel_rfl)]
  refine afuncT_ex rfl (by simp [Try.f13]) ?_
  obtain ⟨v0, h1, E1, N1⟩ := identity_ok k (by omega) h n n1 (by omega)
  have s1 := i64w ((12 : Int) - (n : Int)) (by omega) (by omega)
  simp [Try.f13, isLe (show (1 : Int) ≤ (n : Int) by omega), isLe (show (n : Int) ≤ 8 by omega), isLe (show (0 : Int) ≤ (m : Int) by omega), s1, isLe (show (m : Int) ≤ 12 - (n : Int) by omega), E1]
  have eI : idM n = (List.range (n + 0)).map (cauR n) := by
    unfold idM
    exact List.map_congr_left fun i hi => (cauR_id (List.mem_range.1 hi)).symm
  refine W_cutLoop 0 (fun st => ∃ v', st.t.get 7 = some v' ∧ Nw h st.h v' (cauM n m)) ?_ ?_
  · refine W_loop (fun mm st => ∃ (i : Nat) (v' : AV), mm = m - i ∧ i ≤ m ∧ st.t.get 0 = some fv ∧ st.t.get 1 = some (.int .i64 (n : Nat)) ∧ st.t.get 7 = some v' ∧ st.t.get 29 = some (.int .i64 (m : Nat)) ∧ st.t.get 30 = some (.int .i64 (i : Nat)) ∧ Nw h st.h v' ((List.range (n + i)).map (cauR n))) m (by omega)
      ⟨0, v0, by omega, by omega, by simp, by simp, by simp, by simp, by simp, by rw [← eI]; exact N1⟩ ?_
    rintro mm ⟨t, h3⟩ ⟨i, v3, rfl, hi, q0, q1, q7, q29, q30, N3⟩
    simp only at q0 q1 q7 q29 q30 N3
    by_cases hlt : i < m
    · have Mz := new_row h3 (zv n) n (zv_len n)
      rw [zv_bb] at Mz
      have Kz : Keep h3.next nob h3 (h3.new (.cells (List.replicate n (.int .u8 0)) false)) := Keep.new (Nat.le_refl _) _
      obtain ⟨rv, hrv⟩ : ∃ rv, AV.sl h3.next 0 n n 1 true = rv := ⟨_, rfl⟩
      have Fz : ∀ d, Has rv d → h3.next ≤ d := fun d hd => by rw [← hrv] at hd; cases hd; exact Nat.le_refl _
      have lz : ∀ (k : Heap) (e : TypeId), vlen' k rv (some (.slice e)) = some (.int .i64 (n : Nat)) := fun k e => by rw [← hrv]; rfl
      simp [q0, q1, q7, q29, q30, isLt (show (i : Int) < (m : Int) by omega), aalloc_make (P := Try.prog) el31 (z := [.int .u8 0]) az5 rfl rfl n n (Nat.le_refl _) (by omega), flat1, afill]
      rw [hrv] at Mz ⊢
      simp [lz]
      have lc1 : (cauR n (n + i)).length = (zv n).length := by simp
      refine W_cutLoop 2 (fun st => st.t.get 0 = some fv ∧ st.t.get 1 = some (.int .i64 (n : Nat)) ∧ st.t.get 7 = some v3 ∧ st.t.get 9 = some rv ∧ st.t.get 29 = some (.int .i64 (m : Nat)) ∧ st.t.get 30 = some (.int .i64 (i : Nat)) ∧ Mine 1 n st.h rv ((cauR n (n + i)).map bb) ∧ Keep h3.next nob h3 st.h) ?_ ?_
      · refine W_loop (fun mm st => ∃ (j : Nat), mm = n - j ∧ j ≤ n ∧ st.t.get 0 = some fv ∧ st.t.get 1 = some (.int .i64 (n : Nat)) ∧ st.t.get 7 = some v3 ∧ st.t.get 8 = some (.int .i64 (i : Nat)) ∧ st.t.get 9 = some rv ∧ st.t.get 29 = some (.int .i64 (m : Nat)) ∧ st.t.get 30 = some (.int .i64 (i : Nat)) ∧ st.t.get 36 = some (.int .i64 (n : Nat)) ∧ st.t.get 37 = some (.int .i64 (j : Nat)) ∧ Mine 1 n st.h rv ((mixL (cauR n (n + i)) (zv n) j).map bb) ∧ Keep h3.next nob h3 st.h) n (by omega)
          ⟨0, by omega, by omega, by simp [q0], by simp [q1], by simp [q7], by simp, by simp, by simp [q29], by simp [q30], by simp, by simp, by rw [mixL_0, zv_bb]; exact Mz, Kz⟩ ?_
        clear q0 q1 q7 q29 q30
        rintro mm ⟨t, h5⟩ ⟨j, rfl, hj, q0, q1, q7, q8, q9, q29, q30, q36, q37, M5, K5⟩
        simp only at q0 q1 q7 q8 q9 q29 q30 q36 q37 M5 K5
        by_cases hjl : j < n
        · have f5 : Fld h5 fv := (f.ext N3.kb).ext K5
          obtain ⟨x, hx⟩ : ∃ x, (n + i) ^^^ j = x := ⟨_, rfl⟩
          have hxl : x < 256 := by rw [← hx]; exact xor_lt (by omega) (by omega)
          have ex : UInt8.ofNat (n + i) ^^^ UInt8.ofNat j = UInt8.ofNat x := by rw [xor_byte (by omega) (by omega), hx]
          have inv := invB_ok (k) h5 fv f5 (UInt8.ofNat x)
          rw [ofNat_toNat hxl] at inv
          have sx : fwrap .i64 ((((n + i) % modulus .i64) ^^^ (j % modulus .i64) : Nat) : Int) = (x : Nat) := by rw [xor_i64' (by omega) (by omega), hx]
          have s8 : fwrap .u8 (x : Int) = (x : Nat) := fwrap_u8 hxl
          have hg : (cauR n (n + i))[j]? = some (gi (UInt8.ofNat x)) := by
            unfold cauR
            rw [List.getElem?_map, List.getElem?_range hjl, Option.map_some]
            unfold gB
            rw [if_neg (by omega), ex]
          have ixr := M5.sl.idx1 (P := Try.prog) Try.underlying31 ts5 (j := j) hjl .i64
          obtain ⟨h6, a6, M6, K6, n6⟩ := M5.lay1 (j := j) (x := .int .u8 ((gi (UInt8.ofNat x)).toNat : Nat)) hjl rfl
          have e6 : ((mixL (cauR n (n + i)) (zv n) j).map bb).set j (.int .u8 ((gi (UInt8.ofNat x)).toNat : Nat)) = (mixL (cauR n (n + i)) (zv n) (j + 1)).map bb := by
            rw [← mixL_set lc1 hg, List.map_set]; rfl
          rw [e6] at M6
          have K6' : Keep h3.next nob h3 h6 := K5.trans ⟨K6.1, fun d hd _ => K6.2 d (Nat.lt_of_lt_of_le hd K5.1) fun q => by have := Fz d q; omega⟩
          obtain ⟨p, hp⟩ : ∃ p, p = n + i := ⟨_, rfl⟩
          have s2 : fwrap .i64 ((n : Int) + (i : Int)) = (p : Nat) := by rw [i64w _ (by omega) (by omega)]; omega
          rw [← hp] at sx
          simp [q0, q1, q7, q8, q9, q29, q30, q36, q37, isLt (show (j : Int) < (n : Int) by omega), s2, sx, s8, inv, ixr, a6, i64w ((j : Int) + 1) (by omega) (by omega)]
          exact ⟨n - (j + 1), by omega, j + 1, rfl, by omega, by simp, M6, K6'⟩
        · have e : j = (cauR n (n + i)).length := by simp; omega
          rw [e, mixL_all lc1] at M5
          simp [q0, q1, q7, q8, q9, q29, q30, q36, q37, e]
          exact ⟨M5, K5⟩
      clear q0 q1 q7 q29 q30
      rintro ⟨t, h5⟩ ⟨q0, q1, q7, q9, q29, q30, M5, K5⟩
      simp only at q0 q1 q7 q9 q29 q30 M5 K5
      obtain ⟨v6, h6, a6, N6⟩ := N3.push K5 (L := cauR n (n + i)) (by simpa using M5) Fz (by simp; omega)
      have rwr := row1_one (show rv.one = true from M5.oneV)
      have e6 : (List.range (n + i)).map (cauR n) ++ [cauR n (n + i)] = (List.range (n + (i + 1))).map (cauR n) := by
        rw [← Nat.add_assoc, List.range_succ, List.map_append]; rfl
      rw [e6] at N6
      simp [q0, q1, q7, q9, q29, q30, aalloc, afill, rwr, show rv.one = true from M5.oneV, a6, i64w ((i : Int) + 1) (by omega) (by omega)]
      exact ⟨m - (i + 1), by omega, i + 1, rfl, by omega, by simp, N6⟩
    · have e : i = m := by omega
      subst e
      simp [q0, q1, q7, q29, q30]
      exact N3
  · rintro ⟨t, h3⟩ ⟨v', q7, N⟩
    simp only at q7 N
    simp [q7]
    exact N
end Go.Proofs.Ytcgafaecdjbmiaa
