/- matrix.add, matrix.reduce. -/
import Derived.Test.YtcgafaecdjbmiaaMatI
import Derived.Test.YtcgafaecdjbmiaaGf2
namespace Go.Proofs.Ytcgafaecdjbmiaa
open Go Go.YtcgafaecdjbmiaaAbs
set_option linter.unusedSimpArgs false
set_option linter.unusedVariables false
set_option maxRecDepth 4000

/-- The first j of one, the others of the other. -/
def mixL {α : Type} (X Y : List α) (j : Nat) : List α := X.take j ++ Y.drop j
theorem mixL_len {α : Type} {X Y : List α} (h : X.length = Y.length) (j : Nat) : (mixL X Y j).length = Y.length := by
  unfold mixL
  rw [List.length_append, List.length_take, List.length_drop]; omega
theorem mixL_get {α : Type} {X Y : List α} (h : X.length = Y.length) {i j : Nat} (hj : j ≤ i) : (mixL X Y j)[i]? = Y[i]? := by
  unfold mixL
  by_cases hl : j ≤ X.length
  · rw [List.getElem?_append_right (by rw [List.length_take]; omega), List.getElem?_drop, List.length_take]
    congr 1; omega
  · rw [List.getElem?_eq_none (by rw [List.length_append, List.length_take, List.length_drop]; omega), List.getElem?_eq_none (by omega)]
theorem mixL_set {α : Type} {X Y : List α} (h : X.length = Y.length) {j : Nat} {x : α} (hx : X[j]? = some x) : (mixL X Y j).set j x = mixL X Y (j + 1) := by
  have hj := (List.getElem?_eq_some_iff.1 hx).1
  refine List.ext_getElem? fun i => ?_
  unfold mixL
  by_cases hij : j = i
  · subst hij
    rw [List.getElem?_set_self (by rw [List.length_append, List.length_take, List.length_drop]; omega), List.getElem?_append_left (by rw [List.length_take]; omega), List.getElem?_take, if_pos (by omega), hx]
  · rw [List.getElem?_set_ne hij]
    by_cases hi : i < j
    · rw [List.getElem?_append_left (by rw [List.length_take]; omega), List.getElem?_append_left (by rw [List.length_take]; omega), List.getElem?_take, List.getElem?_take, if_pos hi, if_pos (by omega)]
    · rw [List.getElem?_append_right (by rw [List.length_take]; omega), List.getElem?_append_right (by rw [List.length_take]; omega), List.getElem?_drop, List.getElem?_drop, List.length_take, List.length_take]
      congr 1; omega
theorem mixL_0 {α : Type} (X Y : List α) : mixL X Y 0 = Y := by simp [mixL]
theorem mixL_all {α : Type} {X Y : List α} (h : X.length = Y.length) : mixL X Y X.length = X := by
  unfold mixL
  rw [List.take_length, List.drop_eq_nil_of_le (by omega), List.append_nil]
theorem addL_at {a b : Vc} {j : Nat} {x y : UInt8} (hx : a[j]? = some x) (hy : b[j]? = some y) : (addL a b)[j]? = some (x ^^^ y) := by
  unfold addL
  rw [List.getElem?_zipWith, hx, hy]
theorem smul_at {c : UInt8} {a : Vc} {j : Nat} {x : UInt8} (hx : a[j]? = some x) : (smul c a)[j]? = some (gm c x) := by
  unfold smul
  rw [List.getElem?_map, hx]; rfl
/-- Apart from a block. -/
def Off (fv : AV) (F : Nat → Prop) : Prop := ∀ b o, fv = .ptr b o → ¬ F b
theorem fld_keep {h h' : Heap} {fv : AV} {F : Nat → Prop} (f : Fld h fv) (K : Keep h.next F h h') (hF : Off fv F) : Fld h' fv := by
  obtain ⟨b, o, c, ro, rfl, h1, h2, h3⟩ := f
  exact ⟨b, o, c, ro, rfl, Nat.lt_of_lt_of_le h1 K.1, by rw [K.2 b h1 (hF b o rfl)]; exact h2, h3⟩

set_option maxHeartbeats 1000000 in
theorem add_ok (k : Nat) (hk : 60 < k) (h : Heap) (fv : AV) (f : Fld h fv) (a s : AV) (La Ls : Vc) (c : UInt8) (Ma : Mine 1 La.length h a (La.map bb)) (S : Sl 1 Ls.length h s (Ls.map bb)) (hl : La.length = Ls.length) (hm : La.length ≤ 50) (h0 : 0 < La.length) (ha : ¬ Has a s.blk) (hf : Off fv (Has a)) :
    ∃ v' h', acall Try.prog (k + 2) 36 [fv, a, s, .int .u8 (c.toNat : Nat)] h = some (v', h') ∧ Mine 1 La.length h' a ((addL La (smul c Ls)).map bb) ∧ Keep h.next (Has a) h h' ∧ v' = .tup [] := by
  rw [acall_text [3] Try.func36 (by kernel_rfl)]
  refine afuncT_ex rfl (by simp [Try.f36]) ?_
  have la := Ma.sl.len'
  obtain ⟨n, hn⟩ : ∃ n, La.length = n := ⟨_, rfl⟩
  have hx : (addL La (smul c Ls)).length = La.length := addL_len (by rw [smul_len, hl])
  simp [Try.f36, la]
  refine W_cutLoop 0 (fun st => Mine 1 La.length st.h a ((addL La (smul c Ls)).map bb) ∧ Keep h.next (Has a) h st.h) ?_ ?_
  · refine W_loop (fun m st => ∃ j, m = La.length - j ∧ j ≤ La.length ∧ st.t.get 0 = some fv ∧ st.t.get 1 = some a ∧ st.t.get 2 = some s ∧ st.t.get 3 = some (.int .u8 (c.toNat : Nat)) ∧ st.t.get 10 = some (.int .i64 (La.length : Nat)) ∧ st.t.get 11 = some (.int .i64 (j : Nat)) ∧ Mine 1 La.length st.h a ((mixL (addL La (smul c Ls)) La j).map bb) ∧ Keep h.next (Has a) h st.h) La.length (by omega)
      ⟨0, by omega, by omega, by simp, by simp, by simp, by simp, by simp, by simp, by rw [mixL_0]; exact Ma, Keep.refl _ _ _⟩ ?_
    rintro m ⟨t, h3⟩ ⟨j, rfl, hj, q0, q1, q2, q3, q10, q11, M3, K3⟩
    simp only at q0 q1 q2 q3 q10 q11 M3 K3
    by_cases hlt : j < La.length
    · obtain ⟨x, hx1⟩ : ∃ x, La[j]? = some x := ⟨La[j], by simp⟩
      obtain ⟨y, hy1⟩ : ∃ y, Ls[j]? = some y := ⟨Ls[j]'(by omega), by simp⟩
      have S3 : Sl 1 Ls.length h3 s (Ls.map bb) := S.keep' K3 fun _ => ⟨S.blk_lt (by omega), ha⟩
      have f3 := fld_keep f K3 hf
      have ixa := M3.sl.idx1 (P := Try.prog) Try.underlying31 ts5 (j := j) hlt .i64
      have lda := M3.sl.ld (P := Try.prog) (e := 5) ta5 (j := j) (x := bb x) (by rw [List.getElem?_map, mixL_get hx (Nat.le_refl _), hx1]; rfl)
      have ixs := S3.idx1 (P := Try.prog) Try.underlying31 ts5 (j := j) (by omega) .i64
      have lds := S3.ld (P := Try.prog) (e := 5) ta5 (j := j) (x := bb y) (by rw [List.getElem?_map, hy1]; rfl)
      simp only [bb] at lda lds
      have alt := M3.sl.blk_lt (by omega)
      have slt := S3.blk_lt (by omega)
      have mul : acall Try.prog (k + 1) 35 [fv, .int .u8 (c.toNat : Nat), .int .u8 (y.toNat : Nat)] h3 = _ := mulB_ok k h3 fv f3 c y
      obtain ⟨h4, a4, M4, K4, n4⟩ := M3.lay1 (j := j) (x := .int .u8 ((x ^^^ gm c y).toNat : Nat)) hlt rfl
      have e4 : ((mixL (addL La (smul c Ls)) La j).map bb).set j (.int .u8 ((x ^^^ gm c y).toNat : Nat)) = (mixL (addL La (smul c Ls)) La (j + 1)).map bb := by
        rw [← mixL_set hx (addL_at hx1 (smul_at hy1)), List.map_set]; rfl
      rw [e4] at M4
      rw [UInt8.toNat_xor] at a4
      have ag : Agree h3.next h3 h3 := fun _ _ => rfl
      simp [q0, q1, q2, q3, q10, q11, isLt (show (j : Int) < (La.length : Int) by omega)]
      refine W_split 11 h3.next (by rfl) (by kernel_rfl) (by rfl) ?_
      dsimp only [List.take, List.drop]
      simp [obl, mayEff, mayRead, sameAV, q0, q1, q2, q3, q10, q11, ixa, lda, ixs, lds, alt, slt, mul, ag, a4, xor_u8, i64w ((j : Int) + 1) (by omega) (by omega)]
      exact ⟨La.length - (j + 1), by omega, j + 1, rfl, by omega, by simp, M4, K3.trans (K4.weak K3.1 fun _ _ q => q)⟩
    · have e : j = La.length := by omega
      rw [e, ← hx, mixL_all hx] at M3
      simp [q0, q1, q2, q3, q10, q11, e]
      exact ⟨by rw [hx] at M3; exact M3, K3⟩
  · rintro ⟨t, h3⟩ ⟨M3, K3⟩
    simp only at M3 K3
    simp
    exact ⟨M3, K3⟩

/-- Rows that are worked on. -/
structure Wk (h0 h : Heap) (F : List Nat) (v : AV) (rs : List AV) (A : Mt) : Prop where
  rows : RowsO fb 1 h v rs A
  ap : Apart (v :: rs)
  inn : ∀ d, d ∈ blks (v :: rs) → d ∈ F
  kp : Keep h0.next (fun d => d ∈ F) h0 h
  lt : ∀ d, d ∈ F → d < h0.next
section
variable {h0 h h1 : Heap} {F : List Nat} {v : AV} {rs : List AV} {A : Mt}
theorem Wk.mine (W : Wk h0 h F v rs A) {j : Nat} (hj : j < A.length) : ∃ r, rs[j]? = some r ∧ Mine 1 (rowA A j).length h r ((rowA A j).map bb) := by
  obtain ⟨r, h1, h2⟩ := W.rows.row (rowA_mem hj).1
  rw [cat_fb] at h2
  exact ⟨r, h1, h2⟩
theorem Wk.put (W : Wk h0 h F v rs A) {j : Nat} {r : AV} (hr : rs[j]? = some r) {L : Vc} (K1 : Keep h.next (Has r) h h1) (Mr : Mine 1 L.length h1 r (L.map bb)) : Wk h0 h1 F v rs (A.set j L) := by
  refine ⟨rows_put W.rows W.ap hr K1 (by rw [cat_fb]; exact Mr), W.ap, W.inn, W.kp.trans (K1.weak W.kp.1 fun d _ hd => W.inn d (mem_blks.2 ⟨r, List.mem_cons.2 (.inr (List.mem_of_getElem? hr)), hd⟩)), W.lt⟩
theorem Wk.ext (W : Wk h0 h F v rs A) (K : Keep h.next nob h h1) : Wk h0 h1 F v rs A :=
  ⟨W.rows.ext K, W.ap, W.inn, W.kp.trans (K.weak W.kp.1 fun _ _ q => q.elim), W.lt⟩
theorem Wk.ne (W : Wk h0 h F v rs A) {i j : Nat} {r s : AV} (hi : rs[i]? = some r) (hj : rs[j]? = some s) (hij : i ≠ j) {d : Nat} (hd : Has r d) : ¬ Has s d := fun q => by
  have := W.ap.get (i := i + 1) (j := j + 1) (v := r) (w := s) (by simpa using hi) (by simpa using hj) hd q
  omega
theorem blks_perm {l m : List AV} (p : l.Perm m) : (blks l).Perm (blks m) := by unfold blks; exact p.filterMap _
theorem Wk.swap (W : Wk h0 h F v rs A) {i j : Nat} {x y : AV} (hi : rs[i]? = some x) (hj : rs[j]? = some y) : ∃ h1 h2, alay h v.blk (v.off + i) [y] = some h1 ∧ alay h1 v.blk (v.off + j) [x] = some h2 ∧ Wk h0 h2 F v ((rs.set i y).set j x) (swpA A i j) := by
  have hil := (List.getElem?_eq_some_iff.1 hi).1
  have hjl := (List.getElem?_eq_some_iff.1 hj).1
  have hlen := W.rows.len
  have xo : x.one = true := by
    have := W.rows.each i x _ hi (rowA_mem (i := i) (by omega)).1
    exact this.oneV
  have yo : y.one = true := by
    have := W.rows.each j y _ hj (rowA_mem (i := j) (by omega)).1
    exact this.oneV
  obtain ⟨h1, a1, a2, a3, a4⟩ := W.rows.own.lay1 (x := y) hil yo
  obtain ⟨h2, b1, b2, b3, b4⟩ := a2.lay1 (x := x) hjl xo
  have K : Keep h.next (Has v) h h2 := a3.trans (b3.weak a3.1 fun _ _ q => q)
  have perm : ((rs.set i y).set j x).Perm rs := by
    have e1 : rs[i] = x := (List.getElem?_eq_some_iff.1 hi).2
    have e2 : rs[j] = y := (List.getElem?_eq_some_iff.1 hj).2
    have := @List.set_set_perm _ rs i j hil hjl
    rwa [e1, e2] at this
  have bp : (blks (v :: (rs.set i y).set j x)).Perm (blks (v :: rs)) := blks_perm (perm.cons v)
  have nv : ∀ {k : Nat} {u : AV} {d : Nat}, rs[k]? = some u → Has u d → ¬ Has v d := fun {k u d} hk hu hv => by
    have := W.ap.get (i := k + 1) (j := 0) (v := u) (w := v) (by simpa using hk) rfl hu hv
    omega
  refine ⟨h1, h2, a1, b1, ⟨by simpa using b2, by simp [swpA, hlen], fun k u L hu hL => ?_⟩, ?_, fun d hd => W.inn d (bp.mem_iff.1 hd), W.kp.trans (K.weak W.kp.1 fun d _ hd => W.inn d (mem_blks.2 ⟨v, by simp, hd⟩)), W.lt⟩
  · have key : ∀ (k' : Nat) (u : AV) (L : Vc), rs[k']? = some u → A[k']? = some L → Mine 1 L.length h2 u (cat fb L) := fun k' u L hu hL => (W.rows.each k' u L hu hL).keep K fun d hd => nv hu hd
    have hkl : k < rs.length := by
      have := (List.getElem?_eq_some_iff.1 hu).1
      simpa using this
    have eL : L = rowA (swpA A i j) k := (rowA_get hL).symm
    rw [swpA_row (by omega) (by omega)] at eL
    by_cases q1 : k = j
    · subst q1
      rw [List.getElem?_set_self (by simpa using hjl)] at hu
      cases hu
      rw [if_pos rfl] at eL
      rw [eL]
      exact key i x _ hi (rowA_mem (by omega)).1
    · rw [List.getElem?_set_ne (Ne.symm q1)] at hu
      rw [if_neg q1] at eL
      by_cases q2 : k = i
      · subst q2
        rw [List.getElem?_set_self hil] at hu
        cases hu
        rw [if_pos rfl] at eL
        rw [eL]
        exact key j y _ hj (rowA_mem (by omega)).1
      · rw [List.getElem?_set_ne (Ne.symm q2)] at hu
        rw [if_neg q2] at eL
        rw [eL]
        exact key k u _ hu (rowA_mem (by omega)).1
  · have := W.ap
    unfold Apart at this ⊢
    exact bp.nodup_iff.2 this
end
end Go.Proofs.Ytcgafaecdjbmiaa
