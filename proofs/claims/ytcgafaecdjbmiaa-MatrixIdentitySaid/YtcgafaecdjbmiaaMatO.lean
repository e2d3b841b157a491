/- Rows of bytes that are one's own. matrix.Identity, copied. -/
import Derived.Test.YtcgafaecdjbmiaaMat
import Derived.Test.YtcgafaecdjbmiaaRank
namespace Go.Proofs.Ytcgafaecdjbmiaa
open Go Go.YtcgafaecdjbmiaaAbs
set_option linter.unusedSimpArgs false
set_option linter.unusedVariables false
set_option maxRecDepth 4000

def fb (b : UInt8) : List AV := [bb b]
theorem cat_fb (L : Vc) : cat fb L = L.map bb := by
  induction L with
  | nil => rfl
  | cons x L ih => rw [cat_cons, ih]; rfl
theorem zv_bb (n : Nat) : (zv n).map bb = List.replicate n (.int .u8 0) := by unfold zv; rw [List.map_replicate]; rfl
section
variable {h h' h1 : Heap} {v : AV} {rs : List AV} {M : Mt}
theorem rows_rd (R : RowsO fb 1 h v rs M) : Rd h v rs M := ⟨by have := R.own.sl; rwa [R.len] at this, fun i r L hr hL => by have := (R.each i r L hr hL).sl; rwa [cat_fb] at this⟩
/-- A row is written where it stands. -/
theorem rows_put {α : Type} {f : α → List AV} {sz : Nat} {Ls : List (List α)} (R : RowsO f sz h v rs Ls) (A : Apart (v :: rs)) {j : Nat} {r : AV} {L' : List α} (hr : rs[j]? = some r) (K1 : Keep h.next (Has r) h h1) (M : Mine sz L'.length h1 r (cat f L')) : RowsO f sz h1 v rs (Ls.set j L') := by
  have hjl := (List.getElem?_eq_some_iff.1 hr).1
  have nvr : ∀ {k : Nat} {u : AV} {d : Nat}, (v :: rs)[k]? = some u → k ≠ j + 1 → Has u d → ¬ Has r d := fun {k u d} hk hkj hu hv => hkj (A.get (i := k) (j := j + 1) (v := u) (w := r) hk (by simpa using hr) hu hv)
  refine ⟨R.own.keep K1 fun d hd q => nvr (k := 0) rfl (by omega) hd q, by rw [List.length_set]; exact R.len, fun i u L hu hL => ?_⟩
  by_cases hij : i = j
  · subst hij
    rw [hr] at hu
    cases hu
    rw [List.getElem?_set_self (by rw [← R.len]; exact hjl)] at hL
    cases hL
    exact M
  · rw [List.getElem?_set_ne (Ne.symm hij)] at hL
    exact (R.each i u L hu hL).keep K1 fun d hd q => nvr (k := i + 1) (by simpa using hu) (by omega) hd q
/-- New rows. -/
def Nw (h h' : Heap) (v : AV) (M : Mt) : Prop := ∃ rs, RowsO fb 1 h' v rs M ∧ Apart (v :: rs) ∧ (∀ d, d ∈ blks (v :: rs) → h.next ≤ d) ∧ Keep h.next nob h h'
theorem Nw.ext (N : Nw h h' v M) (K : Keep h'.next nob h' h1) : Nw h h1 v M := by
  obtain ⟨rs, R, A, f, K0⟩ := N
  exact ⟨rs, R.ext K, A, f, K0.trans (K.weak K0.1 fun _ _ q => q)⟩
theorem Nw.rd (N : Nw h h' v M) : ∃ rs, Rd h' v rs M := by
  obtain ⟨rs, R, _⟩ := N
  exact ⟨rs, rows_rd R⟩
theorem Nw.kb (N : Nw h h' v M) : Keep h.next nob h h' := by
  obtain ⟨_, _, _, _, K⟩ := N
  exact K
/-- A row that one has is written, or a new one put into its place. -/
theorem Nw.set (N : Nw h h' v M) {j : Nat} (hj : j < M.length) {r' : AV} {L' : Vc} (K1 : Keep h'.next nob h' h1) (Mr : Mine 1 L'.length h1 r' (L'.map bb)) (Fr : ∀ d, Has r' d → h'.next ≤ d) : ∃ h2, alay h1 v.blk (v.off + j) [r'] = some h2 ∧ Nw h h2 v (M.set j L') ∧ ∃ rs, RowsO fb 1 h2 v rs (M.set j L') ∧ rs[j]? = some r' := by
  obtain ⟨rs, R, A, f, K0⟩ := N
  have hjl : j < rs.length := by rw [R.len]; exact hj
  obtain ⟨r, hr⟩ : ∃ r, rs[j]? = some r := ⟨rs[j], by simp [hjl]⟩
  obtain ⟨h2, a1, a2, a3, a4, a5⟩ := R.set A (L' := L') hr (K1.weak (Nat.le_refl _) fun _ _ q => q.elim) (by rw [cat_fb]; exact Mr) (fun d hd => .inr (Fr d hd))
  have bl : ∀ d, d ∈ blks (v :: rs.set j r') → Has r' d ∨ d ∈ blks (v :: rs) := fun d hd => by
    have := blks_set (l := v :: rs) (i := j + 1) (v' := r') (c := d) (by simpa using hd)
    exact this
  refine ⟨h2, a1, ⟨rs.set j r', a2, ?_, fun d hd => ?_, ?_⟩, rs.set j r', a2, by rw [List.getElem?_set_self hjl]⟩
  · have := A.set (i := j + 1) (v := r) (v' := r') (by simpa using hr) fun c hc => .inr fun q => by
      have := R.lt q
      have := Fr c hc
      omega
    simpa using this
  · rcases bl d hd with q | q
    · exact Nat.le_trans K0.1 (Fr d q)
    · exact f d q
  · refine K0.trans ⟨a3.1, fun d hd _ => a3.2 d (Nat.lt_of_lt_of_le hd K0.1) fun q => ?_⟩
    have : d ∈ blks (v :: rs) := q.elim (fun q => mem_blks.2 ⟨r, List.mem_cons.2 (.inr (List.mem_of_getElem? hr)), q⟩) fun q => mem_blks.2 ⟨v, by simp, q⟩
    have := f d this
    omega
theorem Nw.put (N : Nw h h' v M) {rs : List AV} (hR : RowsO fb 1 h' v rs M) {j : Nat} {r : AV} (hr : rs[j]? = some r) {i : Nat} {L : Vc} (hL : M[j]? = some L) (hi : i < L.length) (x : UInt8) : ∃ h2, alay h' r.blk (r.off + i) [.int .u8 (x.toNat : Nat)] = some h2 ∧ Nw h h2 v (M.set j (L.set i x)) := by
  obtain ⟨rs', R, A, f, K0⟩ := N
  have e : rs' = rs := by
    have a := R.own.sl
    have b := hR.own.sl
    have l : rs'.length = rs.length := by rw [R.len, hR.len]
    rcases a with ⟨p1, p2, _⟩ | ⟨p1, p2, _⟩ | ⟨b1, i1, c1, x1, y1, z1, p1, p2, p3, p4, p5, p6, p7⟩
    · rw [p2] at l ⊢; exact (List.eq_nil_of_length_eq_zero l.symm).symm
    · rw [p2] at l ⊢; exact (List.eq_nil_of_length_eq_zero l.symm).symm
    · rcases b with ⟨q1, q2, _⟩ | ⟨q1, q2, _⟩ | ⟨b2, i2, c2, x2, y2, z2, q1, q2, q3, q4, q5, q6, q7⟩
      · rw [p1] at q1; cases q1
      · rw [p1] at q1; cases q1
      · rw [p1] at q1
        simp only [AV.sl.injEq] at q1
        obtain ⟨u1, u2, _⟩ := q1
        rw [← u1, p3] at q3
        cases q3
        rw [← p6, ← q6, u2, l]
  subst e
  have Mr := R.each j r L hr hL
  rw [cat_fb] at Mr
  obtain ⟨h2, a1, a2, a3, a4⟩ := Mr.lay1 (j := i) (x := .int .u8 (x.toNat : Nat)) hi rfl
  have e2 : (L.map bb).set i (.int .u8 (x.toNat : Nat)) = (L.set i x).map bb := by rw [List.map_set]; rfl
  rw [e2] at a2
  have R2 := rows_put R A (L' := L.set i x) hr a3 (by rw [cat_fb, List.length_set]; exact a2)
  refine ⟨h2, a1, rs', R2, A, f, K0.trans ⟨a3.1, fun d hd _ => a3.2 d (Nat.lt_of_lt_of_le hd K0.1) fun q => ?_⟩⟩
  have := f d (mem_blks.2 ⟨r, List.mem_cons.2 (.inr (List.mem_of_getElem? hr)), q⟩)
  omega
end
/-- Rows that are to be: so many nil ones. -/
theorem rows_nil (h : Heap) (n : Nat) : Nw h (h.new (.cells (List.replicate n .nils) false)) (.sl h.next 0 n n 1 true) (List.replicate n []) := by
  refine ⟨List.replicate n .nils, ⟨?_, by simp, fun i r L hr hL => ?_⟩, ?_, fun d hd => ?_, Keep.new (Nat.le_refl _) _⟩
  · have := Mine.new (sz := 1) (n := n) (m := n) h (List.replicate n AV.nils) (by simp) (Nat.le_refl _) (by simp) true
    simpa using this
  · have e1 := List.eq_of_mem_replicate (List.mem_of_getElem? hr)
    have e2 := List.eq_of_mem_replicate (List.mem_of_getElem? hL)
    subst e1 e2
    exact Mine.nil 1 _
  · have : ∀ m, blks (List.replicate m AV.nils) = [] := fun m => by
      induction m with
      | zero => rfl
      | succ m ih => rw [List.replicate_succ, blks_cons, ih]; rfl
    unfold Apart
    rw [blks_cons, this]
    simp
  · have : ∀ m, blks (List.replicate m AV.nils) = [] := fun m => by
      induction m with
      | zero => rfl
      | succ m ih => rw [List.replicate_succ, blks_cons, ih]; rfl
    rw [blks_cons, this] at hd
    simp at hd
    omega
end Go.Proofs.Ytcgafaecdjbmiaa
