/- Rows over the field of 256: sums of rows, what they span, how many they are. -/
import Derived.Test.YtcgafaecdjbmiaaFieldB
namespace Go.Proofs.Ytcgafaecdjbmiaa
set_option linter.unusedSimpArgs false
set_option linter.unusedVariables false

abbrev Vc := List UInt8
abbrev Mt := List Vc
def smul (c : UInt8) (v : Vc) : Vc := v.map (gm c)
def zv (n : Nat) : Vc := List.replicate n 0
/-- The rows M, each so many times as u says. -/
def lc (n : Nat) : Vc → Mt → Vc
  | x :: u, r :: M => addL (smul x r) (lc n u M)
  | _, _ => zv n
def RowsN (n : Nat) (M : Mt) : Prop := ∀ r, r ∈ M → r.length = n
@[simp] theorem smul_len (c : UInt8) (v : Vc) : (smul c v).length = v.length := by simp [smul]
@[simp] theorem zv_len (n : Nat) : (zv n).length = n := by simp [zv]
theorem addL_len {a b : Vc} (h : a.length = b.length) : (addL a b).length = a.length := by simp [addL, h]
theorem addL_get (a b : Vc) (j : Nat) (h : a.length = b.length) : (addL a b)[j]?.getD 0 = a[j]?.getD 0 ^^^ b[j]?.getD 0 := by
  unfold addL
  rw [List.getElem?_zipWith]
  by_cases hj : j < a.length
  · rw [List.getElem?_eq_getElem hj, List.getElem?_eq_getElem (h ▸ hj)]; rfl
  · rw [List.getElem?_eq_none (by omega), List.getElem?_eq_none (by omega)]; rfl
theorem smul_get (c : UInt8) (v : Vc) (j : Nat) : (smul c v)[j]?.getD 0 = gm c (v[j]?.getD 0) := by
  unfold smul
  rw [List.getElem?_map]
  cases v[j]? with
  | none => simp [gm_zero]
  | some x => rfl
theorem zv_get (n j : Nat) : (zv n)[j]?.getD 0 = 0 := by
  unfold zv
  rw [List.getElem?_replicate]
  split <;> rfl
/-- Rows are the same if their entries are. -/
theorem vc_ext {a b : Vc} (h : a.length = b.length) (e : ∀ j, j < a.length → a[j]?.getD 0 = b[j]?.getD 0) : a = b := by
  refine List.ext_getElem h fun j h1 h2 => ?_
  have := e j h1
  rwa [List.getElem?_eq_getElem h1, List.getElem?_eq_getElem h2] at this
theorem lc_len {n : Nat} : ∀ {u : Vc} {M : Mt}, RowsN n M → (lc n u M).length = n
  | [], M, _ => by simp [lc]
  | x :: u, [], _ => by simp [lc]
  | x :: u, r :: M, h => by
    have hr := h r (List.mem_cons_self ..)
    have ih := lc_len (u := u) (M := M) fun s hs => h s (List.mem_cons_of_mem _ hs)
    simp only [lc]
    rw [addL_len (by rw [smul_len, hr, ih]), smul_len, hr]
theorem RowsN.tl {n : Nat} {r : Vc} {M : Mt} (h : RowsN n (r :: M)) : RowsN n M := fun s hs => h s (List.mem_cons_of_mem _ hs)
theorem RowsN.hd {n : Nat} {r : Vc} {M : Mt} (h : RowsN n (r :: M)) : r.length = n := h r (List.mem_cons_self ..)
def colM (M : Mt) (j : Nat) : Vc := M.map fun r => r[j]?.getD 0
theorem lc_get {n : Nat} (j : Nat) : ∀ {u : Vc} {M : Mt}, RowsN n M → (lc n u M)[j]?.getD 0 = dot u (colM M j)
  | [], M, _ => by simp [lc, dot_nil, zv_get]
  | x :: u, [], _ => by simp [lc, colM, dot_nil', zv_get]
  | x :: u, r :: M, h => by
    have ih := lc_get j (u := u) h.tl
    simp only [lc, colM, List.map_cons]
    rw [addL_get _ _ _ (by rw [smul_len, h.hd, lc_len h.tl]), smul_get, ih, dot_cons]
    rfl
theorem dot_smul (c : UInt8) : ∀ u w : Vc, dot (smul c u) w = gm c (dot u w)
  | [], w => by simp [smul, dot_nil, gm_zero]
  | x :: u, [] => by rw [dot_nil', dot_nil', gm_zero]
  | x :: u, y :: w => by
    have ih := dot_smul c u w
    have e : smul c (x :: u) = gm c x :: smul c u := rfl
    rw [e, dot_cons, dot_cons, ih, gm_xor, gm_assoc]
theorem dot_addL (u w a : Vc) (h : u.length = w.length) : dot (addL u w) a = dot u a ^^^ dot w a := by
  rw [dot_comm, dot_add a u w h, dot_comm a u, dot_comm a w]
theorem dot_zv : ∀ (n : Nat) (w : Vc), dot (zv n) w = 0
  | 0, w => rfl
  | n + 1, [] => dot_nil' _
  | n + 1, y :: w => by
    have : zv (n + 1) = 0 :: zv n := rfl
    rw [this, dot_cons, dot_zv n w, zero_gm]; rfl
section
variable {n : Nat} {M : Mt}
theorem lc_add (h : RowsN n M) {u w : Vc} (e : u.length = w.length) : lc n (addL u w) M = addL (lc n u M) (lc n w M) :=
  vc_ext (by rw [lc_len h, addL_len (by rw [lc_len h, lc_len h]), lc_len h]) fun j _ => by
    rw [lc_get j h, addL_get _ _ _ (by rw [lc_len h, lc_len h]), lc_get j h, lc_get j h, dot_addL _ _ _ e]
theorem lc_smul (h : RowsN n M) (c : UInt8) (u : Vc) : lc n (smul c u) M = smul c (lc n u M) :=
  vc_ext (by rw [smul_len, lc_len h, lc_len h]) fun j _ => by rw [lc_get j h, smul_get, lc_get j h, dot_smul]
theorem lc_zv (h : RowsN n M) (m : Nat) : lc n (zv m) M = zv n :=
  vc_ext (by rw [lc_len h, zv_len]) fun j _ => by rw [lc_get j h, dot_zv, zv_get]
/-- A times B. -/
def mtT (n : Nat) (A B : Mt) : Mt := A.map fun a => lc n a B
theorem mtT_rows (h : RowsN n M) (A : Mt) : RowsN n (mtT n A M) := fun r hr => by
  obtain ⟨a, _, rfl⟩ := List.mem_map.1 hr
  exact lc_len h
/-- .. may be parted. -/
theorem lc_assoc {m : Nat} (h : RowsN n M) : ∀ {u : Vc} {T : Mt}, RowsN m T → lc n (lc m u T) M = lc n u (mtT n T M)
  | [], T, _ => by simp only [lc]; exact lc_zv h m
  | x :: u, [], _ => by simp only [lc, mtT, List.map_nil]; exact lc_zv h m
  | x :: u, t :: T, hT => by
    have ih := lc_assoc h (u := u) hT.tl
    simp only [mtT, List.map_cons, lc] at ih ⊢
    rw [lc_add h (by rw [smul_len, hT.hd, lc_len hT.tl]), lc_smul h, ih]
theorem mtT_assoc {m : Nat} {A B : Mt} (h : RowsN n M) (hB : RowsN m B) : mtT n (mtT m A B) M = mtT n A (mtT n B M) := by
  unfold mtT
  rw [List.map_map]
  refine List.map_congr_left fun a _ => ?_
  exact lc_assoc h hB
end
/-- The rows of Identity. -/
def ev1 (n i : Nat) : Vc := (zv n).set i 1
def idM (n : Nat) : Mt := (List.range n).map (ev1 n)
@[simp] theorem ev1_len (n i : Nat) : (ev1 n i).length = n := by simp [ev1]
theorem ev1_get (n i j : Nat) (hj : j < n) : (ev1 n i)[j]?.getD 0 = if i = j then 1 else 0 := by
  unfold ev1
  by_cases h : i = j
  · subst h
    rw [List.getElem?_set_self (by simpa using hj), if_pos rfl]; rfl
  · rw [List.getElem?_set_ne h, zv_get, if_neg h]
theorem idM_rows (n : Nat) : RowsN n (idM n) := fun r hr => by
  obtain ⟨i, _, rfl⟩ := List.mem_map.1 hr
  simp
@[simp] theorem idM_len (n : Nat) : (idM n).length = n := by simp [idM]
theorem idM_get {n i : Nat} (h : i < n) : (idM n)[i]? = some (ev1 n i) := by simp [idM, h]
theorem dot_ev1 : ∀ (n i : Nat) (w : Vc), i < n → w.length ≤ n → dot (ev1 n i) w = w[i]?.getD 0
  | 0, i, w, h, _ => absurd h (Nat.not_lt_zero i)
  | n + 1, i, [], _, _ => by rw [dot_nil']; rfl
  | n + 1, 0, y :: w, _, _ => by
    have : ev1 (n + 1) 0 = 1 :: zv n := rfl
    rw [this, dot_cons, one_gm, dot_zv]; simp
  | n + 1, i + 1, y :: w, h, hw => by
    have e : ev1 (n + 1) (i + 1) = 0 :: ev1 n i := rfl
    rw [e, dot_cons, zero_gm, dot_ev1 n i w (by omega) (by simpa using hw)]
    simp
theorem colM_id (n j : Nat) (h : j < n) : colM (idM n) j = ev1 n j := by
  refine vc_ext (by simp [colM]) fun i hi => ?_
  have hi : i < n := by simpa [colM] using hi
  unfold colM
  rw [List.getElem?_map, idM_get hi, Option.map_some, Option.getD_some, ev1_get n i j h, ev1_get n j i hi]
  by_cases q : i = j
  · rw [if_pos q, if_pos q.symm]
  · rw [if_neg q, if_neg (Ne.symm q)]
/-- Identity changes nothing. -/
theorem lc_id {n : Nat} {u : Vc} (h : u.length = n) : lc n u (idM n) = u :=
  vc_ext (by rw [lc_len (idM_rows n), h]) fun j hj => by
    rw [lc_len (idM_rows n)] at hj
    rw [lc_get j (idM_rows n), colM_id n j hj, dot_comm, dot_ev1 n j u hj (by omega)]
theorem lc_ev1 {n m : Nat} {M : Mt} (h : RowsN n M) (hm : M.length = m) {i : Nat} {r : Vc} (hr : M[i]? = some r) : lc n (ev1 m i) M = r := by
  have hi := (List.getElem?_eq_some_iff.1 hr).1
  have hrl := h r (List.mem_of_getElem? hr)
  refine vc_ext (by rw [lc_len h, hrl]) fun j _ => ?_
  rw [lc_get j h, dot_ev1 m i _ (by omega) (by simp [colM, hm])]
  unfold colM
  rw [List.getElem?_map, hr]; rfl
theorem mtT_id {n : Nat} {A : Mt} (h : RowsN n A) : mtT n A (idM n) = A := by
  unfold mtT
  conv => rhs; rw [← List.map_id A]
  exact List.map_congr_left fun a ha => lc_id (h a ha)
theorem id_mtT {n m : Nat} {M : Mt} (h : RowsN n M) (hm : M.length = m) : mtT n (idM m) M = M := by
  refine List.ext_getElem? fun i => ?_
  unfold mtT
  rw [List.getElem?_map]
  by_cases hi : i < m
  · obtain ⟨r, hr⟩ : ∃ r, M[i]? = some r := ⟨M[i]'(by omega), by simp⟩
    rw [idM_get hi, hr, Option.map_some, lc_ev1 h hm hr]
  · rw [List.getElem?_eq_none (by simp; omega), List.getElem?_eq_none (by omega)]; rfl
/-- What rows span. -/
def Sp (n : Nat) (M : Mt) (v : Vc) : Prop := ∃ u, u.length = M.length ∧ v = lc n u M
section
variable {n : Nat} {M X : Mt}
theorem Sp.mem (h : RowsN n M) {r : Vc} (hr : r ∈ M) : Sp n M r := by
  obtain ⟨i, hi⟩ := List.getElem?_of_mem hr
  exact ⟨ev1 M.length i, by simp, (lc_ev1 h rfl hi).symm⟩
theorem Sp.zero (h : RowsN n M) : Sp n M (zv n) := ⟨zv M.length, by simp, (lc_zv h _).symm⟩
theorem Sp.add (h : RowsN n M) {v w : Vc} (hv : Sp n M v) (hw : Sp n M w) : Sp n M (addL v w) := by
  obtain ⟨u, e1, rfl⟩ := hv
  obtain ⟨t, e2, rfl⟩ := hw
  exact ⟨addL u t, by rw [addL_len (by omega), e1], (lc_add h (by omega)).symm⟩
theorem Sp.smul (h : RowsN n M) (c : UInt8) {v : Vc} (hv : Sp n M v) : Sp n M (smul c v) := by
  obtain ⟨u, e1, rfl⟩ := hv
  exact ⟨Go.Proofs.Ytcgafaecdjbmiaa.smul c u, by rw [smul_len, e1], (lc_smul h c u).symm⟩
theorem Sp.lc (h : RowsN n M) : ∀ {u : Vc} {T : Mt}, (∀ t, t ∈ T → Sp n M t) → Sp n M (lc n u T)
  | [], T, _ => Sp.zero h
  | x :: u, [], _ => Sp.zero h
  | x :: u, t :: T, hT => Sp.add h (Sp.smul h x (hT t (List.mem_cons_self ..))) (Sp.lc h fun s hs => hT s (List.mem_cons_of_mem _ hs))
theorem Sp.trans (h : RowsN n M) (hX : ∀ r, r ∈ X → Sp n M r) {v : Vc} (hv : Sp n X v) : Sp n M v := by
  obtain ⟨u, _, rfl⟩ := hv
  exact Sp.lc h hX
theorem addL_self : ∀ v : Vc, addL v v = zv v.length
  | [] => rfl
  | x :: v => by
    have : addL (x :: v) (x :: v) = (x ^^^ x) :: addL v v := rfl
    rw [this, addL_self v, UInt8.xor_self]; rfl
theorem addL_zv {v : Vc} {n : Nat} (h : v.length = n) : addL v (zv n) = v :=
  vc_ext (by rw [addL_len (by simpa using h)]) fun j _ => by rw [addL_get _ _ _ (by simpa using h), zv_get, UInt8.xor_zero]
theorem addL_assoc {a b c : Vc} (h1 : a.length = b.length) (h2 : b.length = c.length) : addL (addL a b) c = addL a (addL b c) :=
  vc_ext (by rw [addL_len (by rw [addL_len h1]; omega), addL_len h1, addL_len (by rw [addL_len h2]; omega)]) fun j _ => by
    rw [addL_get _ _ _ (by rw [addL_len h1]; omega), addL_get _ _ _ h1, addL_get _ _ _ (by rw [addL_len h2]; omega), addL_get _ _ _ h2, UInt8.xor_assoc]
theorem addL_cancel {a b : Vc} (h : a.length = b.length) : addL (addL a b) b = a := by
  rw [addL_assoc h rfl, addL_self, addL_zv h]
theorem smul_smul (c d : UInt8) (v : Vc) : smul c (smul d v) = smul (gm c d) v := by
  unfold smul
  rw [List.map_map]
  refine List.map_congr_left fun x _ => ?_
  exact (gm_assoc c d x).symm
theorem smul_one (v : Vc) : smul 1 v = v := by
  unfold smul
  conv => rhs; rw [← List.map_id v]
  exact List.map_congr_left fun x _ => one_gm x
end
/-! How many rows: the pigeon holes. -/
theorem nodup_sub {α : Type} [DecidableEq α] : ∀ {l m : List α}, l.Nodup → (∀ x, x ∈ l → x ∈ m) → l.length ≤ m.length
  | [], m, _, _ => Nat.zero_le _
  | x :: l, m, h, hs => by
    have hx : x ∈ m := hs x (List.mem_cons_self ..)
    have hn := List.nodup_cons.1 h
    have ih := nodup_sub (m := m.erase x) hn.2 fun y hy => (List.mem_erase_of_ne (fun q => hn.1 (by rw [← q]; exact hy))).2 (hs y (List.mem_cons_of_mem _ hy))
    rw [List.length_erase_of_mem hx] at ih
    have := List.length_pos_of_mem hx
    rw [List.length_cons]
    omega
def allB : List UInt8 := (List.range 256).map UInt8.ofNat
def allV : Nat → List Vc
  | 0 => [[]]
  | a + 1 => (allV a).flatMap fun v => allB.map (· :: v)
theorem allB_mem (x : UInt8) : x ∈ allB := List.mem_map.2 ⟨x.toNat, List.mem_range.2 (b_lt x), by simp⟩
theorem allB_nodup : allB.Nodup := by
  unfold allB
  refine List.Pairwise.map _ (R := fun a b => a ≠ b ∧ a < 256 ∧ b < 256) (fun a b h q => ?_) ?_
  · have := congrArg UInt8.toNat q
    rw [ofNat_toNat h.2.1, ofNat_toNat h.2.2] at this
    exact h.1 this
  · have : (List.range 256).Pairwise (· < ·) := List.pairwise_lt_range
    refine List.Pairwise.imp_of_mem (fun {a b} ha hb h => ⟨Nat.ne_of_lt h, List.mem_range.1 ha, List.mem_range.1 hb⟩) this
theorem allV_mem : ∀ {a : Nat} {v : Vc}, v ∈ allV a ↔ v.length = a
  | 0, v => by simp [allV]
  | a + 1, v => by
    simp only [allV, List.mem_flatMap, List.mem_map]
    constructor
    · rintro ⟨w, hw, x, _, rfl⟩
      rw [List.length_cons, allV_mem.1 hw]
    · intro h
      match v, h with
      | x :: w, h => exact ⟨w, allV_mem.2 (by simpa using h), x, allB_mem x, rfl⟩
theorem allV_len : ∀ a : Nat, (allV a).length = 256 ^ a
  | 0 => rfl
  | a + 1 => by
    have : ∀ l : List Vc, (l.flatMap fun v => allB.map (· :: v)).length = l.length * 256 := fun l => by
      induction l with
      | nil => rfl
      | cons v l ih => rw [List.flatMap_cons, List.length_append, ih, List.length_map, List.length_cons, Nat.succ_mul, show allB.length = 256 from by simp [allB], Nat.add_comm]
    rw [allV, this, allV_len a, Nat.pow_succ]
theorem allV_nodup : ∀ a : Nat, (allV a).Nodup
  | 0 => by simp [allV]
  | a + 1 => by
    have key : ∀ l : List Vc, l.Nodup → (l.flatMap fun v => allB.map (· :: v)).Nodup := fun l => by
      induction l with
      | nil => intro _; exact List.nodup_nil
      | cons v l ih =>
        intro h
        have hn := List.nodup_cons.1 h
        rw [List.flatMap_cons, List.nodup_append]
        refine ⟨?_, ih hn.2, fun x hx y hy q => ?_⟩
        · refine List.Pairwise.map _ (R := (· ≠ ·)) (fun a b hne q => hne (List.cons.inj q).1) allB_nodup
        · obtain ⟨c, _, rfl⟩ := List.mem_map.1 hx
          obtain ⟨w, hw, z⟩ := List.mem_flatMap.1 hy
          obtain ⟨d, _, rfl⟩ := List.mem_map.1 z
          have := (List.cons.inj q).2
          subst this
          exact hn.1 hw
    exact key _ (allV_nodup a)
/-- So many places hold no more. -/
theorem dim_le {a b : Nat} (f : Vc → Vc) (hf : ∀ v, v.length = a → (f v).length = b) (inj : ∀ v w, v.length = a → w.length = a → f v = f w → v = w) : a ≤ b := by
  have h1 : ((allV a).map f).Nodup := by
    refine List.Pairwise.map f (R := fun v w => v ≠ w ∧ v.length = a ∧ w.length = a) (fun v w h q => h.1 (inj v w h.2.1 h.2.2 q)) ?_
    exact List.Pairwise.imp_of_mem (fun {v w} hv hw h => ⟨h, allV_mem.1 hv, allV_mem.1 hw⟩) (allV_nodup a)
  have h2 := nodup_sub h1 (m := allV b) fun x hx => by
    obtain ⟨v, hv, rfl⟩ := List.mem_map.1 hx
    exact allV_mem.2 (hf v (allV_mem.1 hv))
  rw [List.length_map, allV_len, allV_len] at h2
  exact (Nat.pow_le_pow_iff_right (by decide)).1 h2
/-- Rows that are apart: what is made of them tells how. -/
def Ind (n : Nat) (M : Mt) : Prop := ∀ v w : Vc, v.length = M.length → w.length = M.length → lc n v M = lc n w M → v = w
theorem Ind.le {n : Nat} {M X : Mt} (I : Ind n M) (hX : RowsN n X) (h : ∀ r, r ∈ M → Sp n X r) : M.length ≤ X.length := by
  -- how each row is made
  have : ∀ L : Mt, (∀ r, r ∈ L → Sp n X r) → ∃ T : Mt, RowsN X.length T ∧ T.length = L.length ∧ mtT n T X = L := by
    intro L
    induction L with
    | nil => exact fun _ => ⟨[], (fun r hr => by cases hr), rfl, rfl⟩
    | cons r L ih =>
      intro hL
      obtain ⟨T, h1, h2, h3⟩ := ih fun s hs => hL s (List.mem_cons_of_mem _ hs)
      obtain ⟨u, e1, e2⟩ := hL r (List.mem_cons_self ..)
      exact ⟨u :: T, fun s hs => (List.mem_cons.1 hs).elim (fun q => by rw [q]; exact e1) (h1 s), by simp [h2], by rw [← h3, e2]; rfl⟩
  obtain ⟨T, h1, h2, h3⟩ := this M h
  refine dim_le (fun u => lc X.length u T) (fun v _ => lc_len h1) fun v w hv hw e => I v w hv hw ?_
  rw [← h3, ← lc_assoc hX h1, ← lc_assoc hX h1, e]
end Go.Proofs.Ytcgafaecdjbmiaa
