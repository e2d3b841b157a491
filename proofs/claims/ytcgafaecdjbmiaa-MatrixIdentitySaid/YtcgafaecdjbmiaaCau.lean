/- Cauchy's rows: whichever so many are taken, they are apart. -/
import Derived.Test.YtcgafaecdjbmiaaRank
namespace Go.Proofs.Ytcgafaecdjbmiaa
set_option linter.unusedSimpArgs false
set_option linter.unusedVariables false

instance : Std.Associative gm := ⟨gm_assoc⟩
instance : Std.Commutative gm := ⟨gm_comm⟩
def sm {α : Type} (f : α → UInt8) : List α → UInt8
  | [] => 0
  | a :: l => f a ^^^ sm f l
theorem sm_congr {α : Type} {f g : α → UInt8} : ∀ {l : List α}, (∀ a, a ∈ l → f a = g a) → sm f l = sm g l
  | [], _ => rfl
  | a :: l, h => by simp only [sm]; rw [h a (List.mem_cons_self ..), sm_congr fun b hb => h b (List.mem_cons_of_mem _ hb)]
theorem sm_zero {α : Type} {f : α → UInt8} : ∀ {l : List α}, (∀ a, a ∈ l → f a = 0) → sm f l = 0
  | [], _ => rfl
  | a :: l, h => by simp only [sm]; rw [h a (List.mem_cons_self ..), sm_zero fun b hb => h b (List.mem_cons_of_mem _ hb)]; rfl
theorem sm_filter {α : Type} {f : α → UInt8} {q : α → Bool} : ∀ {l : List α}, (∀ a, a ∈ l → q a = false → f a = 0) → sm f l = sm f (l.filter q)
  | [], _ => rfl
  | a :: l, h => by
    have ih := sm_filter (f := f) (q := q) (l := l) fun b hb => h b (List.mem_cons_of_mem _ hb)
    cases hq : q a with
    | true => rw [List.filter_cons_of_pos hq]; simp only [sm]; rw [ih]
    | false => rw [List.filter_cons_of_neg (by simp [hq])]; simp only [sm]; rw [h a (List.mem_cons_self ..) hq, ih, UInt8.zero_xor]
theorem sm_map {α β : Type} {f : β → UInt8} {g : α → β} : ∀ l : List α, sm f (l.map g) = sm (fun a => f (g a)) l
  | [] => rfl
  | a :: l => by simp only [sm, List.map_cons]; rw [sm_map l]
theorem sm_mul {α : Type} {f : α → UInt8} (c : UInt8) : ∀ l : List α, gm c (sm f l) = sm (fun a => gm c (f a)) l
  | [] => gm_zero c
  | a :: l => by simp only [sm]; rw [gm_xor, sm_mul c l]
theorem sm_add {α : Type} {f g : α → UInt8} : ∀ l : List α, sm f l ^^^ sm g l = sm (fun a => f a ^^^ g a) l
  | [] => UInt8.xor_zero
  | a :: l => by simp only [sm]; rw [xor4b, sm_add l]
theorem sm_one {α : Type} {f : α × UInt8 → UInt8} : ∀ {l : List (α × UInt8)} {p : α × UInt8}, (l.map (·.1)).Nodup → p ∈ l → (∀ q, q ∈ l → q.1 ≠ p.1 → f q = 0) → sm f l = f p
  | [], p, _, hp, _ => by cases hp
  | a :: l, p, hn, hp, h => by
    rw [List.map_cons, List.nodup_cons] at hn
    simp only [sm]
    rcases List.mem_cons.1 hp with rfl | hp
    · rw [sm_zero fun q hq => h q (List.mem_cons_of_mem _ hq) fun e => hn.1 (List.mem_map.2 ⟨q, hq, e⟩), UInt8.xor_zero]
    · rw [h a (List.mem_cons_self ..) (fun e => hn.1 (List.mem_map.2 ⟨p, hp, e.symm⟩)), UInt8.zero_xor]
      exact sm_one hn.2 hp fun q hq => h q (List.mem_cons_of_mem _ hq)
theorem dot_sm (g : Nat → UInt8) : ∀ (w : Vc) (sel : List Nat), dot w (sel.map g) = sm (fun p : Nat × UInt8 => gm p.2 (g p.1)) (sel.zip w)
  | [], sel => by simp [dot_nil, sm]
  | x :: w, [] => by simp [dot_nil', sm]
  | x :: w, s :: sel => by simp only [List.map_cons, List.zip_cons_cons, sm]; rw [dot_cons, dot_sm g w sel]
theorem xor_ne {a b : UInt8} (h : a ≠ b) : a ^^^ b ≠ 0 := fun q => h (UInt8.xor_eq_zero_iff.1 q)
theorem mul_shift (a b c : UInt8) : gm a (gm b c) = gm b (gm a c) := by rw [← gm_assoc, gm_comm a b, gm_assoc]
/-- One summand: the sums of two columns. -/
theorem cau_one {s1 s w j j0 : UInt8} (h : s ≠ j) (h0 : s ≠ j0) :
    gm (j ^^^ j0) (gm (gm w (gm (s1 ^^^ s) (gi (s ^^^ j0)))) (gi (s ^^^ j))) = gm (s1 ^^^ j) (gm w (gi (s ^^^ j))) ^^^ gm (s1 ^^^ j0) (gm w (gi (s ^^^ j0))) := by
  have e1 : s1 ^^^ j = (s1 ^^^ s) ^^^ (s ^^^ j) := by rw [UInt8.xor_assoc, ← UInt8.xor_assoc s s j, UInt8.xor_self, UInt8.zero_xor]
  have e2 : s1 ^^^ j0 = (s1 ^^^ s) ^^^ (s ^^^ j0) := by rw [UInt8.xor_assoc, ← UInt8.xor_assoc s s j0, UInt8.xor_self, UInt8.zero_xor]
  have e3 : j ^^^ j0 = (s ^^^ j) ^^^ (s ^^^ j0) := by
    rw [UInt8.xor_comm s j, UInt8.xor_assoc, ← UInt8.xor_assoc s s j0, UInt8.xor_self, UInt8.zero_xor]
  rw [e1, e2, e3]
  have i1 := gm_gi (xor_ne h)
  have i2 := gm_gi (xor_ne h0)
  generalize s ^^^ j = a at *
  generalize s ^^^ j0 = a0 at *
  generalize s1 ^^^ s = d at *
  generalize gi a = ia at *
  generalize gi a0 = ia0 at *
  have l1 : gm a (gm (gm w (gm d ia0)) ia) = gm d (gm w ia0) := by
    have : gm a (gm (gm w (gm d ia0)) ia) = gm (gm a ia) (gm d (gm w ia0)) := by ac_rfl
    rw [this, i1, one_gm]
  have l2 : gm a0 (gm (gm w (gm d ia0)) ia) = gm d (gm w ia) := by
    have : gm a0 (gm (gm w (gm d ia0)) ia) = gm (gm a0 ia0) (gm d (gm w ia)) := by ac_rfl
    rw [this, i2, one_gm]
  have r1 : gm a (gm w ia) = w := by
    have : gm a (gm w ia) = gm (gm a ia) w := by ac_rfl
    rw [this, i1, one_gm]
  have r2 : gm a0 (gm w ia0) = w := by
    have : gm a0 (gm w ia0) = gm (gm a0 ia0) w := by ac_rfl
    rw [this, i2, one_gm]
  rw [xor_gm, xor_gm, xor_gm, l1, l2, r1, r2, xor4b, UInt8.xor_self, UInt8.xor_zero, UInt8.xor_comm]
/-- So many summands that come to nought at so many places are nought. -/
theorem cau_zero : ∀ (L : List (UInt8 × UInt8)) (J : List UInt8), L.length = J.length → (L.map (·.1)).Nodup → J.Nodup → (∀ p, p ∈ L → ∀ j, j ∈ J → p.1 ≠ j) → (∀ j, j ∈ J → sm (fun p : UInt8 × UInt8 => gm p.2 (gi (p.1 ^^^ j))) L = 0) → ∀ p, p ∈ L → p.2 = 0
  | [], _, _, _, _, _, _, p, hp => by cases hp
  | (s1, w1) :: L, [], h, _, _, _, _, _, _ => by cases h
  | (s1, w1) :: L, j0 :: J, h, hs, hj, hd, h0, p, hp => by
    rw [List.map_cons, List.nodup_cons] at hs
    rw [List.nodup_cons] at hj
    have f0 := h0 j0 (List.mem_cons_self ..)
    simp only [sm] at f0
    have ih := cau_zero (L.map fun p => (p.1, gm p.2 (gm (s1 ^^^ p.1) (gi (p.1 ^^^ j0))))) J (by simpa using h) (by rw [List.map_map]; exact hs.2) hj.2 (fun p hp j hjJ => by
        obtain ⟨q, hq, rfl⟩ := List.mem_map.1 hp
        exact hd q (List.mem_cons_of_mem _ hq) j (List.mem_cons_of_mem _ hjJ)) fun j hjJ => by
      have fj := h0 j (List.mem_cons_of_mem _ hjJ)
      simp only [sm] at fj
      have hne : j ≠ j0 := fun q => hj.1 (by rw [← q]; exact hjJ)
      have d1 : s1 ≠ j := hd (s1, w1) (List.mem_cons_self ..) j (List.mem_cons_of_mem _ hjJ)
      have d0 : s1 ≠ j0 := hd (s1, w1) (List.mem_cons_self ..) j0 (List.mem_cons_self ..)
      have key : gm (j ^^^ j0) (sm (fun p : UInt8 × UInt8 => gm p.2 (gi (p.1 ^^^ j))) (L.map fun p => (p.1, gm p.2 (gm (s1 ^^^ p.1) (gi (p.1 ^^^ j0)))))) = 0 := by
        rw [sm_map, sm_mul, sm_congr (g := fun p : UInt8 × UInt8 => gm (s1 ^^^ j) (gm p.2 (gi (p.1 ^^^ j))) ^^^ gm (s1 ^^^ j0) (gm p.2 (gi (p.1 ^^^ j0)))) fun p hp => cau_one (hd p (List.mem_cons_of_mem _ hp) j (List.mem_cons_of_mem _ hjJ)) (hd p (List.mem_cons_of_mem _ hp) j0 (List.mem_cons_self ..)), ← sm_add, ← sm_mul, ← sm_mul]
        have a1 : sm (fun p : UInt8 × UInt8 => gm p.2 (gi (p.1 ^^^ j))) L = gm w1 (gi (s1 ^^^ j)) := (UInt8.xor_eq_zero_iff.1 fj).symm
        have a2 : sm (fun p : UInt8 × UInt8 => gm p.2 (gi (p.1 ^^^ j0))) L = gm w1 (gi (s1 ^^^ j0)) := (UInt8.xor_eq_zero_iff.1 f0).symm
        rw [a1, a2, mul_shift, gm_gi (xor_ne d1), mul_shift, gm_gi (xor_ne d0), UInt8.xor_self]
      exact ((gm_eq_zero _ _).1 key).resolve_left (xor_ne hne)
    have tl : ∀ q, q ∈ L → q.2 = 0 := fun q hq => by
      have := ih _ (List.mem_map.2 ⟨q, hq, rfl⟩)
      simp only at this
      have n1 : s1 ≠ q.1 := fun e => hs.1 (List.mem_map.2 ⟨q, hq, e.symm⟩)
      rcases (gm_eq_zero _ _).1 this with z | z
      · exact z
      · rcases (gm_eq_zero _ _).1 z with z | z
        · exact absurd z (xor_ne n1)
        · exact absurd z (gi_ne (xor_ne (hd q (List.mem_cons_of_mem _ hq) j0 (List.mem_cons_self ..))))
    rcases List.mem_cons.1 hp with rfl | hp
    · rw [sm_zero fun q hq => by rw [tl q hq, zero_gm], UInt8.xor_zero] at f0
      rcases (gm_eq_zero _ _).1 f0 with z | z
      · exact z
      · exact absurd z (gi_ne (xor_ne (hd (s1, w1) (List.mem_cons_self ..) j0 (List.mem_cons_self ..))))
    · exact tl p hp
/-! The rows. -/
def gB (k s j : Nat) : UInt8 := if s < k then (if s = j then 1 else 0) else gi (UInt8.ofNat s ^^^ UInt8.ofNat j)
def cauR (k s : Nat) : Vc := (List.range k).map (gB k s)
def cauM (k m : Nat) : Mt := (List.range (k + m)).map (cauR k)
@[simp] theorem cauR_len (k s : Nat) : (cauR k s).length = k := by simp [cauR]
theorem cauM_rows (k m : Nat) : RowsN k (cauM k m) := fun r hr => by
  obtain ⟨s, _, rfl⟩ := List.mem_map.1 hr
  simp
theorem cauR_id {k s : Nat} (h : s < k) : cauR k s = ev1 k s := by
  refine vc_ext (by simp) fun j hj => ?_
  have hj : j < k := by simpa using hj
  rw [ev1_get k s j hj]
  unfold cauR gB
  rw [List.getElem?_map, List.getElem?_range hj]
  simp [h]
theorem ofNat_ne {a b : Nat} (ha : a < 256) (hb : b < 256) (h : a ≠ b) : UInt8.ofNat a ≠ UInt8.ofNat b := fun q => h (by
  have := congrArg UInt8.toNat q
  rwa [ofNat_toNat ha, ofNat_toNat hb] at this)
theorem filter_split {α : Type} (q : α → Bool) (l : List α) : (l.filter q).length + (l.filter fun a => !q a).length = l.length := by
  induction l with
  | nil => rfl
  | cons a l ih => cases h : q a <;> simp [h] <;> omega
theorem cau_apart {k : Nat} (hk : k ≤ 200) {sel : List Nat} (hl : sel.length = k) (hn : sel.Nodup) (hs : ∀ s, s ∈ sel → s < 256) : rankA k (sel.map (cauR k)) = k := by
  have hR : RowsN k (sel.map (cauR k)) := fun r hr => by
    obtain ⟨s, _, rfl⟩ := List.mem_map.1 hr
    simp
  have := rank_full hR fun w hw e => ?_
  · rw [this, List.length_map, hl]
  rw [List.length_map, hl] at hw ⊢
  have z1 : (sel.zip w).map (·.1) = sel := List.map_fst_zip (by omega)
  have col : ∀ j, j < k → sm (fun p : Nat × UInt8 => gm p.2 (gB k p.1 j)) (sel.zip w) = 0 := fun j hj => by
    have := congrArg (fun x : Vc => x[j]?.getD 0) e
    simp only [lc_get j hR, zv_get] at this
    rw [← dot_sm (fun s => gB k s j), ← this]
    congr 1
    unfold colM
    rw [List.map_map]
    refine List.map_congr_left fun s _ => ?_
    show gB k s j = _
    simp only [Function.comp]
    unfold cauR
    rw [List.getElem?_map, List.getElem?_range hj]; rfl
  -- Cauchy's own
  have cz : ∀ p, p ∈ sel.zip w → k ≤ p.1 → p.2 = 0 := by
    have nd : ((sel.zip w).filter fun p => decide (k ≤ p.1)).map (·.1) = sel.filter fun s => decide (k ≤ s) := by
      conv => rhs; rw [← z1]
      rw [List.filter_map]; rfl
    have mz : ∀ p, p ∈ sel.zip w → p.1 ∈ sel := fun p hp => by rw [← z1]; exact List.mem_map.2 ⟨p, hp, rfl⟩
    have n1 := filter_split (fun s => decide (k ≤ s)) sel
    have n2 := filter_split (fun j => decide (j ∈ sel)) (List.range k)
    have n3 : ((List.range k).filter fun j => decide (j ∈ sel)).length = (sel.filter fun s => !decide (k ≤ s)).length := by
      refine Nat.le_antisymm (nodup_sub ((List.nodup_range).filter _) fun x hx => ?_) (nodup_sub (hn.filter _) fun x hx => ?_)
      · rw [List.mem_filter] at hx ⊢
        have a := List.mem_range.1 hx.1
        exact ⟨by simpa using hx.2, by simpa using a⟩
      · rw [List.mem_filter] at hx ⊢
        exact ⟨List.mem_range.2 (by simpa using hx.2), by simpa using hx.1⟩
    rw [List.length_range] at n2
    have := cau_zero (((sel.zip w).filter fun p => decide (k ≤ p.1)).map fun p => (UInt8.ofNat p.1, p.2)) (((List.range k).filter fun j => !decide (j ∈ sel)).map UInt8.ofNat)
      (by
        have := congrArg List.length nd
        rw [List.length_map] at this
        rw [List.length_map, List.length_map, this]
        omega)
      (by
        rw [List.map_map]
        have e : ((sel.zip w).filter fun p => decide (k ≤ p.1)).map ((·.1) ∘ fun p : Nat × UInt8 => (UInt8.ofNat p.1, p.2)) = (sel.filter fun s => decide (k ≤ s)).map UInt8.ofNat := by
          rw [← nd, List.map_map]; rfl
        rw [e]
        refine List.Pairwise.map _ (R := fun a b => a ≠ b ∧ a < 256 ∧ b < 256) (fun a b h => ofNat_ne h.2.1 h.2.2 h.1) ?_
        exact List.Pairwise.imp_of_mem (fun {a b} ha hb h => ⟨h, hs a ((List.mem_filter.1 ha).1), hs b ((List.mem_filter.1 hb).1)⟩) (hn.filter _))
      (by
        refine List.Pairwise.map _ (R := fun a b => a ≠ b ∧ a < 256 ∧ b < 256) (fun a b h => ofNat_ne h.2.1 h.2.2 h.1) ?_
        exact List.Pairwise.imp_of_mem (fun {a b} ha hb h => ⟨h, by have := List.mem_range.1 ((List.mem_filter.1 ha).1); omega, by have := List.mem_range.1 ((List.mem_filter.1 hb).1); omega⟩) ((List.nodup_range).filter _))
      (fun p hp j hj => by
        obtain ⟨q, hq, rfl⟩ := List.mem_map.1 hp
        obtain ⟨i, hi, rfl⟩ := List.mem_map.1 hj
        have a := (List.mem_filter.1 hq).2
        have b := List.mem_range.1 ((List.mem_filter.1 hi).1)
        simp only [decide_eq_true_eq] at a
        exact ofNat_ne (hs _ (mz q ((List.mem_filter.1 hq).1))) (by omega) (by omega))
      (fun j hj => by
        obtain ⟨i, hi, rfl⟩ := List.mem_map.1 hj
        have b := List.mem_range.1 ((List.mem_filter.1 hi).1)
        have c := (List.mem_filter.1 hi).2
        have := col i b
        rw [sm_filter (q := fun p => decide (k ≤ p.1)) fun p hp hq => ?_] at this
        · rw [sm_map, ← this]
          refine sm_congr fun p hp => ?_
          have a := (List.mem_filter.1 hp).2
          simp only [decide_eq_true_eq] at a
          unfold gB
          rw [if_neg (by omega)]
        · have hq : ¬ k ≤ p.1 := by simpa using hq
          have hne : p.1 ≠ i := fun e => by
            have := mz p hp
            rw [e] at this
            simp [this] at c
          unfold gB
          rw [if_pos (by omega), if_neg hne, gm_zero])
    intro p hp hkp
    exact this (UInt8.ofNat p.1, p.2) (List.mem_map.2 ⟨p, List.mem_filter.2 ⟨hp, by simpa using hkp⟩, rfl⟩)
  refine vc_ext (by simp [hw]) fun i hi => ?_
  rw [zv_get]
  obtain ⟨x, hx⟩ : ∃ x, w[i]? = some x := ⟨w[i], by simp⟩
  obtain ⟨s, hsx⟩ : ∃ s, sel[i]? = some s := ⟨sel[i]'(by omega), by simp⟩
  have hz : (sel.zip w)[i]? = some (s, x) := by rw [List.getElem?_zip_eq_some]; exact ⟨hsx, hx⟩
  have hm := List.mem_of_getElem? hz
  rw [hx, Option.getD_some]
  by_cases hks : k ≤ s
  · exact cz (s, x) hm hks
  · have := col s (by omega)
    rw [sm_one (p := (s, x)) (by rw [z1]; exact hn) hm fun q hq hne => ?_] at this
    · simpa only [gB, if_pos (show s < k by omega), if_true, gm_one] using this
    · by_cases hkq : k ≤ q.1
      · rw [cz q hq hkq, zero_gm]
      · unfold gB
        rw [if_pos (by omega), if_neg hne, gm_zero]
end Go.Proofs.Ytcgafaecdjbmiaa
