/- What is one's own: slices in blocks of their own, rows of such, and that they stand apart. -/
import Derived.Test.YtcgafaecdjbmiaaAbsR
namespace Go.YtcgafaecdjbmiaaAbs
open Go Go.RowKit
set_option linter.unusedSimpArgs false
set_option linter.unusedVariables false

/-- The block where a value's thing stands. -/
def AV.at? : AV → Option Nat
  | .sl b _ _ _ _ _ => some b
  | .ptr b _ => some b
  | .mp b => some b
  | _ => none
@[simp] theorem at_sl (b i n c z : Nat) (x : Bool) : (AV.sl b i n c z x).at? = some b := rfl
@[simp] theorem at_ptr (b i : Nat) : (AV.ptr b i).at? = some b := rfl
@[simp] theorem at_mp (b : Nat) : (AV.mp b).at? = some b := rfl
@[simp] theorem at_nils : (AV.nils).at? = none := rfl
@[simp] theorem at_nilp : (AV.nilp).at? = none := rfl
@[simp] theorem at_emp : (AV.emp).at? = none := rfl
@[simp] theorem at_int (k : IntKind) (n : Int) : (AV.int k n).at? = none := rfl
@[simp] theorem at_str (s : ByteArray) : (AV.str s).at? = none := rfl
@[simp] theorem at_bool (b : Bool) : (AV.bool b).at? = none := rfl
/-- It stands in a block. -/
def Has (v : AV) (c : Nat) : Prop := v.at? = some c
/-- A slice in a block of its own. -/
def Mine (sz n : Nat) (h : Heap) (v : AV) (l : List AV) : Prop := Vec h.next (Has v) sz n h v l
/-- A value's block is the one that it was, or a new one. -/
def From (h : Heap) (v v' : AV) : Prop := ∀ c, Has v' c → Has v c ∨ h.next ≤ c

section
variable {sz n : Nat} {h h' : Heap} {v : AV} {l : List AV}
theorem Mine.sl (r : Mine sz n h v l) : Sl sz n h v l := Vec.sl r
theorem Mine.length (r : Mine sz n h v l) : l.length = n * sz := r.sl.length
theorem Mine.nil (sz : Nat) (h : Heap) : Mine sz 0 h .nils [] := Vec.nil _ _ _ _
theorem Vec.mine {m : Nat} {F : Nat → Prop} (r : Vec m F sz n h v l) : Mine sz n h v l := by
  rcases r with r | ⟨b, i, cap, ex, c, rfl, r2, r3⟩
  · exact .inl r
  · exact .inr ⟨b, i, cap, ex, c, rfl, .inl rfl, r3⟩
theorem Vec.from {m : Nat} {F : Nat → Prop} (r : Vec m F sz n h v l) {c : Nat} (hc : Has v c) : F c ∨ m ≤ c := by
  rcases r with ⟨rfl, _⟩ | ⟨b, i, cap, ex, c', rfl, r2, r3⟩
  · cases hc
  · cases hc; exact r2
theorem Mine.lt (r : Mine sz n h v l) {c : Nat} (hc : Has v c) : c < h.next := by
  rcases r with ⟨rfl, _⟩ | ⟨b, i, cap, ex, c', rfl, r2, r3, _⟩
  · cases hc
  · cases hc; exact r3
theorem Mine.one (r : Mine sz n h v l) : l.all AV.one = true := Vec.one r
theorem Mine.oneV (r : Mine sz n h v l) : v.one = true := r.sl.oneV
theorem Mine.keep {F : Nat → Prop} (r : Mine sz n h v l) (K : Keep h.next F h h') (hv : ∀ c, Has v c → ¬ F c) : Mine sz n h' v l := by
  have : Vec h.next (Has v) sz n h' v l := Vec.keep r K fun b i n c s x q => by
    subst q
    exact ⟨r.lt rfl, hv b rfl⟩
  exact this.mine
theorem Mine.ext (r : Mine sz n h v l) (K : Keep h.next nob h h') : Mine sz n h' v l := r.keep K fun _ _ q => q
theorem Mine.blk (r : Mine sz n h v l) (hn : 0 < n) : Has v v.blk := by
  rcases r with ⟨rfl, _, rfl⟩ | ⟨b, i, cap, ex, c', rfl, r2, r3, _⟩
  · omega
  · rfl
theorem Mine.append {P : Program} {st xt e : TypeId} {by_ : Nat} (E : Elem P st e sz by_) (hx : okApp (P.underlying xt) = true) (V : Mine sz n h v l)
    {x : AV} {k : Nat} {new : List AV} (x1 : alen x = some k) (x2 : acells h sz k x = some new) (x3 : new.all AV.one = true) (x4 : new.length = k * sz) (hf : n + k ≤ 1000000000) :
    ∃ v' h', aappend P h st xt v x = some (v', h') ∧ Mine sz (n + k) h' v' (l ++ new) ∧ From h v v' ∧ Keep h.next (Has v) h h' := by
  obtain ⟨v', h', a1, a2, a3⟩ := vec_append E hx V x1 x2 x3 x4 hf (Nat.le_refl _)
  exact ⟨v', h', a1, a2.mine, fun c hc => a2.from hc, a3⟩
theorem Mine.push {P : Program} {st e : TypeId} {by_ : Nat} (E : Elem P st e sz by_) (V : Mine sz n h v l) {a : List AV} {ex : Bool} (x3 : a.all AV.one = true) (x4 : a.length = sz) (hf : n < 1000000000) :
    ∃ v' h', aappend P (h.new (.cells a false)) st st v (.sl h.next 0 1 1 sz ex) = some (v', h') ∧ Mine sz (n + 1) h' v' (l ++ a) ∧ From h v v' ∧ Keep h.next (Has v) h h' := by
  obtain ⟨v', h', a1, a2, a3⟩ := vec_push E V (ex := ex) x3 x4 hf (Nat.le_refl _)
  exact ⟨v', h', a1, a2.mine, fun c hc => a2.from hc, a3⟩
theorem Mine.lay (r : Mine sz n h v l) {j : Nat} {vs : List AV} (hj : j + vs.length ≤ l.length) (h0 : 0 < n) (ho : vs.all AV.one = true) :
    ∃ h', alay h v.blk (v.off + j) vs = some h' ∧ Mine sz n h' v (l.take j ++ vs ++ l.drop (j + vs.length)) ∧ Keep h.next (Has v) h h' ∧ h'.next = h.next := by
  obtain ⟨h', a1, a2, a3, a4, _⟩ := Vec.lay r hj h0 ho
  exact ⟨h', a1, a2.mine, a3, a4⟩
theorem Mine.lay1 (r : Mine 1 n h v l) {j : Nat} {x : AV} (hj : j < n) (ho : x.one = true) :
    ∃ h', alay h v.blk (v.off + j) [x] = some h' ∧ Mine 1 n h' v (l.set j x) ∧ Keep h.next (Has v) h h' ∧ h'.next = h.next := by
  obtain ⟨h', a1, a2, a3, a4, _⟩ := Vec.lay1 r hj ho
  exact ⟨h', a1, a2.mine, a3, a4⟩
/-- Its first elements. -/
theorem Mine.to (r : Mine sz n h v l) {P : Program} {ty e : TypeId} (hu : P.underlying ty = some (.slice e)) (hs : tsize P e = some sz) {k : IntKind} {j : Nat} (hj : j ≤ n) :
    ∃ v', aslice P ty v none (some (.int k (j : Nat))) none = some v' ∧ Mine sz j h v' (l.take (j * sz)) ∧ v'.at? = v.at? := by
  rcases r with ⟨rfl, rfl, rfl⟩ | ⟨b, i, cap, ex, c, rfl, r2, r3, r4, r5, r6, r7, r8, r9⟩
  · obtain rfl : j = 0 := by omega
    exact ⟨.nils, by simp [aslice, hu, hs, abnds, abound], .inl ⟨rfl, by simp, rfl⟩, rfl⟩
  · have hle : j * sz ≤ n * sz := Nat.mul_le_mul_right _ hj
    refine ⟨.sl b i j cap sz ex, ?_, .inr ⟨b, i, cap, ex, c, rfl, .inl rfl, r3, r4, ?_, r6, by omega, ?_, ?_⟩, rfl⟩
    · have : (j : Int) ≤ (cap : Int) := by omega
      simp [aslice, hu, hs, asub, abnds, abound, this]
    · rw [List.length_take, r5, Nat.min_eq_left hle]
    · rw [← r8, List.take_take, Nat.min_eq_left hle]
    · exact List.all_eq_true.2 fun x hx => List.all_eq_true.1 r9 x (List.mem_of_mem_take hx)
/-- A new block as a slice. -/
theorem Mine.new {m : Nat} (h : Heap) (c : List AV) (hc : c.length = m * sz) (hn : n ≤ m) (ho : (c.take (n * sz)).all AV.one = true) (ex : Bool) : Mine sz n (h.new (.cells c false)) (.sl h.next 0 n m sz ex) (c.take (n * sz)) :=
  .inr ⟨h.next, 0, m, ex, c, rfl, .inl rfl, Nat.lt_succ_self _, get_new_self _ _, by rw [List.length_take, hc, Nat.min_eq_left (Nat.mul_le_mul_right _ hn)], by omega, hn, by simp, ho⟩
end
theorem From.refl (h : Heap) (v : AV) : From h v v := fun _ hc => .inl hc

/-- Blocks of values. -/
def blks (l : List AV) : List Nat := l.filterMap AV.at?
theorem mem_blks {l : List AV} {c : Nat} : c ∈ blks l ↔ ∃ v ∈ l, Has v c := by unfold blks Has; rw [List.mem_filterMap]
@[simp] theorem blks_nil : blks [] = [] := rfl
theorem blks_cons (v : AV) (l : List AV) : blks (v :: l) = (match v.at? with | some c => [c] | none => []) ++ blks l := by
  unfold blks
  rw [List.filterMap_cons]
  cases v.at? <;> rfl
theorem blks_append (l m : List AV) : blks (l ++ m) = blks l ++ blks m := by unfold blks; exact List.filterMap_append
/-- No two of them stand in one block. -/
def Apart (l : List AV) : Prop := (blks l).Nodup
theorem Apart.get {l : List AV} (a : Apart l) {i j : Nat} {v w : AV} (hi : l[i]? = some v) (hj : l[j]? = some w) {c : Nat} (hv : Has v c) (hw : Has w c) : i = j := by
  induction l generalizing i j with
  | nil => simp at hi
  | cons x l ih =>
    unfold Apart at a ih
    rw [blks_cons, List.nodup_append] at a
    obtain ⟨a1, a2, a3⟩ := a
    have key : ∀ {k : Nat} {u : AV}, l[k]? = some u → Has u c → Has x c → False := fun {k u} hk hu hx => by
      have hx' : x.at? = some c := hx
      rw [hx'] at a3
      exact a3 c (by simp) c (mem_blks.2 ⟨u, List.mem_of_getElem? hk, hu⟩) rfl
    cases i with
    | zero =>
      cases j with
      | zero => rfl
      | succ j => simp at hi hj; subst hi; exact (key hj hw hv).elim
    | succ i =>
      cases j with
      | zero => simp at hi hj; subst hj; exact (key hi hv hw).elim
      | succ j => simp at hi hj; rw [ih a2 hi hj]
/-- One of them is put in place of another one whose block was the same, or that is new. -/
theorem Apart.set {l : List AV} (a : Apart l) {i : Nat} {v v' : AV} (hi : l[i]? = some v) (hn : ∀ c, Has v' c → Has v c ∨ c ∉ blks l) : Apart (l.set i v') := by
  induction l generalizing i with
  | nil => simp at hi
  | cons x l ih =>
    unfold Apart at a ih ⊢
    have a0 := a
    rw [blks_cons, List.nodup_append] at a
    obtain ⟨a1, a2, a3⟩ := a
    cases i with
    | zero =>
      simp at hi
      subst hi
      simp only [List.set_cons_zero]
      rw [blks_cons, List.nodup_append]
      refine ⟨?_, a2, fun c hc d hd => ?_⟩
      · cases v'.at? <;> simp
      · intro q
        subst q
        have hc' : Has v' c := by
          unfold Has
          cases hq : v'.at? with
          | none => rw [hq] at hc; cases hc
          | some e => rw [hq] at hc; simp at hc; rw [hc]
        rcases hn c hc' with h1 | h1
        · have h1' : x.at? = some c := h1
          rw [h1'] at a3
          exact a3 c (by simp) c hd rfl
        · exact h1 (by rw [blks_cons]; simp [hd])
    | succ i =>
      simp at hi
      simp only [List.set_cons_succ]
      rw [blks_cons, List.nodup_append]
      refine ⟨a1, ih a2 hi (fun c hc => ?_), fun c hc d hd => ?_⟩
      · rcases hn c hc with h1 | h1
        · exact .inl h1
        · exact .inr fun q => h1 (by rw [blks_cons]; simp [q])
      · intro q
        subst q
        obtain ⟨u, hu, hu'⟩ := mem_blks.1 hd
        rcases List.mem_or_eq_of_mem_set hu with h1 | h1
        · exact a3 c hc c (mem_blks.2 ⟨u, h1, hu'⟩) rfl
        · subst h1
          rcases hn c hu' with h2 | h2
          · exact a3 c hc c (mem_blks.2 ⟨v, List.mem_of_getElem? hi, h2⟩) rfl
          · exact h2 (by rw [blks_cons]; simp [hc])
theorem blks_set {l : List AV} {i : Nat} {v' : AV} {c : Nat} (h : c ∈ blks (l.set i v')) : Has v' c ∨ c ∈ blks l := by
  obtain ⟨u, hu, hu'⟩ := mem_blks.1 h
  rcases List.mem_or_eq_of_mem_set hu with h1 | h1
  · exact .inr (mem_blks.2 ⟨u, h1, hu'⟩)
  · subst h1; exact .inl hu'
theorem blks_set' {l : List AV} {i : Nat} {v' : AV} {c : Nat} (h : c ∈ blks (l.set i v')) : Has v' c ∨ ∃ k u, k ≠ i ∧ l[k]? = some u ∧ Has u c := by
  obtain ⟨u, hu, hu'⟩ := mem_blks.1 h
  obtain ⟨k, hk⟩ := List.getElem?_of_mem hu
  by_cases hki : k = i
  · subst hki
    have hl := (List.getElem?_eq_some_iff.1 hk).1
    rw [List.length_set] at hl
    rw [List.getElem?_set_self hl] at hk
    cases hk
    exact .inl hu'
  · rw [List.getElem?_set_ne (Ne.symm hki)] at hk
    exact .inr ⟨k, u, hki, hk, hu'⟩
theorem Apart.sub {l m : List AV} (a : Apart l) (h : List.Sublist m l) : Apart m := by
  unfold Apart blks at *
  exact List.Nodup.sublist (List.Sublist.filterMap _ h) a

/-! Things one behind the other, each in as many cells. -/
def cat {α : Type} (f : α → List AV) (L : List α) : List AV := (L.map f).flatten
section
variable {α : Type} {f : α → List AV} {sz : Nat}
@[simp] theorem cat_nil : cat f [] = [] := rfl
theorem cat_cons (x : α) (L : List α) : cat f (x :: L) = f x ++ cat f L := by simp [cat]
theorem cat_append (L M : List α) : cat f (L ++ M) = cat f L ++ cat f M := by simp [cat]
theorem cat_one (x : α) : cat f [x] = f x := by simp [cat]
theorem cat_len (hf : ∀ x, (f x).length = sz) : ∀ L : List α, (cat f L).length = L.length * sz
  | [] => by simp
  | x :: L => by rw [cat_cons, List.length_append, hf, cat_len hf L, List.length_cons, Nat.add_mul, Nat.one_mul, Nat.add_comm]
theorem cat_drop (hf : ∀ x, (f x).length = sz) : ∀ (L : List α) (j : Nat), (cat f L).drop (j * sz) = cat f (L.drop j)
  | L, 0 => by simp
  | [], j + 1 => by simp
  | x :: L, j + 1 => by
    rw [cat_cons, List.drop_succ_cons, Nat.add_mul, Nat.one_mul, Nat.add_comm, ← hf x, ← List.drop_drop, List.drop_left, hf x, cat_drop hf L j]
theorem cat_take (hf : ∀ x, (f x).length = sz) : ∀ (L : List α) (j : Nat), (cat f L).take (j * sz) = cat f (L.take j)
  | L, 0 => by simp
  | [], j + 1 => by simp
  | x :: L, j + 1 => by
    rw [cat_cons, List.take_succ_cons, cat_cons, Nat.add_mul, Nat.one_mul, Nat.add_comm, ← hf x, List.take_length_add_append, hf x, cat_take hf L j]
theorem cat_at (hf : ∀ x, (f x).length = sz) {L : List α} {j : Nat} {x : α} (hx : L[j]? = some x) : ((cat f L).drop (j * sz)).take sz = f x := by
  obtain ⟨h1, h2⟩ := List.getElem?_eq_some_iff.1 hx
  rw [cat_drop hf, List.drop_eq_getElem_cons h1, h2, cat_cons, ← hf x, List.take_left]
theorem cat_get (hf : ∀ x, (f x).length = sz) {L : List α} {j : Nat} {x : α} (hx : L[j]? = some x) {o : Nat} (ho : o < sz) : (cat f L)[j * sz + o]? = (f x)[o]? := by
  rw [← cat_at hf hx, List.getElem?_take, if_pos ho, List.getElem?_drop]
theorem cat_set (hf : ∀ x, (f x).length = sz) {L : List α} {j : Nat} (hj : j < L.length) (y : α) : (cat f L).take (j * sz) ++ f y ++ (cat f L).drop (j * sz + (f y).length) = cat f (L.set j y) := by
  rw [hf y, cat_take hf, show j * sz + sz = (j + 1) * sz by rw [Nat.add_mul, Nat.one_mul], cat_drop hf, List.set_eq_take_append_cons_drop, if_pos hj, cat_append, cat_cons, List.append_assoc]
theorem cat_set1 (hf : ∀ x, (f x).length = sz) {L : List α} {j : Nat} {x y : α} (hx : L[j]? = some x) {o : Nat} (ho : o < sz) {a : AV} (hy : (f x).set o a = f y) : (cat f L).take (j * sz + o) ++ [a] ++ (cat f L).drop (j * sz + o + 1) = cat f (L.set j y) := by
  have hj := (List.getElem?_eq_some_iff.1 hx).1
  rw [← cat_set hf hj y]
  have h1 : (cat f L).take (j * sz + o) = (cat f L).take (j * sz) ++ (f x).take o := by
    rw [← cat_at hf hx, List.take_take, Nat.min_eq_left (by omega), ← List.take_add]
  have h2 : (cat f L).drop (j * sz + o + 1) = (f x).drop (o + 1) ++ (cat f L).drop (j * sz + sz) := by
    rw [← cat_at hf hx, List.drop_take, List.drop_drop, ← Nat.add_assoc]
    have := List.take_append_drop (sz - (o + 1)) ((cat f L).drop (j * sz + o + 1))
    rw [List.drop_drop, show j * sz + o + 1 + (sz - (o + 1)) = j * sz + sz by omega] at this
    exact this.symm
  rw [h1, h2, hf y, ← hy, List.set_eq_take_append_cons_drop, if_pos (by rw [hf]; exact ho)]
  simp
end

/-- RowsO: a slice of slices, each in a block of its own. -/
structure RowsO {α : Type} (f : α → List AV) (sz : Nat) (h : Heap) (v : AV) (rs : List AV) (Ls : List (List α)) : Prop where
  own : Mine 1 rs.length h v rs
  len : rs.length = Ls.length
  each : ∀ (i : Nat) (r : AV) (L : List α), rs[i]? = some r → Ls[i]? = some L → Mine sz L.length h r (cat f L)
section
variable {α : Type} {f : α → List AV} {sz : Nat} {h h' : Heap} {v : AV} {rs : List AV} {Ls : List (List α)}
theorem RowsO.lt (R : RowsO f sz h v rs Ls) {c : Nat} (hc : c ∈ blks (v :: rs)) : c < h.next := by
  obtain ⟨u, hu, hu'⟩ := mem_blks.1 hc
  rcases List.mem_cons.1 hu with rfl | hu
  · exact R.own.lt hu'
  · obtain ⟨i, hi⟩ := List.getElem?_of_mem hu
    have hil := (List.getElem?_eq_some_iff.1 hi).1
    have hiL : i < Ls.length := by rw [← R.len]; exact hil
    exact (R.each i u Ls[i] hi (by simp [hiL])).lt hu'
theorem RowsO.keep {F : Nat → Prop} (R : RowsO f sz h v rs Ls) (K : Keep h.next F h h') (hF : ∀ c, c ∈ blks (v :: rs) → ¬ F c) : RowsO f sz h' v rs Ls :=
  ⟨R.own.keep K fun c hc => hF c (mem_blks.2 ⟨v, by simp, hc⟩), R.len, fun i r L hr hL => (R.each i r L hr hL).keep K fun c hc => hF c (mem_blks.2 ⟨r, List.mem_cons.2 (.inr (List.mem_of_getElem? hr)), hc⟩)⟩
theorem RowsO.ext (R : RowsO f sz h v rs Ls) (K : Keep h.next nob h h') : RowsO f sz h' v rs Ls := R.keep K fun _ _ q => q
/-- One row is written anew, and put into its place. -/
theorem RowsO.set (R : RowsO f sz h v rs Ls) (A : Apart (v :: rs)) {j : Nat} {r r' : AV} {L' : List α} {h1 : Heap} (hj : rs[j]? = some r) (K1 : Keep h.next (Has r) h h1) (M : Mine sz L'.length h1 r' (cat f L')) (Fr : From h r r') :
    ∃ h2, alay h1 v.blk (v.off + j) [r'] = some h2 ∧ RowsO f sz h2 v (rs.set j r') (Ls.set j L') ∧ Keep h.next (fun c => Has r c ∨ Has v c) h h2 ∧ h1.next ≤ h2.next ∧ Keep h1.next (Has v) h1 h2 := by
  have hjl := (List.getElem?_eq_some_iff.1 hj).1
  have nvr : ∀ {k : Nat} {u : AV} {c : Nat}, rs[k]? = some u → Has u c → ¬ Has v c := fun {k u c} hk hu hv => by
    have := A.get (i := k + 1) (j := 0) (v := u) (w := v) (by simpa using hk) (by simp) hu hv
    omega
  have V1 : Mine 1 rs.length h1 v rs := R.own.keep K1 fun c hc q => nvr hj q hc
  obtain ⟨h2, a1, a2, a3, a4⟩ := V1.lay1 (x := r') hjl M.oneV
  have old : ∀ {c : Nat}, c < h.next → c < h1.next := fun hc => Nat.lt_of_lt_of_le hc K1.1
  refine ⟨h2, a1, ⟨by rw [List.length_set]; exact a2, by rw [List.length_set, List.length_set]; exact R.len, fun i u L hu hL => ?_⟩, ⟨Nat.le_trans K1.1 a3.1, fun c hc hn => ?_⟩, a3.1, a3⟩
  · by_cases hij : i = j
    · subst hij
      rw [List.getElem?_set_self hjl] at hu
      cases hu
      rw [List.getElem?_set_self (by rw [← R.len]; exact hjl)] at hL
      cases hL
      refine M.keep a3 fun c hc hv => ?_
      rcases Fr c hc with h3 | h3
      · exact nvr hj h3 hv
      · have := R.own.lt hv; omega
    · rw [List.getElem?_set_ne (Ne.symm hij)] at hu hL
      have m0 := R.each i u L hu hL
      have m1 := m0.keep K1 fun c hc q => by
        have := A.get (i := i + 1) (j := j + 1) (v := u) (w := r) (by simpa using hu) (by simpa using hj) hc q
        omega
      exact m1.keep a3 fun c hc q => nvr hu hc q
  · rw [a3.2 c (old hc) (fun q => hn (.inr q)), K1.2 c hc (fun q => hn (.inl q))]
theorem RowsO.row (R : RowsO f sz h v rs Ls) {j : Nat} {L : List α} (hL : Ls[j]? = some L) : ∃ r, rs[j]? = some r ∧ Mine sz L.length h r (cat f L) := by
  have hj := (List.getElem?_eq_some_iff.1 hL).1
  have hj' : j < rs.length := by rw [R.len]; exact hj
  exact ⟨rs[j], by simp [hj'], R.each j _ L (by simp [hj']) hL⟩
end
end Go.YtcgafaecdjbmiaaAbs
