/- Stepping: cases at tests, reads and writes of slices. -/
import Derived.Test.YtcgafaecdjbmiaaAbsT
import Derived.Test.YtcgafaecdjbmiaaAbsY
import Derived.Lib.Strings
namespace Go.YtcgafaecdjbmiaaAbs
open Go Go.RowKit
set_option linter.unusedSimpArgs false
set_option linter.unusedVariables false

/-- Texts are the same. -/
@[simp] theorem beqS (a b : ByteArray) : (a.toList == b.toList) = decide (a = b) := by
  rw [Lib.toList_data, Lib.toList_data]
  by_cases h : a = b
  · subst h; simp
  · have : ¬ a.data.toList = b.data.toList := fun q => h (by
      obtain ⟨⟨a⟩⟩ := a
      obtain ⟨⟨b⟩⟩ := b
      simp only at q
      rw [q])
    simp only [h, decide_false, beq_eq_false_iff_ne, ne_eq]
    exact this

/-! Bools that differ. -/
section
variable {P : Program} {t : Tr AV} {d : Option Tmp} {ty tv v : TypeId} {pos : String} {af : Array Edge} {g : Option (Nat × Bool)} {x y : Operand}
theorem aback_neq_bool {a b : Bool} (hx : ev t x = .bool a) (hy : ev t y = .bool b) (hu : P.underlying ty = some .bool) : aback P t ⟨d, .binOp .neq ty x y tv, v, pos, af, g⟩ = some (.bool (!(a == b))) := by
  have : semPure P (execOp (fun x => ((ev t x).val?).getD undef) ⟨d, .binOp .neq ty x y tv, v, pos, af, g⟩) = some (.value (.bool (!(a == b)))) := by
    simp only [execOp, hx, hy, AV.val?, Option.getD_some]
    have e1 : semPure P (do
        eqGuard .neq ty x y (.bool a) (.bool b)
        binOp .neq ty (.bool a) (.bool b)) = some (.bool (!(a == b))) := by
      rw [semPure_bind P (eqGuard .neq ty x y (.bool a) (.bool b)) _ (a := ()) rfl]
      show semPure P (Op.equal ty (.bool a) (.bool b) >>= fun r => pure (Value.bool !r)) = _
      rw [semPure_bind P _ _ (equal_bool hu)]
      rfl
    rw [semPure_bind P _ _ e1]
    rfl
  unfold aback
  simp [Op.operands, hx, hy, AV.val?, this]
@[simp] theorem bcmp_neB {a b : Bool} : bcmp P .neq ty (.bool a) (.bool b) = none := rfl
def ncmp (P : Program) (ty : TypeId) (x y : AV) : Option AV := match x, y with
  | .bool a, .bool b => match P.underlying ty with
    | some .bool => some (.bool (!(a == b)))
    | _ => none
  | _, _ => none
@[simp] theorem aback0_neq : aback0 P t ⟨d, .binOp .neq ty x y tv, v, pos, af, g⟩ = match ncmp P ty (ev t x) (ev t y) with
    | some u => some u
    | none => aback00 P t ⟨d, .binOp .neq ty x y tv, v, pos, af, g⟩ := by
  cases hb : ncmp P ty (ev t x) (ev t y) with
  | none => rfl
  | some u =>
    simp only
    unfold ncmp at hb
    split at hb
    · rename_i hx hy
      split at hb
      · rename_i hl
        unfold aback0
        rw [aback_neq_bool hx hy hl]; exact hb
      · cases hb
    · cases hb
@[simp] theorem ncmp_b {a b : Bool} : ncmp P ty (.bool a) (.bool b) = match P.underlying ty with
    | some .bool => some (.bool (!(a == b)))
    | _ => none := rfl
@[simp] theorem ncmp_agg {a b : List AV} : ncmp P ty (.agg a) (.agg b) = none := rfl
end

/-! Tests. -/
theorem onB {b : Bool} {A B : Prop} (h1 : b = true → A) (h2 : b = false → B) : onBool (.bool b) A B := (onBool_mk b A B).2 ⟨h1, h2⟩
theorem onD {p : Prop} [Decidable p] {A B : Prop} (h1 : p → A) (h2 : ¬ p → B) : onBool (.bool (decide p)) A B := (onBool_mk _ A B).2 ⟨fun h => h1 (of_decide_eq_true h), fun h => h2 (of_decide_eq_false h)⟩
theorem onN {p : Prop} [Decidable p] {A B : Prop} (h1 : ¬ p → A) (h2 : p → B) : onBool (.bool (!decide p)) A B := (onBool_mk _ A B).2 ⟨fun h => h1 (by simpa using h), fun h => h2 (by simpa using h)⟩
section

theorem wantT {p : Prop} [Decidable p] {A B : Prop} (h1 : p → A) (h2 : ¬ p → B) : onWant (some (.bool (decide p))) true A B :=
  onWant_bool.2 ⟨fun h => h1 (of_decide_eq_true h), fun h => h2 fun q => h (decide_eq_true q)⟩
theorem wantF {p : Prop} [Decidable p] {A B : Prop} (h1 : ¬ p → A) (h2 : p → B) : onWant (some (.bool (decide p))) false A B :=
  onWant_bool.2 ⟨fun h => h1 (of_decide_eq_false h), fun h => h2 (Decidable.byContradiction fun q => h (decide_eq_false q))⟩
theorem wantNT {p : Prop} [Decidable p] {A B : Prop} (h1 : ¬ p → A) (h2 : p → B) : onWant (some (.bool (!decide p))) true A B :=
  onWant_bool.2 ⟨fun h => h1 (by simpa using h), fun h => h2 (by simpa using h)⟩
theorem wantNF {p : Prop} [Decidable p] {A B : Prop} (h1 : p → A) (h2 : ¬ p → B) : onWant (some (.bool (!decide p))) false A B :=
  onWant_bool.2 ⟨fun h => h1 (by simpa using h), fun h => h2 (by simpa using h)⟩
theorem wantB {b c : Bool} {A B : Prop} (h1 : b = c → A) (h2 : b ≠ c → B) : onWant (some (.bool b)) c A B := onWant_bool.2 ⟨h1, h2⟩
end

/-! Stops: simp with '-W_regionR0, W_stop j' goes on up to region j. -/
theorem W_stop (j : Nat) {P : Program} {call : CallO} {n k : Nat} {s : St} {Q : Ex → St → Prop} {id : Nat} {l : List Oper} {d : Bool} (h : (id == j) = false) : W P [] call n k (.region id (List.toArray l) d) s Q ↔ R P call n (List.toArray l) l s fun s' => Q .normal s' := W_regionR rfl
theorem W_stopL (j : Nat) {P : Program} {bad : List Nat} {call : CallO} {n k : Nat} {s : St} {Q : Ex → St → Prop} {id : Nat} {l : List Oper} {d : Bool} (h : (id == j) = false) (hb : inN id bad = false) : W P bad call n k (.region id (List.toArray l) d) s Q ↔ R P call n (List.toArray l) l s fun s' => Q .normal s' := W_regionR hb
theorem W_blockNot (j : Nat) {P : Program} {bad : List Nat} {call : CallO} {n k : Nat} {s : St} {Q : Ex → St → Prop} {id : Nat} {c : Code} (_ : (id == j) = false) : W P bad call n k (.block id c) s Q ↔ W P bad call n k c s fun e s' => Q (e.out id) s' := W_block id c
/-- A cut behind any piece of code that ends in order. -/
theorem W_cutN {P : Program} {bad : List Nat} {call : CallO} {n k : Nat} {c : Code} {s : St} {Q : Ex → St → Prop} (I : St → Prop) (ha : W P bad call n k c s fun e s' => e = .normal ∧ I s') (h : ∀ s', I s' → Q .normal s') : W P bad call n k c s Q := by
  refine W_mono ha ?_
  rintro e s' ⟨rfl, q⟩
  exact h s' q
/-- A cut behind a region. -/
theorem W_cutR {P : Program} {bad : List Nat} {call : CallO} {n k : Nat} {id : Nat} {l : List Oper} {d : Bool} {s : St} {Q : Ex → St → Prop} (hb : inN id bad = false) (I : St → Prop) (ha : R P call n (List.toArray l) l s I) (h : ∀ s', I s' → Q .normal s') : W P bad call n k (.region id (List.toArray l) d) s Q := by
  rw [W_regionR hb]
  have : R P call n (List.toArray l) (List.toArray l).toList s I := ha
  unfold R at this ⊢
  rw [onSome_iff] at this ⊢
  obtain ⟨x, h1, h2⟩ := this
  exact ⟨x, h1, h x h2⟩

/-! Arguments. -/
theorem wf64 {a : Int} (w : (Lit.int .i64 a).wf = true) : -9223372036854775808 ≤ a ∧ a ≤ 9223372036854775807 := by
  simp [Lit.wf, IntKind.min, IntKind.max, IntKind.signed, IntKind.bits] at w
  exact w
theorem bulk_len {α : Type} {K : Kind α} (hK : ∀ x, 1 ≤ K.bulk x) (l : List α) : l.length + 1 ≤ (kSlice K).bulk l := by
  have := len_sumL (f := K.bulk) hK l
  show l.length + 1 ≤ sumL K.bulk l + 1
  omega

/-! Cells of values. -/
@[simp] theorem row1_int (k : IntKind) (n : Int) : (AV.int k n).row1 = some [.int k n] := rfl
@[simp] theorem row1_bool (b : Bool) : (AV.bool b).row1 = some [.bool b] := rfl
@[simp] theorem row1_str (s : ByteArray) : (AV.str s).row1 = some [.str s] := rfl
@[simp] theorem row1_ptr (b i : Nat) : (AV.ptr b i).row1 = some [.ptr b i] := rfl
@[simp] theorem row1_nilp : (AV.nilp).row1 = some [.nilp] := rfl
@[simp] theorem row1_nils : (AV.nils).row1 = some [.nils] := rfl
@[simp] theorem row1_emp : (AV.emp).row1 = some [.emp] := rfl
@[simp] theorem row1_sl (b i n c z : Nat) (x : Bool) : (AV.sl b i n c z x).row1 = some [.sl b i n c z x] := rfl
@[simp] theorem row1_mp (b : Nat) : (AV.mp b).row1 = some [.mp b] := rfl
@[simp] theorem row1_nilm : (AV.nilm).row1 = some [.nilm] := rfl
@[simp] theorem one_int (k : IntKind) (n : Int) : (AV.int k n).one = true := rfl
@[simp] theorem one_bool (b : Bool) : (AV.bool b).one = true := rfl
@[simp] theorem one_str (s : ByteArray) : (AV.str s).one = true := rfl
@[simp] theorem one_ptr (b i : Nat) : (AV.ptr b i).one = true := rfl
@[simp] theorem one_nilp : (AV.nilp).one = true := rfl
@[simp] theorem one_nils : (AV.nils).one = true := rfl
@[simp] theorem one_emp : (AV.emp).one = true := rfl
@[simp] theorem one_sl (b i n c z : Nat) (x : Bool) : (AV.sl b i n c z x).one = true := rfl
@[simp] theorem one_mp (b : Nat) : (AV.mp b).one = true := rfl
@[simp] theorem one_nilm : (AV.nilm).one = true := rfl
theorem row1_one {v : AV} (h : v.one = true) : v.row1 = some [v] := by
  cases v <;> first | rfl | cases h
theorem row1_agg {l : List AV} (h : l.all AV.one = true) : (AV.agg l).row1 = some l := by
  simp [AV.row1, AV.row, h]
theorem Sl.oneV {sz n : Nat} {h : Heap} {v : AV} {l : List AV} (r : Sl sz n h v l) : v.one = true := by
  rcases r with ⟨rfl, _⟩ | ⟨rfl, _⟩ | ⟨b, i, cap, ex, c, ro, rfl, _⟩ <;> rfl
theorem Sl.same {sz n : Nat} {h : Heap} {v : AV} {l : List AV} (r : Sl sz n h v l) : sameAV v v = true := by
  rcases r with ⟨rfl, _⟩ | ⟨rfl, _⟩ | ⟨b, i, cap, ex, c, ro, rfl, _⟩ <;> simp [sameAV]
theorem Vec.oneV {m : Nat} {F : Nat → Prop} {sz n : Nat} {h : Heap} {v : AV} {l : List AV} (r : Vec m F sz n h v l) : v.one = true := r.sl.oneV

theorem ldc {P : Program} {h : Heap} {b i : Nat} {c : List AV} {ro : Bool} {x : AV} {ty : TypeId} (g : h.get b = some (.cells c ro)) (ht : tagg P ty = some false) (hx : c[i]? = some x) : aload P h ty b i = some x := by
  simp [aload, Heap.row, g, ht, hx]

theorem aalloc_makeC {P : Program} {st e : TypeId} {sz by_ : Nat} (E : Elem P st e sz by_) {z : List AV} (hz : azero P e = some z) (hl : z.length = sz) (ho : z.all AV.one = true) (n m : Nat) (hnm : n ≤ m) (hm : m ≤ 1000000000) {N M : Int} (hN : N = n) (hM : M = m)
    {t : Tr AV} {d : Option Tmp} {ty : TypeId} {pos : String} {af : Array Edge} {g : Option (Nat × Bool)} :
    aalloc P t ⟨d, .makeSlice st (.const (.int .i64 N)) (.const (.int .i64 M)), ty, pos, af, g⟩ = some ((List.replicate m z).flatten, fun b => .sl b 0 n m sz true) :=
  aalloc_make E hz hl ho n m hnm hm (by rw [hN]; rfl) (by rw [hM]; rfl)

/-! A slice's block and its first cell. -/
def AV.blk : AV → Nat
  | .sl b _ _ _ _ _ => b
  | _ => 0
def AV.off : AV → Nat
  | .sl _ i _ _ _ _ => i
  | _ => 0
@[simp] theorem blk_sl (b i n c z : Nat) (x : Bool) : (AV.sl b i n c z x).blk = b := rfl
@[simp] theorem off_sl (b i n c z : Nat) (x : Bool) : (AV.sl b i n c z x).off = i := rfl
section
variable {sz n : Nat} {h h' : Heap} {v : AV} {l : List AV}
theorem Sl.idx (r : Sl sz n h v l) {P : Program} {ty e : TypeId} (hu : P.underlying ty = some (.slice e)) (hs : tsize P e = some sz) {j : Nat} (hj : j < n) (k : IntKind) : aindex P ty v (.int k (j : Nat)) = some (.ptr v.blk (v.off + j * sz)) := by
  rcases r with ⟨rfl, rfl, rfl⟩ | ⟨rfl, rfl, rfl⟩ | ⟨b, i, cap, ex, c, ro, rfl, h0, h1, h2, h3, h4, _⟩
  · omega
  · omega
  · have hj' : (j : Int) < (n : Int) := by omega
    simp [aindex, hu, hs, hj']
theorem Sl.idx1 (r : Sl 1 n h v l) {P : Program} {ty e : TypeId} (hu : P.underlying ty = some (.slice e)) (hs : tsize P e = some 1) {j : Nat} (hj : j < n) (k : IntKind) : aindex P ty v (.int k (j : Nat)) = some (.ptr v.blk (v.off + j)) := by
  have := r.idx hu hs hj k
  rwa [Nat.mul_one] at this
theorem Sl.cell (r : Sl sz n h v l) {j : Nat} {x : AV} (hx : l[j]? = some x) : ∃ c ro, h.get v.blk = some (.cells c ro) ∧ c[v.off + j]? = some x ∧ v.blk < h.next := by
  have hj := (List.getElem?_eq_some_iff.1 hx).1
  rcases r with ⟨rfl, rfl, rfl⟩ | ⟨rfl, rfl, rfl⟩ | ⟨b, i, cap, ex, c, ro, rfl, h0, h1, h2, h3, h4, _⟩
  · simp at hx
  · simp at hx
  · refine ⟨c, ro, h1, ?_, h0⟩
    rw [← h4, List.getElem?_take, if_pos (by omega), List.getElem?_drop] at hx
    exact hx
/-- A cell is loaded. -/
theorem Sl.ld (r : Sl sz n h v l) {P : Program} {e : TypeId} (ht : tagg P e = some false) {j : Nat} {x : AV} (hx : l[j]? = some x) : aload P h e v.blk (v.off + j) = some x := by
  obtain ⟨c, ro, h1, h2, _⟩ := r.cell hx
  simp [aload, Heap.row, h1, ht, h2]
/-- .. cells. -/
theorem Sl.lds (r : Sl sz n h v l) {P : Program} {e : TypeId} {m : Nat} (ht : tagg P e = some true) (hs : tsize P e = some m) {j : Nat} (hj : j + m ≤ l.length) (hn : 0 < n) : aload P h e v.blk (v.off + j) = some (.agg ((l.drop j).take m)) := by
  rcases r with ⟨rfl, rfl, rfl⟩ | ⟨rfl, rfl, rfl⟩ | ⟨b, i, cap, ex, c, ro, rfl, h0, h1, h2, h3, h4, _⟩
  · omega
  · omega
  · have : i + j + m ≤ c.length := by omega
    simp [aload, Heap.row, h1, ht, hs, this]
    rw [← h4, List.drop_take, List.take_take, List.drop_drop, Nat.min_eq_left (by omega)]
theorem Sl.blk_lt (r : Sl sz n h v l) (hn : 0 < n) : v.blk < h.next := by
  rcases r with ⟨rfl, rfl, rfl⟩ | ⟨rfl, rfl, rfl⟩ | ⟨b, i, cap, ex, c, ro, rfl, h0, _⟩
  · omega
  · omega
  · exact h0
theorem Sl.keep' {m : Nat} {F : Nat → Prop} (r : Sl sz n h v l) (K : Keep m F h h') (hv : (∃ b i n c s x, v = .sl b i n c s x) → v.blk < m ∧ ¬ F v.blk) : Sl sz n h' v l :=
  r.keep K fun b i n c s x q => by
    have := hv ⟨b, i, n, c, s, x, q⟩
    rw [q] at this
    exact this
end
section
variable {m sz n : Nat} {F : Nat → Prop} {h h' : Heap} {v : AV} {l : List AV}
theorem Vec.keep' {m' : Nat} {G : Nat → Prop} (r : Vec m F sz n h v l) (K : Keep m' G h h') (hv : (∃ b i n c s x, v = .sl b i n c s x) → v.blk < m' ∧ ¬ G v.blk) : Vec m F sz n h' v l :=
  r.keep K fun b i n c s x q => by
    have := hv ⟨b, i, n, c, s, x, q⟩
    rw [q] at this
    exact this
/-- Cells of one's own are written. -/
theorem Vec.lay (r : Vec m F sz n h v l) {j : Nat} {vs : List AV} (hj : j + vs.length ≤ l.length) (h0 : 0 < n) (ho : vs.all AV.one = true) :
    ∃ h', alay h v.blk (v.off + j) vs = some h' ∧ Vec m F sz n h' v (l.take j ++ vs ++ l.drop (j + vs.length)) ∧ Keep m F h h' ∧ h'.next = h.next ∧ ∀ c, c ≠ v.blk → h'.get c = h.get c := by
  rcases r with ⟨rfl, rfl, rfl⟩ | ⟨b, i, cap, ex, c, rfl, r2, r3, r4, r5, r6, r7, r8, r9⟩
  · omega
  · have e1 : n * sz ≤ cap * sz := Nat.mul_le_mul_right _ r7
    have hl : i + j + vs.length ≤ c.length := by omega
    refine ⟨h.set b (.cells (c.take (i + j) ++ vs ++ c.drop (i + j + vs.length)) false), ?_, .inr ⟨b, i, cap, ex, _, rfl, r2, r3, get_set_self _ _ _, ?_, ?_, r7, ?_, ?_⟩, Keep.set r2 _, rfl, fun d hd => get_set_ne (Ne.symm hd)⟩
    · unfold alay
      simp only [blk_sl, off_sl]
      rw [r4]
      simp only
      rw [layAt_all c _ vs hl]
    · simp; omega
    · simp; omega
    · rw [← r8] at hj ⊢
      rw [List.length_take, List.length_drop] at hj
      refine List.ext_getElem? fun k => ?_
      simp only [List.getElem?_append, List.length_append, List.length_take, List.length_drop, List.getElem?_take, List.getElem?_drop]
      by_cases hk : k < n * sz
      · by_cases k1 : k < j
        · rw [if_pos hk, if_pos (by omega), if_pos (by omega), if_pos (by omega), if_pos (by omega), if_pos (by omega), if_pos k1, if_pos hk]
        · by_cases k2 : k < j + vs.length
          · rw [if_pos hk, if_pos (by omega), if_neg (by omega), if_pos (by omega), if_neg (by omega)]
            congr 1
            omega
          · rw [if_pos hk, if_neg (by omega), if_neg (by omega), if_pos (by omega)]
            congr 1
            omega
      · rw [if_neg hk]
        split
        · omega
        · rw [if_neg (by omega)]
    · simp only [List.all_append, ho, Bool.and_true]
      rw [Bool.and_eq_true]
      exact ⟨List.all_eq_true.2 fun x hx => List.all_eq_true.1 r9 x (List.mem_of_mem_take hx), List.all_eq_true.2 fun x hx => List.all_eq_true.1 r9 x (List.mem_of_mem_drop hx)⟩
theorem Vec.lay1 (r : Vec m F 1 n h v l) {j : Nat} {x : AV} (hj : j < n) (ho : x.one = true) :
    ∃ h', alay h v.blk (v.off + j) [x] = some h' ∧ Vec m F 1 n h' v (l.set j x) ∧ Keep m F h h' ∧ h'.next = h.next ∧ ∀ c, c ≠ v.blk → h'.get c = h.get c := by
  have hl := r.sl.length
  obtain ⟨h', a1, a2, a3⟩ := r.lay (j := j) (vs := [x]) (by simp; omega) (by omega) (by simp [ho])
  refine ⟨h', a1, ?_, a3⟩
  rw [List.set_eq_take_append_cons_drop, if_pos (by omega)]
  simpa using a2
end

/-- A slice's middle. -/
theorem Sl.sub {sz n : Nat} {h : Heap} {v : AV} {l : List AV} (r : Sl sz n h v l) {P : Program} {ty e : TypeId} (hu : P.underlying ty = some (.slice e)) (hs : tsize P e = some sz) {k k' : IntKind} {i j : Nat} (hi : i ≤ j) (hj : j ≤ n) :
    ∃ v', aslice P ty v (some (.int k (i : Nat))) (some (.int k' (j : Nat))) none = some v' ∧ Sl sz (j - i) h v' ((l.drop (i * sz)).take ((j - i) * sz)) := by
  rcases r with ⟨rfl, rfl, rfl⟩ | ⟨rfl, rfl, rfl⟩ | ⟨b, o, cap, ex, c, ro, rfl, h0, h1, h2, h3, h4, h5⟩
  · obtain rfl : j = 0 := by omega
    obtain rfl : i = 0 := by omega
    exact ⟨.nils, by simp [aslice, hu, hs, abnds, abound], .inl ⟨rfl, by simp, rfl⟩⟩
  · obtain rfl : j = 0 := by omega
    obtain rfl : i = 0 := by omega
    exact ⟨.emp, by simp [aslice, hu, hs, abnds, abound], .inr (.inl ⟨rfl, by simp, rfl⟩)⟩
  · have hle : j * sz ≤ n * sz := Nat.mul_le_mul_right _ hj
    have hle' : i * sz ≤ j * sz := Nat.mul_le_mul_right _ hi
    have hj' : (j : Int) ≤ (cap : Int) := by omega
    have hi' : (i : Int) ≤ (j : Int) := by omega
    have e1 : (l.drop (i * sz)).take ((j - i) * sz) = (c.drop (o + i * sz)).take ((j - i) * sz) := by
      rw [← h4, List.drop_take, List.take_take, List.drop_drop, Nat.sub_mul, Nat.min_eq_left (by omega)]
    have e2 : ((l.drop (i * sz)).take ((j - i) * sz)).length = (j - i) * sz := by
      rw [List.length_take, List.length_drop, h2, Nat.sub_mul, Nat.min_eq_left (by omega)]
    by_cases hi0 : i = 0
    · subst hi0
      refine ⟨.sl b o j cap sz ex, by simp [aslice, hu, hs, asub, abnds, abound, hj'], .inr (.inr ⟨b, o, cap, ex, c, ro, rfl, h0, h1, e2, by rw [Nat.sub_zero]; omega, by rw [e1]; simp, by omega⟩)⟩
    · by_cases hic : i < cap
      · refine ⟨.sl b (o + i * sz) (j - i) (cap - i) sz ex, by simp [aslice, hu, hs, asub, abnds, abound, hj', hi', hi0, hic], .inr (.inr ⟨b, o + i * sz, cap - i, ex, c, ro, rfl, h0, h1, e2, by rw [Nat.sub_mul]; omega, e1.symm, by omega⟩)⟩
      · obtain rfl : i = j := by omega
        obtain rfl : i = n := by omega
        obtain rfl : i = cap := by omega
        have hd : (l.drop (i * sz)).take ((i - i) * sz) = [] := by simp
        cases ex with
        | true => 
          refine ⟨.sl b o 0 0 sz true, by simp [aslice, hu, hs, asub, abnds, abound, hi0], .inr (.inr ⟨b, o, 0, true, c, ro, by simp, h0, h1, by simp, by simp; omega, by simp, by simp⟩)⟩
        | false => exact ⟨.emp, by simp [aslice, hu, hs, asub, abnds, abound, hi0], .inr (.inl ⟨rfl, hd, by simp⟩)⟩

end Go.YtcgafaecdjbmiaaAbs
