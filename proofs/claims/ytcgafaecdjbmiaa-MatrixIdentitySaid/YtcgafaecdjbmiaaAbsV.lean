/- Stepping by stages: what stands behind is looked at only when one is there. -/
import Derived.Test.YtcgafaecdjbmiaaAbsX
namespace Go.YtcgafaecdjbmiaaAbs
open Go Go.RowKit

/-- A mark that 'simp' strikes: a congruence by it always turns something, so what stands behind is left alone. -/
def tick {α : Type} (a : α) : α := a
@[simp] theorem tick_eq {α : Type} (a : α) : tick a = a := Eq.trans rfl rfl
@[congr] theorem onSome_congr {α : Type} {a b : Option α} {A : α → Prop} (h : tick a = b) : onSome a A = onSome b A := by rw [← h]; rfl
@[congr] theorem onBool_congr {a b : AV} {A B : Prop} (h : tick a = b) : onBool a A B = onBool b A B := by rw [← h]; rfl
@[congr] theorem onEx_congr {a b : Ex} {A B : Prop} (h : tick a = b) : onEx a A B = onEx b A B := by rw [← h]; rfl
@[congr] theorem W_congr {P : Program} {bad : List Nat} {call : CallO} {n k : Nat} {c : Code} {s s' : St} {Q : Ex → St → Prop} (h : tick s = s') : W P bad call n k c s Q = W P bad call n k c s' Q := by rw [← h]; rfl

theorem onSome_bind {α β : Type} {a : Option α} {f : α → Option β} {A : β → Prop} : onSome (a.bind f) A ↔ onSome a fun x => onSome (f x) A := by cases a <;> (unfold onSome; rfl)
theorem onSome_map {α β : Type} {a : Option α} {f : α → β} {A : β → Prop} : onSome (a.map f) A ↔ onSome a fun x => A (f x) := by cases a <;> (unfold onSome; rfl)
attribute [simp] onSome_map
@[simp] theorem onSome_none {α : Type} {A : α → Prop} : onSome none A ↔ False := by unfold onSome; rfl

/-- A thing is put into a slot. -/
def onPut (n : Nat) (t : Tr AV) (d : Option Tmp) (a : AV) (K : Tr AV → Prop) : Prop := onSome (put n t d a) K
@[congr] theorem onPut_congr {n : Nat} {t t' : Tr AV} {d : Option Tmp} {a a' : AV} {K : Tr AV → Prop} (h : tick t = t') (h' : tick a = a') : onPut n t d a K = onPut n t' d a' K := by rw [← h, ← h']; rfl
@[simp] theorem onPut_some {n : Nat} {t : Tr AV} {d : Nat} {a : AV} {K : Tr AV → Prop} : onPut n t (some d) a K ↔ d < n ∧ K (t.set d (some a)) := by
  unfold onPut put
  by_cases h : d < n
  · have : Nat.blt d n = true := by simpa [Nat.blt_eq] using h
    simp [this, h]
  · have : Nat.blt d n = false := by
      cases q : Nat.blt d n with
      | false => rfl
      | true => exact absurd (by simpa [Nat.blt_eq] using q) h
    simp [this, h]
@[simp] theorem onPut_none {n : Nat} {t : Tr AV} {a : AV} {K : Tr AV → Prop} : onPut n t none a K ↔ K t := by unfold onPut put; exact onSome_some _ _

/-- A guard. -/
def onWant (w : Option AV) (b : Bool) (A B : Prop) : Prop := match w with
  | some (.bool c) => (c = b → A) ∧ (c ≠ b → B)
  | some (.tup []) => B
  | _ => False
@[congr] theorem onWant_congr {w w' : Option AV} {b : Bool} {A B : Prop} (h : tick w = w') : onWant w b A B = onWant w' b A B := by rw [← h]; rfl
theorem onWant_bool {c b : Bool} {A B : Prop} : onWant (some (.bool c)) b A B ↔ (c = b → A) ∧ (c ≠ b → B) := Iff.rfl
@[simp] theorem onWant_tt {A B : Prop} : onWant (some (.bool true)) true A B ↔ A := by simp [onWant]
@[simp] theorem onWant_tf {A B : Prop} : onWant (some (.bool true)) false A B ↔ B := by simp [onWant]
@[simp] theorem onWant_ft {A B : Prop} : onWant (some (.bool false)) true A B ↔ B := by simp [onWant]
@[simp] theorem onWant_ff {A B : Prop} : onWant (some (.bool false)) false A B ↔ A := by simp [onWant]
theorem onWant_none {b : Bool} {A B : Prop} : onWant none b A B ↔ False := Iff.rfl
@[simp] theorem onWant_tup {b : Bool} {A B : Prop} : onWant (some (.tup [])) b A B ↔ B := Iff.rfl

/-- Steps of a region, and what holds behind them. -/
def R (P : Program) (call : CallO) (n : Nat) (ops : Array Oper) (l : List Oper) (s : St) (Q : St → Prop) : Prop := onSome (aops P call n ops l s) Q
@[congr] theorem R_congr {P : Program} {call : CallO} {n : Nat} {ops : Array Oper} {l : List Oper} {s s' : St} {Q : St → Prop} (h : tick s = s') : R P call n ops l s Q = R P call n ops l s' Q := by rw [← h]; rfl

section
variable {P : Program} {bad : List Nat} {call : CallO} {n k : Nat} {ops : Array Oper} {s : St} {Q : St → Prop}
@[simp] theorem R_nil : R P call n ops [] s Q ↔ Q s := by unfold R; rw [aops_nil]; exact onSome_some _ _
@[simp] theorem R_go {d : Option Tmp} {op : Op} {ty : TypeId} {pos : String} {af : Array Edge} {r : List Oper} : R P call n ops (⟨d, op, ty, pos, af, none⟩ :: r) s Q ↔
    onSome (aop P call s.t s.h ⟨d, op, ty, pos, af, none⟩) fun p => onPut n s.t d p.1 fun t => R P call n ops r ⟨t, p.2⟩ Q := by
  unfold R
  rw [aops_go]
  cases aop P call s.t s.h ⟨d, op, ty, pos, af, none⟩ with
  | none => simp only [onSome_none]
  | some p =>
    simp only [onSome_some, onPut]
    cases put n s.t d p.1 <;> simp only [onSome_none, onSome_some]
@[simp] theorem R_if {d : Option Tmp} {op : Op} {ty : TypeId} {pos : String} {af : Array Edge} {j : Nat} {w : Bool} {r : List Oper} : R P call n ops (⟨d, op, ty, pos, af, some (j, w)⟩ :: r) s Q ↔
    onWant (((ops[j]?).bind (·.dst)).bind s.t.get) w (onSome (aop P call s.t s.h ⟨d, op, ty, pos, af, some (j, w)⟩) fun p => onPut n s.t d p.1 fun t => R P call n ops r ⟨t, p.2⟩ Q)
      (onPut n s.t d (.tup []) fun t => R P call n ops r ⟨t, s.h⟩ Q) := by
  unfold R
  rw [aops_if, awant_if, ← Array.getElem?_toList]
  cases (ops.toList[j]?).bind (·.dst) with
  | none => simp only [Option.bind_none, onWant_none, onSome_none]
  | some e =>
    simp only [Option.bind_some]
    have key : ∀ b : Bool, onSome (match (some b : Option Bool) with
        | none => none
        | some true => match aop P call s.t s.h ⟨d, op, ty, pos, af, some (j, w)⟩ with
          | none => none
          | some (a, h) => match put n s.t d a with
            | none => none
            | some t => aops P call n ops r ⟨t, h⟩
        | some false => match put n s.t d (.tup []) with
          | none => none
          | some t => aops P call n ops r ⟨t, s.h⟩) Q ↔ (b = true → onSome (aop P call s.t s.h ⟨d, op, ty, pos, af, some (j, w)⟩) fun p => onPut n s.t d p.1 fun t => onSome (aops P call n ops r ⟨t, p.2⟩) Q) ∧
          (b = false → onPut n s.t d (.tup []) fun t => onSome (aops P call n ops r ⟨t, s.h⟩) Q) := by
      intro b
      cases b with
      | true =>
        simp only [forall_const, Bool.true_eq_false, false_implies, and_true]
        cases aop P call s.t s.h ⟨d, op, ty, pos, af, some (j, w)⟩ with
        | none => simp only [onSome_none]
        | some p =>
          simp only [onSome_some, onPut]
          cases put n s.t d p.1 <;> simp only [onSome_none, onSome_some]
      | false =>
        simp only [forall_const, Bool.false_eq_true, false_implies, true_and]
        simp only [onPut]
        cases put n s.t d (.tup []) <;> simp only [onSome_none, onSome_some]
    cases s.t.get e with
    | none => simp only [onWant_none, onSome_none]
    | some a =>
      cases a with
      | bool c =>
        have := key (c == w)
        simp only [onWant_bool]
        refine this.trans ?_
        cases c <;> cases w <;> simp
      | tup l =>
        cases l with
        | nil => 
          have := key false
          simp only [onWant_tup]
          refine this.trans ?_
          simp
        | cons => simp only [onSome_none]; exact Iff.rfl
      | _ => simp only [onSome_none]; exact Iff.rfl
end
/-- A region in the order of the text. -/
theorem W_regionR {P : Program} {bad : List Nat} {call : CallO} {n k : Nat} {s : St} {Q : Ex → St → Prop} {id : Nat} {ops : Array Oper} {d : Bool} (hb : inN id bad = false) : W P bad call n k (.region id ops d) s Q ↔ R P call n ops ops.toList s fun s' => Q .normal s' := W_region hb
@[simp] theorem W_regionR0 {P : Program} {call : CallO} {n k : Nat} {s : St} {Q : Ex → St → Prop} {id : Nat} {l : List Oper} {d : Bool} : W P [] call n k (.region id (List.toArray l) d) s Q ↔ R P call n (List.toArray l) l s fun s' => Q .normal s' := W_region rfl

section
variable {P : Program} {call : CallO} {t : Tr AV} {h : Heap} {d : Option Tmp} {ty : TypeId} {pos : String} {af : Array Edge} {g : Option (Nat × Bool)}
def vlen' (h : Heap) (x : AV) (u : Option TypeDesc) : Option AV := match u, x with
  | some (.slice _), .sl _ _ n _ _ _ => some (.int .i64 n)
  | some (.slice _), .emp => some (.int .i64 0)
  | some (.slice _), .nils => some (.int .i64 0)
  | some .string, .str s => some (.int .i64 s.size)
  | some (.map ..), .nilm => some (.int .i64 0)
  | some (.map ..), .mp b => match h.get b with
    | some (.map es _) => some (.int .i64 es.length)
    | _ => none
  | _, _ => none
@[simp high] theorem aop_len1 (x : Operand) (ty1 : TypeId) : aop P call t h ⟨d, .call ⟨.builtin .len, List.toArray [x], List.toArray [ty1]⟩, ty, pos, af, g⟩ = (vlen' h (ev t x) (P.underlying ty1)).map fun a => (a, h) := by
  rw [aop_len]
  rw [apure_len]
  show (match vlen (some (ev t x)) (P.underlying ty1) with
    | some a => some (a, h)
    | none => match (match (some (ev t x) : Option AV), P.underlying ty1 with
      | some .nilm, some (.map ..) => some (.int .i64 0)
      | some (.mp b), some (.map ..) => match h.get b with
        | some (.map es _) => some (.int .i64 es.length)
        | _ => none
      | _, _ => none : Option AV) with
      | some a => some (a, h)
      | none => none) = _
  unfold vlen vlen'
  cases P.underlying ty1 with
  | none => cases ev t x <;> rfl
  | some u =>
    cases u with
    | slice e => cases ev t x <;> rfl
    | string => cases ev t x <;> rfl
    | map a b =>
      cases hx : ev t x with
      | mp b => 
        simp only
        cases h.get b with
        | none => rfl
        | some o => cases o <;> rfl
      | _ => rfl
    | _ => cases ev t x <;> rfl
@[simp] theorem vlen'_sl (b i n c z : Nat) (x : Bool) (e : TypeId) : vlen' h (.sl b i n c z x) (some (.slice e)) = some (.int .i64 n) := rfl
@[simp] theorem vlen'_emp (e : TypeId) : vlen' h .emp (some (.slice e)) = some (.int .i64 0) := rfl
@[simp] theorem vlen'_nils (e : TypeId) : vlen' h .nils (some (.slice e)) = some (.int .i64 0) := rfl
@[simp] theorem vlen'_str (s : ByteArray) : vlen' h (.str s) (some .string) = some (.int .i64 s.size) := rfl
@[simp] theorem vlen'_nilm (a b : TypeId) : vlen' h .nilm (some (.map a b)) = some (.int .i64 0) := rfl
theorem vlen'_mp (b : Nat) (k e : TypeId) : vlen' h (.mp b) (some (.map k e)) = match h.get b with
    | some (.map es _) => some (.int .i64 es.length)
    | _ => none := rfl
@[simp high] theorem aop_append2 (s x : Operand) (st xt : TypeId) : aop P call t h ⟨d, .call ⟨.builtin .append, List.toArray [s, x], List.toArray [st, xt]⟩, ty, pos, af, g⟩ = aappend P h st xt (ev t s) (ev t x) := rfl
@[simp high] theorem aop_copy2 (s x : Operand) (st xt : TypeId) : aop P call t h ⟨d, .call ⟨.builtin .copy, List.toArray [s, x], List.toArray [st, xt]⟩, ty, pos, af, g⟩ = acopy P h st (ev t s) (ev t x) := rfl
@[simp high] theorem aop_callL (f : Operand) (args : List Operand) (tys : Array TypeId) : aop P call t h ⟨d, .call ⟨.value f, List.toArray args, tys⟩, ty, pos, af, g⟩ = match ev t f with
    | .fn g cs => match P.funcs[g]? with
      | some fn => if nogo fn then none else call g (args.map (ev t) ++ cs) h
      | none => none
    | _ => none := rfl
end

attribute [irreducible] R onPut onWant

/-- A cut behind a statement. -/
theorem W_cut {P : Program} {bad : List Nat} {call : CallO} {n k : Nat} {a b : Code} {s : St} {Q : Ex → St → Prop} (I : St → Prop) (ha : W P bad call n k a s fun e s' => e = .normal ∧ I s') (hb : ∀ s', I s' → W P bad call n k b s' Q) : W P bad call n k (.seq a b) s Q := by
  rw [W_seq]
  refine W_mono ha ?_
  rintro e s' ⟨rfl, h⟩
  rw [onEx_normal]
  exact hb s' h
/-- A cut behind a loop that is left. -/
theorem W_cutLoop {P : Program} {bad : List Nat} {call : CallO} {n k : Nat} {c : Code} {s : St} {Q : Ex → St → Prop} (id : Nat) (I : St → Prop) (ha : W P bad call n k (.loop c) s fun e s' => e = .exit id ∧ I s') (hb : ∀ s', I s' → Q (.exit id) s') : W P bad call n k (.loop c) s Q := by
  refine W_mono ha ?_
  rintro e s' ⟨rfl, h⟩
  exact hb s' h

/-- A contract is used. -/
theorem use {o : Option (AV × Heap)} {Post : AV → Heap → Prop} (h : ∃ v h', o = some (v, h') ∧ Post v h') {A : AV × Heap → Prop} (k : ∀ v h', Post v h' → A (v, h')) : onSome o A := by
  obtain ⟨v, h', rfl, hp⟩ := h
  exact (onSome_some _ _).2 (k v h' hp)

/-! Slices that read so, and slices that are one's own. -/

/-- Nothing is written. -/
def nob : Nat → Prop := fun _ => False

/-- What was there stays, but what may be written: blocks in F, and those from n on. -/
def Keep (n : Nat) (F : Nat → Prop) (h h' : Heap) : Prop := h.next ≤ h'.next ∧ ∀ c, c < n → ¬ F c → h'.get c = h.get c
theorem Keep.refl (n : Nat) (F : Nat → Prop) (h : Heap) : Keep n F h h := ⟨Nat.le_refl _, fun _ _ _ => rfl⟩
theorem Keep.trans {n : Nat} {F : Nat → Prop} {a b c : Heap} (h : Keep n F a b) (k : Keep n F b c) : Keep n F a c := ⟨Nat.le_trans h.1 k.1, fun d hd hF => (k.2 d hd hF).trans (h.2 d hd hF)⟩
theorem Keep.weak {n m : Nat} {F G : Nat → Prop} {a b : Heap} (h : Keep n F a b) (hm : m ≤ n) (hF : ∀ c, c < m → F c → G c) : Keep m G a b := ⟨h.1, fun d hd hG => h.2 d (Nat.lt_of_lt_of_le hd hm) fun q => hG (hF d hd q)⟩
theorem Keep.new {n : Nat} {F : Nat → Prop} {h : Heap} (hn : n ≤ h.next) (o : AO) : Keep n F h (h.new o) := ⟨Nat.le_succ _, fun c hc _ => by rw [Heap.get_new, if_neg (by omega)]⟩
theorem Keep.set {n : Nat} {F : Nat → Prop} {h : Heap} {b : Nat} (hb : F b ∨ n ≤ b) (o : AO) : Keep n F h (h.set b o) := ⟨Nat.le_refl _, fun c hc hF => by
  rw [Heap.get_set, if_neg ?_]
  rintro rfl
  rcases hb with q | q
  · exact hF q
  · omega⟩

@[simp] theorem next_new (h : Heap) (o : AO) : (h.new o).next = h.next + 1 := rfl
@[simp] theorem next_set (h : Heap) (b : Nat) (o : AO) : (h.set b o).next = h.next := rfl
@[simp] theorem next_kill (h : Heap) (b : Nat) : (h.kill b).next = h.next := rfl
@[simp] theorem get_new_self (h : Heap) (o : AO) : (h.new o).get h.next = some o := by rw [Heap.get_new, if_pos rfl]
@[simp] theorem get_set_self (h : Heap) (b : Nat) (o : AO) : (h.set b o).get b = some o := by rw [Heap.get_set, if_pos rfl]
theorem get_new_old {h : Heap} {o : AO} {c : Nat} (hc : c < h.next) : (h.new o).get c = h.get c := by rw [Heap.get_new, if_neg (by omega)]
theorem get_set_ne {h : Heap} {o : AO} {b c : Nat} (hc : b ≠ c) : (h.set b o).get c = h.get c := by rw [Heap.get_set, if_neg hc]

/-- A slice of n elements, each of sz cells, reads so. -/
def Sl (sz n : Nat) (h : Heap) (v : AV) (l : List AV) : Prop := (v = .nils ∧ l = [] ∧ n = 0) ∨ (v = .emp ∧ l = [] ∧ n = 0) ∨
  (∃ b i cap ex c ro, v = .sl b i n cap sz ex ∧ b < h.next ∧ h.get b = some (.cells c ro) ∧ l.length = n * sz ∧ i + n * sz ≤ c.length ∧ (c.drop i).take (n * sz) = l ∧ n ≤ cap)
section
variable {sz n : Nat} {h h' : Heap} {v : AV} {l : List AV}
theorem Sl.length (r : Sl sz n h v l) : l.length = n * sz := by
  rcases r with ⟨_, rfl, rfl⟩ | ⟨_, rfl, rfl⟩ | ⟨_, _, _, _, _, _, _, _, _, h, _⟩
  · simp
  · simp
  · exact h
theorem Sl.len (r : Sl sz n h v l) (e : TypeId) : vlen (some v) (some (.slice e)) = some (.int .i64 (n : Nat)) := by
  rcases r with ⟨rfl, rfl, rfl⟩ | ⟨rfl, rfl, rfl⟩ | ⟨b, i, cap, ex, c, ro, rfl, _⟩ <;> rfl
theorem Sl.len' (r : Sl sz n h v l) (k : Heap) (e : TypeId) : vlen' k v (some (.slice e)) = some (.int .i64 (n : Nat)) := by
  rcases r with ⟨rfl, rfl, rfl⟩ | ⟨rfl, rfl, rfl⟩ | ⟨b, i, cap, ex, c, ro, rfl, _⟩ <;> rfl
theorem Sl.alen (r : Sl sz n h v l) : alen v = some n := by
  rcases r with ⟨rfl, rfl, rfl⟩ | ⟨rfl, rfl, rfl⟩ | ⟨b, i, cap, ex, c, ro, rfl, _⟩ <;> rfl
theorem Sl.acells (r : Sl sz n h v l) : acells h sz n v = some l := by
  rcases r with ⟨rfl, rfl, rfl⟩ | ⟨rfl, rfl, rfl⟩ | ⟨b, i, cap, ex, c, ro, rfl, _, h1, h2, h3, h4, _⟩
  · rfl
  · rfl
  · simp [YtcgafaecdjbmiaaAbs.acells, Heap.row, h1, h3, h4]
/-- The place of an element. -/
theorem Sl.at (r : Sl sz n h v l) {P : Program} {ty e : TypeId} (hu : P.underlying ty = some (.slice e)) (hs : tsize P e = some sz) {j : Nat} (hj : j < n) {k : IntKind} :
    ∃ b i c ro, aindex P ty v (.int k (j : Nat)) = some (.ptr b i) ∧ b < h.next ∧ h.get b = some (.cells c ro) ∧ i + sz ≤ c.length ∧ (∀ o, o < sz → c[i + o]? = l[j * sz + o]?) ∧ (c.drop i).take sz = (l.drop (j * sz)).take sz := by
  rcases r with ⟨rfl, rfl, rfl⟩ | ⟨rfl, rfl, rfl⟩ | ⟨b, i, cap, ex, c, ro, rfl, h0, h1, h2, h3, h4, _⟩
  · omega
  · omega
  · have hj' : (j : Int) < (n : Int) := by omega
    have hle : (j + 1) * sz ≤ n * sz := Nat.mul_le_mul_right _ hj
    rw [Nat.add_mul, Nat.one_mul] at hle
    refine ⟨b, i + j * sz, c, ro, by simp [aindex, hu, hs, hj'], h0, h1, by omega, fun o ho => ?_, ?_⟩
    · rw [← h4, List.getElem?_take, if_pos (by omega), List.getElem?_drop, Nat.add_assoc]
    · rw [← h4, List.drop_take, List.take_take, List.drop_drop, Nat.min_eq_left (by omega)]
/-- An element of one cell. -/
theorem Sl.at1 (r : Sl 1 n h v l) {P : Program} {ty e : TypeId} (hu : P.underlying ty = some (.slice e)) (hs : tsize P e = some 1) {j : Nat} {x : AV} (hx : l[j]? = some x) {k : IntKind} :
    ∃ b i c ro, aindex P ty v (.int k (j : Nat)) = some (.ptr b i) ∧ h.get b = some (.cells c ro) ∧ c[i]? = some x := by
  have hj := (List.getElem?_eq_some_iff.1 hx).1
  rw [r.length] at hj
  obtain ⟨b, i, c, ro, h1, _, h2, _, h3, _⟩ := r.at hu hs (j := j) (k := k) (by omega)
  exact ⟨b, i, c, ro, h1, h2, by have := h3 0 (by omega); simpa [hx] using this⟩
theorem Sl.keep {m : Nat} {F : Nat → Prop} (r : Sl sz n h v l) (K : Keep m F h h') (hv : ∀ b i n c s x, v = .sl b i n c s x → b < m ∧ ¬ F b) : Sl sz n h' v l := by
  rcases r with r | r | ⟨b, i, cap, ex, c, ro, r1, r2, r3, r4⟩
  · exact .inl r
  · exact .inr (.inl r)
  · obtain ⟨q1, q2⟩ := hv _ _ _ _ _ _ r1
    exact .inr (.inr ⟨b, i, cap, ex, c, ro, r1, Nat.lt_of_lt_of_le r2 K.1, by rw [K.2 b q1 q2]; exact r3, r4⟩)
/-- .. where nothing that was there is written. -/
theorem Sl.ext (r : Sl sz n h v l) (K : Keep h.next (fun _ => False) h h') : Sl sz n h' v l := by
  refine r.keep K ?_
  rcases r with ⟨rfl, _⟩ | ⟨rfl, _⟩ | ⟨b, i, cap, ex, c, ro, rfl, r2, _⟩
  · intro _ _ _ _ _ _ q; cases q
  · intro _ _ _ _ _ _ q; cases q
  · intro _ _ _ _ _ _ q; cases q; exact ⟨r2, id⟩
theorem Sl.new (r : Sl sz n h v l) (o : AO) : Sl sz n (h.new o) v l := r.ext (Keep.new (Nat.le_refl _) o)
end

/-- A slice that is one's own: appended to, or written. -/
def Vec (m : Nat) (F : Nat → Prop) (sz n : Nat) (h : Heap) (v : AV) (l : List AV) : Prop := (v = .nils ∧ l = [] ∧ n = 0) ∨
  (∃ b i cap ex c, v = .sl b i n cap sz ex ∧ (F b ∨ m ≤ b) ∧ b < h.next ∧ h.get b = some (.cells c false) ∧ l.length = n * sz ∧ i + cap * sz ≤ c.length ∧ n ≤ cap ∧ (c.drop i).take (n * sz) = l ∧ l.all AV.one = true)
section
variable {m sz n : Nat} {F : Nat → Prop} {h h' : Heap} {v : AV} {l : List AV}
theorem Vec.sl (r : Vec m F sz n h v l) : Sl sz n h v l := by
  rcases r with ⟨r1, r2, r3⟩ | ⟨b, i, cap, ex, c, r1, r2, r3, r4, r5, r6, r7, r8, r9⟩
  · exact .inl ⟨r1, r2, r3⟩
  · exact .inr (.inr ⟨b, i, cap, ex, c, false, r1, r3, r4, r5, Nat.le_trans (Nat.add_le_add_left (Nat.mul_le_mul_right _ r7) _) r6, r8, r7⟩)
theorem Vec.one (r : Vec m F sz n h v l) : l.all AV.one = true := by
  rcases r with ⟨r1, r2, r3⟩ | ⟨b, i, cap, ex, c, r1, r2, r3, r4, r5, r6, r7, r8, r9⟩
  · rw [r2]; rfl
  · exact r9
theorem Vec.nil (m sz : Nat) (F : Nat → Prop) (h : Heap) : Vec m F sz 0 h .nils [] := .inl ⟨rfl, rfl, rfl⟩
theorem Vec.weak {m' : Nat} {G : Nat → Prop} (r : Vec m F sz n h v l) (hF : ∀ b, F b ∨ m ≤ b → G b ∨ m' ≤ b) : Vec m' G sz n h v l := by
  rcases r with r | ⟨b, i, cap, ex, c, r1, r2, r3⟩
  · exact .inl r
  · exact .inr ⟨b, i, cap, ex, c, r1, hF b r2, r3⟩
theorem Vec.keep {m' : Nat} {G : Nat → Prop} (r : Vec m F sz n h v l) (K : Keep m' G h h') (hv : ∀ b i n c s x, v = .sl b i n c s x → b < m' ∧ ¬ G b) : Vec m F sz n h' v l := by
  rcases r with r | ⟨b, i, cap, ex, c, r1, r2, r3, r4, r5⟩
  · exact .inl r
  · obtain ⟨q1, q2⟩ := hv _ _ _ _ _ _ r1
    exact .inr ⟨b, i, cap, ex, c, r1, r2, Nat.lt_of_lt_of_le r3 K.1, by rw [K.2 b q1 q2]; exact r4, r5⟩
theorem Vec.ext (r : Vec m F sz n h v l) (K : Keep h.next (fun _ => False) h h') : Vec m F sz n h' v l := by
  refine r.keep K ?_
  rcases r with ⟨rfl, _⟩ | ⟨b, i, cap, ex, c, rfl, r2, r3, _⟩
  · intro _ _ _ _ _ _ q; cases q
  · intro _ _ _ _ _ _ q; cases q; exact ⟨r3, id⟩
theorem Vec.new (r : Vec m F sz n h v l) (o : AO) : Vec m F sz n (h.new o) v l := r.ext (Keep.new (Nat.le_refl _) o)
end

/-- Slices of a type: their elements' type, its cells and bytes. -/
structure Elem (P : Program) (st e : TypeId) (sz by_ : Nat) : Prop where
  und : P.underlying st = some (.slice e)
  info : ∃ ei zv, P.info? e = some ei ∧ ei.zero = some zv ∧ ei.size = sz ∧ zv.cells.size = sz ∧ ei.bytes = by_
  pos : 0 < sz ∧ 0 < by_ ∧ by_ ≤ 4096
def elemOk (P : Program) (st e : TypeId) (sz by_ : Nat) : Bool := match P.underlying st, P.info? e with
  | some (.slice e'), some ei => match ei.zero with
    | some zv => Nat.beq e e' && Nat.beq ei.size sz && Nat.beq zv.cells.size sz && Nat.beq ei.bytes by_ && Nat.ble 1 sz && Nat.ble 1 by_ && Nat.ble by_ 4096
    | none => false
  | _, _ => false
theorem Elem.of {P : Program} {st e : TypeId} {sz by_ : Nat} (h : elemOk P st e sz by_ = true) : Elem P st e sz by_ := by
  unfold elemOk at h
  split at h
  · rename_i e' ei h1 h2
    split at h
    · rename_i zv h3
      simp only [Bool.and_eq_true] at h
      obtain ⟨⟨⟨⟨⟨⟨a1, a2⟩, a3⟩, a4⟩, a5⟩, a6⟩, a7⟩ := h
      have a1 := Nat.eq_of_beq_eq_true a1
      subst a1
      exact ⟨h1, ⟨ei, zv, h2, h3, Nat.eq_of_beq_eq_true a2, Nat.eq_of_beq_eq_true a3, Nat.eq_of_beq_eq_true a4⟩, ⟨Nat.le_of_ble_eq_true a5, Nat.le_of_ble_eq_true a6, Nat.le_of_ble_eq_true a7⟩⟩
    · cases h
  · cases h

theorem layOver_all (vs c : List AV) (h : vs.length ≤ c.length) : layOver vs c = some (vs ++ c.drop vs.length) := by
  induction vs generalizing c with
  | nil => rfl
  | cons v vs ih =>
    cases c with
    | nil => simp at h
    | cons x c =>
      rw [layOver_cons, ih c (by simpa using h)]
      rfl
theorem layAt_all (c : List AV) (i : Nat) (vs : List AV) (h : i + vs.length ≤ c.length) : layAt c i vs = some (c.take i ++ vs ++ c.drop (i + vs.length)) := by
  induction c generalizing i with
  | nil =>
    cases i with
    | zero => rw [layAt_zero, layOver_all vs [] (by simpa using h)]; simp
    | succ i => simp at h
  | cons x c ih =>
    cases i with
    | zero => rw [layAt_zero, layOver_all vs (x :: c) (by simpa using h)]; simp
    | succ i =>
      rw [layAt_cons, ih i (by simp at h; omega)]
      simp [show i + 1 + vs.length = (i + vs.length) + 1 by omega]
theorem layAt_set {c : List AV} {i : Nat} {x : AV} (h : i < c.length) : layAt c i [x] = some (c.set i x) := by
  rw [layAt_all c i [x] (by simp; omega)]
  congr 1
  rw [List.set_eq_take_append_cons_drop, if_pos h]
  simp

/-- May it be appended? -/
def okApp : Option TypeDesc → Bool
  | some (.slice _) => true
  | some .string => true
  | _ => false

theorem vec_append {P : Program} {st xt e : TypeId} {sz by_ : Nat} (E : Elem P st e sz by_) (hx : okApp (P.underlying xt) = true) {m n : Nat} {F : Nat → Prop} {h : Heap} {v : AV} {l : List AV} (V : Vec m F sz n h v l)
    {x : AV} {k : Nat} {new : List AV} (x1 : alen x = some k) (x2 : acells h sz k x = some new) (x3 : new.all AV.one = true) (x4 : new.length = k * sz) (hf : n + k ≤ 1000000000) (hm : m ≤ h.next) :
    ∃ v' h', aappend P h st xt v x = some (v', h') ∧ Vec m F sz (n + k) h' v' (l ++ new) ∧ Keep m F h h' := by
  obtain ⟨ei, zv, e1, e2, e3, e4, e5⟩ := E.info
  obtain ⟨p1, p2, p3⟩ := E.pos
  subst e3
  subst e5
  have room1 : (n + k) * ei.bytes ≤ room := Nat.le_trans (Nat.mul_le_mul hf p3) (by decide)
  have room2 : k * ei.bytes ≤ room := Nat.le_trans (Nat.mul_le_mul_right _ (by omega)) room1
  have hne1 : ¬ (ei.size = 0 ∨ ei.bytes = 0 ∨ zv.cells.size ≠ ei.size) := by omega
  have hne2 : ¬ (new.all AV.one = false ∨ new.length ≠ k * ei.size) := by simp [x3, x4]
  have key : aappend P h st xt v x = match (generalizing := false) v with
      | .nils => if k = 0 then some (.nils, h) else if k * ei.bytes ≤ room then some (.sl h.next 0 k k ei.size false, h.new (.cells new false)) else none
      | .emp => if k = 0 then some (.emp, h) else none
      | .sl b i len cap sz ex => if sz ≠ ei.size then none else
        if k = 0 then some (.sl b i len cap sz ex, h)
        else if len + k ≤ cap then match alay h b (i + len * sz) new with
          | some h' => some (.sl b i (len + k) cap sz ex, h')
          | none => none
        else if (len + k) * ei.bytes ≤ room then match h.get b with
          | some (.cells c ro) => if i + len * sz ≤ c.length then
              if ((c.drop i).take (len * sz)).all AV.one = false then none else
              if ex then some (.sl h.next 0 (len + k) (len + k) sz false, h.new (.cells (((c.drop i).take (len * sz)) ++ new) false))
              else if ro then none
              else some (.sl h.next 0 (len + k) (len + k) sz false, (h.kill b).new (.cells (((c.drop i).take (len * sz)) ++ new) false))
            else none
          | _ => none
        else none
      | _ => none := by
    unfold aappend
    rw [E.und]
    cases hu : P.underlying xt with
    | none => rw [hu] at hx; cases hx
    | some xd =>
      rw [hu] at hx
      cases xd with
      | slice e' => simp only [e1, e2, if_neg hne1, x1, x2, if_neg hne2]; clear V; cases v <;> rfl
      | string => simp only [e1, e2, if_neg hne1, x1, x2, if_neg hne2]; clear V; cases v <;> rfl
      | _ => cases hx
  rw [key]
  rcases V with ⟨rfl, rfl, rfl⟩ | ⟨b, i, cap, ex, c, rfl, r2, r3, r4, r5, r6, r7, r8, r9⟩
  · by_cases hk : k = 0
    · subst hk
      have : new = [] := List.eq_nil_of_length_eq_zero (by simpa using x4)
      subst this
      exact ⟨.nils, h, by simp, .inl ⟨rfl, rfl, rfl⟩, Keep.refl _ _ _⟩
    · refine ⟨.sl h.next 0 k k ei.size false, h.new (.cells new false), by simp [hk, room2], .inr ⟨h.next, 0, k, false, new, by simp, .inr hm, Nat.lt_succ_self _, by simp, by simp [x4], by simp [x4], by omega, by simp [← x4], by simpa using x3⟩, Keep.new hm _⟩
  · by_cases hk : k = 0
    · subst hk
      have : new = [] := List.eq_nil_of_length_eq_zero (by simpa using x4)
      subst this
      exact ⟨.sl b i n cap ei.size ex, h, by simp, .inr ⟨b, i, cap, ex, c, by simp, r2, r3, r4, by simpa using r5, r6, by simpa using r7, by simpa using r8, by simpa using r9⟩, Keep.refl _ _ _⟩
    · have e6 : (n + k) * ei.size = n * ei.size + k * ei.size := Nat.add_mul _ _ _
      by_cases hc : n + k ≤ cap
      · have e7 : (n + k) * ei.size ≤ cap * ei.size := Nat.mul_le_mul_right _ hc
        have e8 : alay h b (i + n * ei.size) new = some (h.set b (.cells (c.take (i + n * ei.size) ++ new ++ c.drop (i + n * ei.size + new.length)) false)) := by
          unfold alay
          rw [r4]
          simp only
          rw [layAt_all c _ new (by omega)]
        refine ⟨.sl b i (n + k) cap ei.size ex, h.set b (.cells (c.take (i + n * ei.size) ++ new ++ c.drop (i + n * ei.size + new.length)) false), by simp [hk, hc, e8], .inr ⟨b, i, cap, ex, _, rfl, r2, r3, get_set_self _ _ _, ?_, ?_, hc, ?_, ?_⟩, Keep.set r2 _⟩
        · simp [r5, x4, e6]
        · simp; omega
        · rw [e6, ← x4, List.append_assoc, List.drop_append, List.length_take, Nat.min_eq_left (by omega), Nat.sub_eq_zero_of_le (by omega), List.drop_zero, List.drop_take, show i + n * ei.size - i = n * ei.size by omega, r8, List.take_append, List.take_of_length_le (by omega), r5,
            show n * ei.size + new.length - n * ei.size = new.length by omega, List.take_append, List.take_of_length_le (Nat.le_refl _), Nat.sub_self, List.take_zero, List.append_nil]
        · rw [List.all_append, r9, x3]; rfl
      · have e9 : (c.drop i).take (n * ei.size) = l := r8
        have e10 : i + n * ei.size ≤ c.length := Nat.le_trans (Nat.add_le_add_left (Nat.mul_le_mul_right _ r7) _) r6
        cases ex with
        | true =>
          refine ⟨.sl h.next 0 (n + k) (n + k) ei.size false, h.new (.cells (l ++ new) false), by simp [hk, hc, room1, r4, e10, e9, r9], .inr ⟨h.next, 0, n + k, false, l ++ new, rfl, .inr hm, Nat.lt_succ_self _, get_new_self _ _, by simp [r5, x4, e6], by simp [r5, x4, e6], Nat.le_refl _, ?_, ?_⟩, Keep.new hm _⟩
          · rw [List.drop_zero, List.take_of_length_le (by simp [r5, x4, e6])]
          · rw [List.all_append, r9, x3]; rfl
        | false =>
          refine ⟨.sl h.next 0 (n + k) (n + k) ei.size false, (h.kill b).new (.cells (l ++ new) false), by simp [hk, hc, room1, r4, e10, e9, r9], .inr ⟨h.next, 0, n + k, false, l ++ new, rfl, .inr hm, Nat.lt_succ_self _, get_new_self (h.kill b) _, by simp [r5, x4, e6], by simp [r5, x4, e6], Nat.le_refl _, ?_, ?_⟩, ?_⟩
          · rw [List.drop_zero, List.take_of_length_le (by simp [r5, x4, e6])]
          · rw [List.all_append, r9, x3]; rfl
          · refine ⟨Nat.le_succ _, fun d hd hF => ?_⟩
            rw [Heap.get_new, if_neg (by show ¬ h.next = d; omega), Heap.get_kill, if_neg ?_]
            rintro rfl
            rcases r2 with q | q
            · exact hF q
            · omega

/-- One element more. -/
theorem vec_push {P : Program} {st e : TypeId} {sz by_ : Nat} (E : Elem P st e sz by_) {m n : Nat} {F : Nat → Prop} {h : Heap} {v : AV} {l : List AV} (V : Vec m F sz n h v l) {a : List AV} {ex : Bool} (x3 : a.all AV.one = true) (x4 : a.length = sz)
    (hf : n < 1000000000) (hm : m ≤ h.next) :
    ∃ v' h', aappend P (h.new (.cells a false)) st st v (.sl h.next 0 1 1 sz ex) = some (v', h') ∧ Vec m F sz (n + 1) h' v' (l ++ a) ∧ Keep m F h h' := by
  obtain ⟨v', h', e1, e2, e3⟩ := vec_append E (xt := st) (by rw [E.und]; rfl) (V.new (.cells a false)) (x := .sl h.next 0 1 1 sz ex) (k := 1) (new := a) rfl (by simp [acells, Heap.row, x4]; rw [← x4, List.take_length]) x3 (by simp [x4]) (by omega) (by simp; omega)
  exact ⟨v', h', e1, e2, (Keep.new hm _).trans e3⟩

@[simp] theorem aop_buildSlice' {P : Program} {call : CallO} {t : Tr AV} {h : Heap} {d : Option Tmp} {ty : TypeId} {pos : String} {af : Array Edge} {g : Option (Nat × Bool)} (u : TypeId) (len : Nat) (parts : Array (Nat × Operand)) :
    aop P call t h ⟨d, .buildSlice u len parts, ty, pos, af, g⟩ = (aalloc P t ⟨d, .buildSlice u len parts, ty, pos, af, g⟩).map fun r => (r.2 h.next, h.new (.cells r.1 false)) := aop_buildSlice u len parts

/-- Comparisons, both ways. -/
theorem isLt {a b : Int} (h : a < b) : a < b ∧ ¬ b ≤ a := ⟨h, by omega⟩
theorem isLe {a b : Int} (h : a ≤ b) : a ≤ b ∧ ¬ b < a := ⟨h, by omega⟩

/-! Bits. -/
@[simp] theorem fshift_shl (k : IntKind) (x n : Nat) : fshift .shl k (x : Int) (n : Int) = some (.int k (fwrap k ((x * 2 ^ (Nat.min n k.bits) : Nat) : Int))) := rfl
@[simp] theorem fshift_shr (k : IntKind) (x n : Nat) : fshift .shr k (x : Int) (n : Int) = some (.int k ((x / 2 ^ (Nat.min n k.bits) : Nat) : Int)) := rfl
@[simp] theorem fshift_shl' (k : IntKind) (x : Nat) {n : Int} (h : 0 ≤ n) : fshift .shl k (x : Int) n = some (.int k (fwrap k ((x * 2 ^ (Nat.min n.toNat k.bits) : Nat) : Int))) := by
  obtain ⟨n, rfl⟩ := Int.eq_ofNat_of_zero_le h
  rfl
@[simp] theorem fshift_shr' (k : IntKind) (x : Nat) {n : Int} (h : 0 ≤ n) : fshift .shr k (x : Int) n = some (.int k ((x / 2 ^ (Nat.min n.toNat k.bits) : Nat) : Int)) := by
  obtain ⟨n, rfl⟩ := Int.eq_ofNat_of_zero_le h
  rfl
@[simp] theorem bits_i64 : IntKind.i64.bits = 64 := rfl
@[simp] theorem bits_u64 : IntKind.u64.bits = 64 := rfl
@[simp] theorem bits_u8 : IntKind.u8.bits = 8 := rfl
@[simp] theorem bits_u32 : IntKind.u32.bits = 32 := rfl
@[simp] theorem nat_min (a b : Nat) : Nat.min a b = min a b := rfl

/-! A block that is laid over as a whole. -/
theorem Tr.put_put {α : Type} : ∀ (d : Nat) (t : Tr α) (n : Nat) (v w : Option α), Tr.put d (Tr.put d t n v) n w = Tr.put d t n w
  | 0, t, n, v, w => rfl
  | d + 1, .lf, 0, v, w => rfl
  | d + 1, .nd u l r, 0, v, w => rfl
  | d + 1, .lf, n + 1, v, w => by
    simp only [Tr.put]
    cases hb : Nat.beq (n % 2) 0 <;> simp only [Tr.put, hb, Tr.put_put d _ (n / 2) v w]
  | d + 1, .nd u l r, n + 1, v, w => by
    simp only [Tr.put]
    cases hb : Nat.beq (n % 2) 0 <;> simp only [Tr.put, hb, Tr.put_put d _ (n / 2) v w]
@[simp] theorem set_new (h : Heap) (o o' : AO) : (h.new o).set h.next o' = h.new o' := by
  unfold Heap.new Heap.set
  simp only
  congr 1
  exact Tr.put_put _ _ _ _ _
@[simp] theorem set_set (h : Heap) (b : Nat) (o o' : AO) : (h.set b o).set b o' = h.set b o' := by
  unfold Heap.set
  simp only
  congr 1
  exact Tr.put_put _ _ _ _ _
theorem alay_new {h : Heap} {c vs : List AV} (hl : vs.length = c.length) : alay (h.new (.cells c false)) h.next 0 vs = some (h.new (.cells vs false)) := by
  unfold alay
  rw [get_new_self]
  simp only
  rw [layAt_all _ _ _ (by omega)]
  simp [hl]

/-! The lesser of numbers. -/
theorem pure_min2 (P : Program) (ρ : Operand → Value) (d : Option Tmp) (ty t1 t2 : TypeId) (pos : String) (af : Array Edge) (g : Option (Nat × Bool)) (x y : Operand) (m n : Int) (hx : ρ x = .int .i64 m) (hy : ρ y = .int .i64 n) :
  semPure P (execOp ρ ⟨d, .call ⟨.builtin .min, #[x, y], #[t1, t2]⟩, ty, pos, af, g⟩) = some (.value (.int .i64 (if n < m then n else m))) := by
  simp [execOp, resolve, hx, hy, invoke, builtin, Builtin.min_, Builtin.min2]
  rfl
theorem pure_min3 (P : Program) (ρ : Operand → Value) (d : Option Tmp) (ty t1 t2 t3 : TypeId) (pos : String) (af : Array Edge) (g : Option (Nat × Bool)) (x y z : Operand) (m n l : Int) (hx : ρ x = .int .i64 m) (hy : ρ y = .int .i64 n) (hz : ρ z = .int .i64 l) :
  semPure P (execOp ρ ⟨d, .call ⟨.builtin .min, #[x, y, z], #[t1, t2, t3]⟩, ty, pos, af, g⟩) = some (.value (.int .i64 (if l < (if n < m then n else m) then l else (if n < m then n else m)))) := by
  simp [execOp, resolve, hx, hy, hz, invoke, builtin, Builtin.min_, Builtin.min2]
  rfl
theorem aop_min2 {P : Program} {call : CallO} {t : Tr AV} {h : Heap} {d : Option Tmp} {ty t1 t2 : TypeId} {pos : String} {af : Array Edge} {g : Option (Nat × Bool)} {x y : Operand} {m n : Nat} (hx : ev t x = .int .i64 (m : Nat)) (hy : ev t y = .int .i64 (n : Nat)) :
    aop P call t h ⟨d, .call ⟨.builtin .min, List.toArray [x, y], List.toArray [t1, t2]⟩, ty, pos, af, g⟩ = some (.int .i64 ((min m n : Nat) : Int), h) := by
  have e : aback P t ⟨d, .call ⟨.builtin .min, List.toArray [x, y], List.toArray [t1, t2]⟩, ty, pos, af, g⟩ = some (.int .i64 ((min m n : Nat) : Int)) := by
    have := pure_min2 P (fun x => ((ev t x).val?).getD undef) d ty t1 t2 pos af g x y m n (by simp [hx, AV.val?]) (by simp [hy, AV.val?])
    unfold aback
    simp [Op.operands, Call.operands, hx, hy, AV.val?, this]
    omega
  have e2 : apure P t ⟨d, .call ⟨.builtin .min, List.toArray [x, y], List.toArray [t1, t2]⟩, ty, pos, af, g⟩ = some (.int .i64 ((min m n : Nat) : Int)) := e
  unfold aop
  rw [e2]
theorem aop_min3 {P : Program} {call : CallO} {t : Tr AV} {h : Heap} {d : Option Tmp} {ty t1 t2 t3 : TypeId} {pos : String} {af : Array Edge} {g : Option (Nat × Bool)} {x y z : Operand} {m n l : Nat} (hx : ev t x = .int .i64 (m : Nat)) (hy : ev t y = .int .i64 (n : Nat)) (hz : ev t z = .int .i64 (l : Nat)) :
    aop P call t h ⟨d, .call ⟨.builtin .min, List.toArray [x, y, z], List.toArray [t1, t2, t3]⟩, ty, pos, af, g⟩ = some (.int .i64 ((min (min m n) l : Nat) : Int), h) := by
  have e : aback P t ⟨d, .call ⟨.builtin .min, List.toArray [x, y, z], List.toArray [t1, t2, t3]⟩, ty, pos, af, g⟩ = some (.int .i64 ((min (min m n) l : Nat) : Int)) := by
    have := pure_min3 P (fun x => ((ev t x).val?).getD undef) d ty t1 t2 t3 pos af g x y z m n l (by simp [hx, AV.val?]) (by simp [hy, AV.val?]) (by simp [hz, AV.val?])
    unfold aback
    simp [Op.operands, Call.operands, hx, hy, hz, AV.val?, this]
    omega
  have e2 : apure P t ⟨d, .call ⟨.builtin .min, List.toArray [x, y, z], List.toArray [t1, t2, t3]⟩, ty, pos, af, g⟩ = some (.int .i64 ((min (min m n) l : Nat) : Int)) := e
  unfold aop
  rw [e2]

/-! Bools and texts: through the model. -/
section
variable {P : Program} {t : Tr AV} {d : Option Tmp} {ty tv v : TypeId} {pos : String} {af : Array Edge} {g : Option (Nat × Bool)} {x y : Operand}
theorem semPure_bind {α β : Type} (P : Program) : ∀ (s : Sem α) (f : α → Sem β) {a : α}, semPure P s = some a → semPure P (s >>= f) = semPure P (f a)
  | .pure b, f, a, h => by simp [semPure] at h; subst h; rfl
  | .program k, f, a, h => by
    have := semPure_bind P (k P) f h
    exact this
  | .mark q k, f, a, h => by
    have := semPure_bind P k f h
    exact this
  | .choose q k, f, a, h => by
    simp only [semPure] at h
    split at h
    · rename_i hf
      have := semPure_bind P (k 0) f h
      show (if q.forced then _ else _) = _
      rw [if_pos hf]
      exact this
    · cases h
  | .load .., f, a, h => by simp [semPure] at h
  | .store .., f, a, h => by simp [semPure] at h
  | .new .., f, a, h => by simp [semPure] at h
  | .shape .., f, a, h => by simp [semPure] at h
  | .freeze .., f, a, h => by simp [semPure] at h
  | .frozen .., f, a, h => by simp [semPure] at h
  | .getObj .., f, a, h => by simp [semPure] at h
  | .setObj .., f, a, h => by simp [semPure] at h
  | .sys .., f, a, h => by simp [semPure] at h
  | .halt .., f, a, h => by simp [semPure] at h
theorem semPure_und {P : Program} {ty : TypeId} {u : TypeDesc} (hu : P.underlying ty = some u) : semPure P (underlying ty) = some u := by
  unfold underlying
  rw [semPure_bind P program _ (a := P) rfl, hu]
  rfl
theorem equal_bool {a b : Bool} (hu : P.underlying ty = some .bool) : semPure P (Op.equal ty (.bool a) (.bool b)) = some (a == b) := by
  show semPure P (Op.equalIn (_ + 1) ty (.bool a) (.bool b)) = _
  unfold Op.equalIn
  rw [semPure_bind P _ _ (semPure_und hu)]
  rfl
theorem aback_eql_bool {a b : Bool} (hx : ev t x = .bool a) (hy : ev t y = .bool b) (hu : P.underlying ty = some .bool) : aback P t ⟨d, .binOp .eql ty x y tv, v, pos, af, g⟩ = some (.bool (a == b)) := by
  have : semPure P (execOp (fun x => ((ev t x).val?).getD undef) ⟨d, .binOp .eql ty x y tv, v, pos, af, g⟩) = some (.value (.bool (a == b))) := by
    simp only [execOp, hx, hy, AV.val?, Option.getD_some]
    have e1 : semPure P (do
        eqGuard .eql ty x y (.bool a) (.bool b)
        binOp .eql ty (.bool a) (.bool b)) = some (.bool (a == b)) := by
      rw [semPure_bind P (eqGuard .eql ty x y (.bool a) (.bool b)) _ (a := ()) rfl]
      show semPure P (Op.equal ty (.bool a) (.bool b) >>= fun r => pure (Value.bool r)) = _
      rw [semPure_bind P _ _ (equal_bool hu)]
      rfl
    rw [semPure_bind P _ _ e1]
    rfl
  unfold aback
  simp [Op.operands, hx, hy, AV.val?, this]
theorem aback_str {a b : ByteArray} {op : BinOp} (hx : ev t x = .str a) (hy : ev t y = .str b) (hop : op = .eql ∨ op = .neq ∨ op = .lss ∨ op = .leq ∨ op = .gtr ∨ op = .geq) : aback P t ⟨d, .binOp op ty x y tv, v, pos, af, g⟩ =
   some (.bool (match op with | .eql => a.toList == b.toList | .neq => !(a.toList == b.toList) | .lss => Op.bytesLess a.toList b.toList | .leq => (Op.bytesLess a.toList b.toList || a.toList == b.toList) | .gtr => !(Op.bytesLess a.toList b.toList || a.toList == b.toList) | _ => !(Op.bytesLess a.toList b.toList))) := by
  unfold aback
  rcases hop with rfl | rfl | rfl | rfl | rfl | rfl <;> simp [Op.operands, hx, hy, AV.val?, execOp, eqGuard, binOp, Op.stringOp]
  all_goals rfl
theorem aback_cat {a b : ByteArray} (hx : ev t x = .str a) (hy : ev t y = .str b) (hl : a.size + b.size ≤ 9223372036854775807) : aback P t ⟨d, .binOp .add ty x y tv, v, pos, af, g⟩ = some (.str (a ++ b)) := by
  unfold aback
  simp [Op.operands, hx, hy, AV.val?, execOp, eqGuard, binOp, Op.stringOp]
  rw [if_neg (by omega)]
  rfl
theorem aback_shr {a n : Int} {k k' : IntKind} (hx : ev t x = .int k a) (hy : ev t y = .int k' n) (hn : 0 ≤ n) : aback P t ⟨d, .binOp .shr ty x y tv, v, pos, af, g⟩ = some (.int k (a.fdiv (2 ^ (min n.toNat k.bits)))) := by
  have hn' : ¬ n < 0 := by omega
  unfold aback
  simp [Op.operands, hx, hy, AV.val?, execOp, eqGuard, binOp, Op.shift, hn']
  rfl
/-- Comparisons and sums that go through the model: bools and texts. -/
def bcmp (P : Program) (op : BinOp) (ty : TypeId) (x y : AV) : Option AV := match op, x, y with
  | .eql, .bool a, .bool b => match P.underlying ty with
    | some .bool => some (.bool (a == b))
    | _ => none
  | .eql, .str a, .str b => some (.bool (a.toList == b.toList))
  | .neq, .str a, .str b => some (.bool (!(a.toList == b.toList)))
  | .add, .str a, .str b => if a.size + b.size ≤ 9223372036854775807 then some (.str (a ++ b)) else none
  | .shr, .int k a, .int _ n => if 0 ≤ n then some (.int k (a.fdiv (2 ^ (min n.toNat k.bits)))) else none
  | _, _, _ => none
def aback0 (P : Program) (t : Tr AV) (o : Oper) : Option AV := aback P t o
theorem aback_bin {op : BinOp} : aback P t ⟨d, .binOp op ty x y tv, v, pos, af, g⟩ = match bcmp P op ty (ev t x) (ev t y) with
    | some u => some u
    | none => aback0 P t ⟨d, .binOp op ty x y tv, v, pos, af, g⟩ := by
  cases hb : bcmp P op ty (ev t x) (ev t y) with
  | none => rfl
  | some u =>
    simp only
    unfold bcmp at hb
    split at hb
    · rename_i hx hy
      split at hb
      · rename_i hu
        rw [aback_eql_bool hx hy hu]; exact hb
      · cases hb
    · rename_i hx hy
      rw [aback_str hx hy (.inl rfl)]; exact hb
    · rename_i hx hy
      rw [aback_str hx hy (.inr (.inl rfl))]; exact hb
    · rename_i hx hy
      split at hb
      · rename_i hl
        rw [aback_cat hx hy hl]; exact hb
      · cases hb
    · rename_i hx hy
      split at hb
      · rename_i hl
        rw [aback_shr hx hy hl]; exact hb
      · cases hb
    · cases hb
attribute [simp] aback_bin
@[simp] theorem bcmp_shr {k k' : IntKind} {a n : Int} : bcmp P .shr ty (.int k a) (.int k' n) = if 0 ≤ n then some (.int k (a.fdiv (2 ^ (min n.toNat k.bits)))) else none := rfl
@[simp] theorem bcmp_bool {a b : Bool} : bcmp P .eql ty (.bool a) (.bool b) = match P.underlying ty with
    | some .bool => some (.bool (a == b))
    | _ => none := rfl
@[simp] theorem bcmp_eqS {a b : ByteArray} : bcmp P .eql ty (.str a) (.str b) = some (.bool (a.toList == b.toList)) := rfl
@[simp] theorem bcmp_neS {a b : ByteArray} : bcmp P .neq ty (.str a) (.str b) = some (.bool (!(a.toList == b.toList))) := rfl
@[simp] theorem bcmp_cat {a b : ByteArray} : bcmp P .add ty (.str a) (.str b) = if a.size + b.size ≤ 9223372036854775807 then some (.str (a ++ b)) else none := rfl
theorem aback_neg {a : Int} {k : IntKind} (hx : ev t x = .int k a) : aback P t ⟨d, .unOp .neg ty x, v, pos, af, g⟩ = some (.int k (k.wrap (0 - a))) := by
  unfold aback
  simp [Op.operands, hx, AV.val?, execOp, Op.unary, Op.intArith]
  rfl
theorem com64 {a : Int} (h : -9223372036854775808 ≤ a) (h' : a ≤ 9223372036854775807) : IntKind.i64.wrap ((BitVec.ofInt 64 (-1) ^^^ BitVec.ofInt 64 a).toNat : Nat) = -1 - a := by
  rw [show BitVec.ofInt 64 (-1) = BitVec.allOnes 64 from by decide, BitVec.allOnes_xor, BitVec.toNat_not, BitVec.toNat_ofInt]
  simp [IntKind.wrap, IntKind.signed, IntKind.bits]
  omega
theorem com_bits {a : Int} (h : -9223372036854775808 ≤ a) (h' : a ≤ 9223372036854775807) : Op.intBits .xor .i64 (if IntKind.i64.signed then -1 else IntKind.i64.max) a = pure (.int .i64 (-1 - a)) := by
  show pure (Value.int .i64 (IntKind.i64.wrap ((BitVec.ofInt 64 (-1) ^^^ BitVec.ofInt 64 a).toNat : Nat))) = _
  rw [com64 h h']
theorem aback_com {a : Int} (hx : ev t x = .int .i64 a) (h : -9223372036854775808 ≤ a) (h' : a ≤ 9223372036854775807) : aback P t ⟨d, .unOp .xor ty x, v, pos, af, g⟩ = some (.int .i64 (-1 - a)) := by
  unfold aback
  simp only [Op.operands, execOp, hx, AV.val?, Option.getD_some, Op.unary, com_bits h h']
  simp [hx, AV.val?]
  rfl
/-- Numbers turned: through the model. -/
def ucmp (op : UnOp) (x : AV) : Option AV := match op, x with
  | .neg, .int k a => some (.int k (fwrap k (0 - a)))
  | .xor, .int .i64 a => if -9223372036854775808 ≤ a ∧ a ≤ 9223372036854775807 then some (.int .i64 (-1 - a)) else none
  | _, _ => none
theorem aback_un {op : UnOp} : aback P t ⟨d, .unOp op ty x, v, pos, af, g⟩ = match ucmp op (ev t x) with
    | some u => some u
    | none => aback0 P t ⟨d, .unOp op ty x, v, pos, af, g⟩ := by
  cases hb : ucmp op (ev t x) with
  | none => rfl
  | some u =>
    simp only
    unfold ucmp at hb
    split at hb
    · rename_i hx
      rw [aback_neg hx, ← fwrap_eq]; exact hb
    · rename_i hx
      split at hb
      · rename_i hl
        rw [aback_com hx hl.1 hl.2]; exact hb
      · cases hb
    · cases hb
attribute [simp] aback_un
@[simp] theorem ucmp_neg {a : Int} {k : IntKind} : ucmp .neg (.int k a) = some (.int k (fwrap k (0 - a))) := rfl
@[simp] theorem ucmp_com {a : Int} : ucmp .xor (.int .i64 a) = if -9223372036854775808 ≤ a ∧ a ≤ 9223372036854775807 then some (.int .i64 (-1 - a)) else none := rfl
@[simp] theorem aeql_bool {a b : Bool} : aeql P ty (.bool a) (.bool b) = none := by
  unfold aeql
  cases P.underlying ty with
  | none => rfl
  | some u => cases u <;> rfl
@[simp] theorem aeql_str {a b : ByteArray} : aeql P ty (.str a) (.str b) = none := by
  unfold aeql
  cases P.underlying ty with
  | none => rfl
  | some u => cases u <;> rfl
end

@[simp] theorem aop_makeFunc {P : Program} {call : CallO} {t : Tr AV} {h : Heap} {d : Option Tmp} {ty : TypeId} {pos : String} {af : Array Edge} {g : Option (Nat × Bool)} (f : FuncId) (l : List Operand) :
    aop P call t h ⟨d, .makeFunc (.func f) (List.toArray []) (List.toArray l), ty, pos, af, g⟩ = some (.fn f (l.map (ev t)), h) := rfl

/-! Conversions. -/
/-- Numbers; bytes as a text; a text as bytes, in new memory. -/
def aconv (P : Program) (h : Heap) (src dst : TypeId) (a : AV) : Option (AV × Heap) :=
  match P.underlying src, P.underlying dst, a with
  | some _, some (.int k), .int _ n => some (.int k (fwrap k n), h)
  | some (.slice e), some .string, a => match P.underlying e with
    | some (.int .u8) => match a with
      | .nils => some (.str .empty, h)
      | .emp => some (.str .empty, h)
      | .sl b i len _ 1 _ => match h.row b with
        | some c => if i + len ≤ c.length then match abytes ((c.drop i).take len) with
          | some l => some (.str ⟨⟨l⟩⟩, h)
          | none => none else none
        | none => none
      | _ => none
    | _ => none
  | some .string, some (.slice e), .str s => match P.underlying e with
    | some (.int .u8) => some (.sl h.next 0 s.size s.size 1 false, h.new (.cells (s.data.toList.map fun b => .int .u8 b.toNat) false))
    | _ => none
  | _, _, _ => none
noncomputable def aop0 (P : Program) (call : CallO) (t : Tr AV) (h : Heap) (o : Oper) : Option (AV × Heap) := aop P call t h o
@[simp] theorem aop_convE {P : Program} {call : CallO} {t : Tr AV} {h : Heap} {d : Option Tmp} {ty src dst : TypeId} {pos : String} {af : Array Edge} {g : Option (Nat × Bool)} {x : Operand} :
    aop P call t h ⟨d, .convert src dst x, ty, pos, af, g⟩ = match aconv P h src dst (ev t x) with
      | some r => some r
      | none => aop0 P call t h ⟨d, .convert src dst x, ty, pos, af, g⟩ := by
  cases hc : aconv P h src dst (ev t x) with
  | none => rfl
  | some r =>
    simp only
    unfold aconv at hc
    rw [aop_conv, apure_conv]
    split at hc
    · rename_i hs hd hx
      rw [hx, hd, hs]
      exact hc
    · rename_i e hs hd
      split at hc
      · rename_i he
        split at hc
        · rename_i hx
          have : aread P t h ⟨d, .convert src dst x, ty, pos, af, g⟩ = some (.str .empty) := by unfold aread; simp only [hs, hd, hx, he]
          rw [hx, hd, this]; exact hc
        · rename_i hx
          have : aread P t h ⟨d, .convert src dst x, ty, pos, af, g⟩ = some (.str .empty) := by unfold aread; simp only [hs, hd, hx, he]
          rw [hx, hd, this]; exact hc
        · rename_i b i len cap ex hx
          split at hc
          · rename_i c hr
            split at hc
            · rename_i hle
              split at hc
              · rename_i l hl
                have : aread P t h ⟨d, .convert src dst x, ty, pos, af, g⟩ = some (.str ⟨⟨l⟩⟩) := by unfold aread; simp only [hs, hd, hx, he, hr, hle, if_true, hl]
                rw [hx, hd, this]; exact hc
              · cases hc
            · cases hc
          · cases hc
        · cases hc
      · cases hc
    · rename_i e s hs hd hx
      split at hc
      · rename_i he
        have e1 : aread P t h ⟨d, .convert src dst x, ty, pos, af, g⟩ = none := by unfold aread; simp only [hs, hd, hx]
        have e2 : aeff P call t h ⟨d, .convert src dst x, ty, pos, af, g⟩ = r := by
          rw [← hc]
          unfold aeff aalloc
          simp only [hs, hd, hx, he]
        rw [hx, hd, e1]
        exact e2
      · cases hc
    · cases hc
@[simp] theorem aconv_int {P : Program} {h : Heap} {src dst : TypeId} {j : IntKind} {n : Int} : aconv P h src dst (.int j n) = match P.underlying src, P.underlying dst with
    | some _, some (.int k) => some (.int k (fwrap k n), h)
    | _, _ => none := by
  unfold aconv
  cases P.underlying src with
  | none => rfl
  | some u =>
    cases P.underlying dst with
    | none => cases u <;> rfl
    | some w =>
      cases w <;> cases u <;> first | rfl | (simp only; split <;> rfl)
@[simp] theorem aconv_str {P : Program} {h : Heap} {src dst : TypeId} {s : ByteArray} : aconv P h src dst (.str s) = match P.underlying src, P.underlying dst with
    | some .string, some (.slice e) => (match P.underlying e with
      | some (.int .u8) => some (.sl h.next 0 s.size s.size 1 false, h.new (.cells (s.data.toList.map fun b => .int .u8 b.toNat) false))
      | _ => none)
    | _, _ => none := by
  unfold aconv
  cases P.underlying src with
  | none => rfl
  | some u =>
    cases P.underlying dst with
    | none => cases u <;> rfl
    | some w =>
      cases w <;> cases u <;> first | rfl | (simp only; split <;> rfl)

/-! New slices of a length. -/
@[simp] theorem aop_makeSlice {P : Program} {call : CallO} {t : Tr AV} {h : Heap} {d : Option Tmp} {ty : TypeId} {pos : String} {af : Array Edge} {g : Option (Nat × Bool)} (u : TypeId) (x y : Operand) :
    aop P call t h ⟨d, .makeSlice u x y, ty, pos, af, g⟩ = (aalloc P t ⟨d, .makeSlice u x y, ty, pos, af, g⟩).map fun r => (r.2 h.next, h.new (.cells r.1 false)) := by
  show (match aalloc P t ⟨d, .makeSlice u x y, ty, pos, af, g⟩ with | some (cs, mk) => some (mk h.next, h.new (.cells cs false)) | none => none) = _
  cases aalloc P t ⟨d, .makeSlice u x y, ty, pos, af, g⟩ <;> rfl
theorem aalloc_make {P : Program} {st e : TypeId} {sz by_ : Nat} (E : Elem P st e sz by_) {z : List AV} (hz : azero P e = some z) (hl : z.length = sz) (ho : z.all AV.one = true) (n m : Nat) (hnm : n ≤ m) (hm : m ≤ 1000000000)
    {t : Tr AV} {d : Option Tmp} {ty : TypeId} {pos : String} {af : Array Edge} {g : Option (Nat × Bool)} {x y : Operand} (hx : ev t x = .int .i64 (n : Nat)) (hy : ev t y = .int .i64 (m : Nat)) :
    aalloc P t ⟨d, .makeSlice st x y, ty, pos, af, g⟩ = some ((List.replicate m z).flatten, fun b => .sl b 0 n m sz true) := by
  obtain ⟨ei, zv, e1, e2, e3, e4, e5⟩ := E.info
  obtain ⟨p1, p2, p3⟩ := E.pos
  unfold aalloc
  simp only [E.und, hx, hy, e1, hz]
  have hb : m * ei.bytes ≤ 1000000000 * 4096 := Nat.mul_le_mul hm (by omega)
  have hb' : ((m : Nat) : Int) * ((ei.bytes : Nat) : Int) ≤ 281474976710656 := by
    rw [← Int.natCast_mul]; omega
  rw [if_pos ⟨by omega, by omega, hb', by omega, by omega, by omega, ho⟩]
  simp [e3]
theorem aalloc_make0 {P : Program} {st e : TypeId} {sz by_ : Nat} (E : Elem P st e sz by_) {z : List AV} (hz : azero P e = some z) (hl : z.length = sz) (ho : z.all AV.one = true) (m : Nat) (hm : m ≤ 1000000000)
    {t : Tr AV} {d : Option Tmp} {ty : TypeId} {pos : String} {af : Array Edge} {g : Option (Nat × Bool)} {y : Operand} (hy : ev t y = .int .i64 (m : Nat)) :
    aalloc P t ⟨d, .makeSlice st (.const (.int .i64 0)) y, ty, pos, af, g⟩ = some ((List.replicate m z).flatten, fun b => .sl b 0 0 m sz true) := aalloc_make E hz hl ho 0 m (Nat.zero_le _) hm rfl hy
theorem flat1 (n : Nat) (a : AV) : (List.replicate n [a]).flatten = List.replicate n a := by
  induction n with
  | zero => rfl
  | succ n ih => rw [List.replicate_succ, List.flatten_cons, ih]; rfl

/-! Parts of texts and slices. -/
section
variable {P : Program} {ty : TypeId}
theorem aslice_strTo (hu : P.underlying ty = some .string) {s : ByteArray} {k : IntKind} {n : Int} (h0 : 0 ≤ n) (h1 : n ≤ (s.size : Nat)) : aslice P ty (.str s) none (some (.int k n)) none = some (.str (s.extract 0 n.toNat)) := by
  unfold aslice
  rw [hu]
  simp [abnds, abound, h0, h1]
theorem aslice_strFrom (hu : P.underlying ty = some .string) {s : ByteArray} {k : IntKind} {n : Int} (h0 : 0 ≤ n) (h1 : n ≤ (s.size : Nat)) : aslice P ty (.str s) (some (.int k n)) none none = some (.str (s.extract n.toNat s.size)) := by
  unfold aslice
  rw [hu]
  simp [abnds, abound, h0, h1]
/-- A slice's first elements. -/
theorem Sl.to {sz n : Nat} {h : Heap} {v : AV} {l : List AV} (r : Sl sz n h v l) {e : TypeId} (hu : P.underlying ty = some (.slice e)) (hs : tsize P e = some sz) {k : IntKind} {j : Nat} (hj : j ≤ n) :
    ∃ v', aslice P ty v none (some (.int k (j : Nat))) none = some v' ∧ Sl sz j h v' (l.take (j * sz)) := by
  rcases r with ⟨rfl, rfl, rfl⟩ | ⟨rfl, rfl, rfl⟩ | ⟨b, i, cap, ex, c, ro, rfl, h0, h1, h2, h3, h4, h5⟩
  · obtain rfl : j = 0 := by omega
    exact ⟨.nils, by simp [aslice, hu, hs, abnds, abound], .inl ⟨rfl, by simp, rfl⟩⟩
  · obtain rfl : j = 0 := by omega
    exact ⟨.emp, by simp [aslice, hu, hs, abnds, abound], .inr (.inl ⟨rfl, by simp, rfl⟩)⟩
  · have hle : j * sz ≤ n * sz := Nat.mul_le_mul_right _ hj
    refine ⟨.sl b i j cap sz ex, ?_, .inr (.inr ⟨b, i, cap, ex, c, ro, rfl, h0, h1, ?_, by omega, ?_, by omega⟩)⟩
    · have : (j : Int) ≤ (cap : Int) := by omega
      simp [aslice, hu, hs, asub, abnds, abound, this]
    · rw [List.length_take, h2, Nat.min_eq_left hle]
    · rw [← h4, List.take_take, Nat.min_eq_left hle]
/-- .. and those behind them. -/
theorem Sl.from {sz n : Nat} {h : Heap} {v : AV} {l : List AV} (r : Sl sz n h v l) {e : TypeId} (hu : P.underlying ty = some (.slice e)) (hs : tsize P e = some sz) {k : IntKind} {j : Nat} (hj : j ≤ n) :
    ∃ v', aslice P ty v (some (.int k (j : Nat))) none none = some v' ∧ Sl sz (n - j) h v' (l.drop (j * sz)) := by
  rcases r with ⟨rfl, rfl, rfl⟩ | ⟨rfl, rfl, rfl⟩ | ⟨b, i, cap, ex, c, ro, rfl, h0, h1, h2, h3, h4, h5⟩
  · obtain rfl : j = 0 := by omega
    exact ⟨.nils, by simp [aslice, hu, hs, abnds, abound], .inl ⟨rfl, by simp, rfl⟩⟩
  · obtain rfl : j = 0 := by omega
    exact ⟨.emp, by simp [aslice, hu, hs, abnds, abound], .inr (.inl ⟨rfl, by simp, rfl⟩)⟩
  · have hle : j * sz ≤ n * sz := Nat.mul_le_mul_right _ hj
    have hj' : (j : Int) ≤ (n : Int) := by omega
    by_cases hj0 : j = 0
    · subst hj0
      refine ⟨.sl b i n cap sz ex, by simp [aslice, hu, hs, asub, abnds, abound], .inr (.inr ⟨b, i, cap, ex, c, ro, rfl, h0, h1, by simp [h2], h3, by simp [h4], h5⟩)⟩
    · by_cases hjc : j < cap
      · refine ⟨.sl b (i + j * sz) (n - j) (cap - j) sz ex, by simp [aslice, hu, hs, asub, abnds, abound, hj', hj0, hjc], .inr (.inr ⟨b, i + j * sz, cap - j, ex, c, ro, rfl, h0, h1, ?_, ?_, ?_, by omega⟩)⟩
        · rw [List.length_drop, h2, Nat.sub_mul]
        · rw [Nat.sub_mul]; omega
        · rw [← h4, List.drop_take, List.drop_drop, Nat.sub_mul]
      · obtain rfl : j = n := by omega
        obtain rfl : j = cap := by omega
        have hd : l.drop (j * sz) = [] := List.drop_of_length_le (by omega)
        cases ex with
        | true => 
          refine ⟨.sl b i 0 0 sz true, by simp [aslice, hu, hs, asub, abnds, abound, hj0], .inr (.inr ⟨b, i, 0, true, c, ro, by simp, h0, h1, by simp [hd], by simp; omega, by simp [hd], by simp⟩)⟩
        | false => exact ⟨.emp, by simp [aslice, hu, hs, asub, abnds, abound, hj0], .inr (.inl ⟨rfl, hd, by simp⟩)⟩
end

end Go.YtcgafaecdjbmiaaAbs
