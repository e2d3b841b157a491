/- Drawn regions in which old memory stays: whatever the order, what is read is the same. -/
import Derived.Test.YtcgafaecdjbmiaaAbsV
namespace Go.YtcgafaecdjbmiaaAbs
open Go Go.RowKit

def pairSt2 (P : Program) (an : List Nat) (i : Nat) (x : Oper) (j : Nat) (y : Oper) : Bool :=
  Nat.beq i j || ordered an i j || !(mayEff P y && mayEff P x)
def rowSt2 (P : Program) (an : List Nat) (i : Nat) (x : Oper) : List Oper → Nat → Bool
  | [], _ => true
  | y :: r, j => pairSt2 P an i x j y && rowSt2 P an i x r (j + 1)
def allSt2 (P : Program) (an : List Nat) (all : List Oper) : List Oper → Nat → Bool
  | [], _ => true
  | x :: r, i => rowSt2 P an i x all 0 && allSt2 P an all r (i + 1)
/-- The edges order the effects. -/
def growOk (P : Program) (ops : Array Oper) : Bool := staticOk ops && (lates P ops (ancs ops) ops.toList 0).isEmpty && allSt2 P (ancs ops) ops.toList ops.toList 0
theorem rowSt2_spec {P : Program} {an : List Nat} {i : Nat} {x : Oper} : ∀ (l : List Oper) (k : Nat), rowSt2 P an i x l k = true → ∀ (j : Nat) y, l[j]? = some y → pairSt2 P an i x (k + j) y = true
  | [], _, _, j, y, h => by simp at h
  | z :: l, k, hb, j, y, h => by
    simp only [rowSt2, Bool.and_eq_true] at hb
    cases j with
    | zero => simp at h; subst h; exact hb.1
    | succ j =>
      have := rowSt2_spec l (k + 1) hb.2 j y (by simpa using h)
      rw [show k + 1 + j = k + (j + 1) by omega] at this
      exact this
theorem allSt2_spec {P : Program} {an : List Nat} {all : List Oper} : ∀ (l : List Oper) (k : Nat), allSt2 P an all l k = true → ∀ (i : Nat) x, l[i]? = some x → ∀ (j : Nat) y, all[j]? = some y → pairSt2 P an (k + i) x j y = true
  | [], _, _, i, x, h => by simp at h
  | z :: l, k, hb, i, x, h => by
    simp only [allSt2, Bool.and_eq_true] at hb
    intro j y hj
    cases i with
    | zero =>
      simp at h; subst h
      have := rowSt2_spec all 0 hb.1 j y hj
      simpa using this
    | succ i =>
      have := allSt2_spec l (k + 1) hb.2 i x (by simpa using h) j y hj
      rw [show k + 1 + i = k + (i + 1) by omega] at this
      exact this

/-- Below N the heaps are the same. -/
def Agree (N : Nat) (h h' : Heap) : Prop := ∀ c, c < N → h'.get c = h.get c
/-- What is asked of one operation: what it reads is old; what it writes is new. -/
def obl (P : Program) (N : Nat) (s : St) (o : Oper) (p : AV × Heap) : Prop := match o.op with
  | .load ty x => match ev s.t x with
    | .ptr b i => b < N ∧ aload P s.h ty b i = some p.1 ∧ sameAV p.1 p.1 = true
    | _ => False
  | _ => (mayRead P o = true → apure P s.t o = some p.1) ∧ (mayEff P o = true → Agree N s.h p.2)
theorem obl_read {P : Program} {N : Nat} {s : St} {o : Oper} {p : AV × Heap} (h : obl P N s o p) (hp : apure P s.t o = none) (hr : aread P s.t s.h o = some p.1) : ∀ h1, Agree N s.h h1 → aread P s.t h1 o = some p.1 ∧ sameAV p.1 p.1 = true := by
  have hm := aread_may hr
  unfold obl at h
  split at h
  · rename_i ty x ho
    split at h
    · rename_i b i hx
      intro h1 ha
      refine ⟨?_, h.2.2⟩
      unfold aread
      rw [ho]
      simp only [hx]
      have : aload P h1 ty b i = aload P s.h ty b i := by
        unfold aload Heap.row
        rw [ha b h.1]
      rw [this]
      exact h.2.1
    · exact h.elim
  · have := h.1 hm
    rw [hp] at this
    cases this
theorem obl_eff {P : Program} {N : Nat} {s : St} {o : Oper} {p : AV × Heap} (h : obl P N s o p) (he : mayEff P o = true) : Agree N s.h p.2 := by
  unfold obl at h
  split at h
  · rename_i ty x ho
    unfold mayEff at he
    rw [ho] at he
    cases he
  · exact h.2 he

/-- Steps of a drawn region. -/
def RD (P : Program) (call : CallO) (n N : Nat) (ops : Array Oper) : List Oper → St → (St → Prop) → Prop
  | [], s, Q => Q s
  | o :: r, s, Q => match awant ops s.t o with
    | none => False
    | some true => match aop P call s.t s.h o with
      | none => False
      | some p => obl P N s o p ∧ match put n s.t o.dst p.1 with
        | none => False
        | some t => RD P call n N ops r ⟨t, p.2⟩ Q
    | some false => match put n s.t o.dst (.tup []) with
      | none => False
      | some t => RD P call n N ops r ⟨t, s.h⟩ Q

section
variable {P : Program} {call : CallO} {n N : Nat} {ops : Array Oper} {an : List Nat} {base : Nat}

/-- What a record says. -/
def RecOk (P : Program) (N : Nat) (h0 : Heap) (o : Oper) (x : Rec) : Prop := x.o = o ∧ x.kind ≠ .late ∧ (x.kind = .eff → mayEff P o = true) ∧ Agree N h0 x.h ∧ Agree N h0 x.h' ∧
  (x.kind = .read → ∀ h1, Agree N h0 h1 → aread P x.t h1 x.o = some x.a ∧ sameAV x.a x.a = true)

theorem arec_grow {i pm : Nat} {o : Oper} {s : St} {h0 : Heap} (hA : Agree N h0 s.h) {Q : St → Prop} {r : List Oper} (h : RD P call n N ops (o :: r) s Q) :
    ∃ x t, arec P call ops an [] base [] i pm [] o s = some x ∧ RecOk P N h0 o x ∧ put n s.t o.dst x.a = some t ∧ Agree N h0 x.h' ∧ RD P call n N ops r ⟨t, x.h'⟩ Q := by
  unfold RD at h
  unfold arec
  cases hw : awant ops s.t o with
  | none => rw [hw] at h; exact h.elim
  | some b =>
    rw [hw] at h
    cases b with
    | false =>
      simp only at h
      cases hp : put n s.t o.dst (.tup []) with
      | none => rw [hp] at h; exact h.elim
      | some t =>
        rw [hp] at h
        exact ⟨_, t, rfl, ⟨rfl, by simp, by simp, hA, hA, by simp⟩, hp, hA, h⟩
    | true =>
      simp only at h
      simp only [memN, insFl, freeOk, resv, nextOk, Bool.true_and, Bool.or_true]
      unfold aop at h
      cases hp : apure P s.t o with
      | some a =>
        rw [hp] at h
        simp only at h
        obtain ⟨_, h⟩ := h
        cases hq : put n s.t o.dst a with
        | none => rw [hq] at h; exact h.elim
        | some t =>
          rw [hq] at h
          exact ⟨_, t, rfl, ⟨rfl, by simp, by simp, hA, hA, by simp⟩, hq, hA, h⟩
      | none =>
        rw [hp] at h
        simp only at h
        cases hr : aread P s.t s.h o with
        | some a =>
          rw [hr] at h
          simp only at h
          obtain ⟨ho, h⟩ := h
          cases hq : put n s.t o.dst a with
          | none => rw [hq] at h; exact h.elim
          | some t =>
            rw [hq] at h
            exact ⟨_, t, rfl, ⟨rfl, by simp, by simp, hA, hA, fun _ h1 ha => obl_read ho hp hr h1 fun c hc => (ha c hc).trans (hA c hc).symm⟩, hq, hA, h⟩
        | none =>
          rw [hr] at h
          simp only at h
          cases he : aeff P call s.t s.h o with
          | none => rw [he] at h; exact h.elim
          | some p =>
            rw [he] at h
            simp only at h
            obtain ⟨ho, h⟩ := h
            have hB : Agree N h0 p.2 := fun c hc => (obl_eff ho (aeff_may he) c hc).trans (hA c hc)
            cases hq : put n s.t o.dst p.1 with
            | none => rw [hq] at h; exact h.elim
            | some t =>
              rw [hq] at h
              exact ⟨_, t, rfl, ⟨rfl, by simp, fun _ => aeff_may he, hA, hB, by simp⟩, hq, hB, h⟩

theorem arecs_grow {h0 : Heap} {Q : St → Prop} : ∀ (l : List Oper) (i pm : Nat) (s : St), Agree N h0 s.h → RD P call n N ops l s Q →
    ∃ (rs : List Rec) (s' : St) (pm' : Nat), arecs P call n ops an [] base [] l i pm [] s = some (rs, s', pm', []) ∧ Q s' ∧ ∀ (j : Nat) (x : Rec), rs[j]? = some x → ∃ o, l[j]? = some o ∧ RecOk P N h0 o x
  | [], i, pm, s, hA, h => ⟨[], s, pm, rfl, h, fun j x hj => by simp at hj⟩
  | o :: l, i, pm, s, hA, h => by
    obtain ⟨x, t, h1, h2, h3, h4, h5⟩ := arec_grow (an := an) (base := base) (i := i) (pm := pm) hA h
    have hfl : nextFl i [] x = [] := by unfold nextFl; split <;> first | rfl | exact absurd ‹_› h2.2.1
    obtain ⟨rs, s', pm', g1, g2, g3⟩ := arecs_grow l (i + 1) (nextPm an i pm x) ⟨t, x.h'⟩ h4 h5
    refine ⟨x :: rs, s', pm', by simp only [arecs, h1, h3, hfl, g1], g2, fun j y hj => ?_⟩
    cases j with
    | zero => simp at hj; subst hj; exact ⟨o, rfl, h2⟩
    | succ j => simpa using g3 j y (by simpa using hj)

/-- A drawn region in which old memory stays. -/
theorem adraw_grow (hg : growOk P ops = true) {s : St} {Q : St → Prop} (h : RD P call n N ops ops.toList s Q) : onSome (adraw P call n ops s) Q := by
  simp only [growOk, Bool.and_eq_true] at hg
  obtain ⟨⟨h1, h2⟩, h3⟩ := hg
  have hl : lates P ops (ancs ops) ops.toList 0 = [] := by simpa using h2
  unfold adraw
  rw [h1, hl]
  simp only [aown_nil, resv, Nat.add_zero]
  obtain ⟨rs, s', pm', g1, g2, g3⟩ := arecs_grow (an := ancs ops) (base := s.h.next) (h0 := s.h) ops.toList 0 0 s (fun _ _ => rfl) h
  rw [g1]
  have : allOk P (ancs ops) rs rs 0 = true := allOk_of rs 0 fun i x hx j y hy => by
    obtain ⟨o, ho, k⟩ := g3 i x hx
    obtain ⟨o', ho', k'⟩ := g3 j y hy
    have hp := allSt2_spec ops.toList 0 h3 i o ho j o' ho'
    rw [Nat.zero_add] at hp ⊢
    unfold pairSt2 at hp
    unfold pairOk
    simp only [Bool.or_eq_true, Bool.not_eq_true', Bool.and_eq_false_iff] at hp
    split
    · rename_i e1 e2
      rcases hp with (q | q) | q
      · rw [q]; rfl
      · rw [q, Bool.or_true]
      · rw [k'.2.2.1 e2, k.2.2.1 e1] at q
        rcases q with q | q <;> cases q
    · rename_i e1 e2
      obtain ⟨r1, r2⟩ := k.2.2.2.2.2 e1 y.h k'.2.2.2.1
      obtain ⟨r3, r4⟩ := k.2.2.2.2.2 e1 y.h' k'.2.2.2.2.1
      rw [r1, r3]
      simp [r2]
    · rfl
  simp only [this, insFl]
  exact (onSome_some _ _).2 g2
end

@[congr] theorem RD_congr {P : Program} {call : CallO} {n N : Nat} {ops : Array Oper} {l : List Oper} {s s' : St} {Q : St → Prop} (h : tick s = s') : RD P call n N ops l s Q = RD P call n N ops l s' Q := by rw [← h]; rfl
section
variable {P : Program} {call : CallO} {n N : Nat} {ops : Array Oper} {s : St} {Q : St → Prop}
theorem RD_nil : RD P call n N ops [] s Q ↔ Q s := Iff.rfl
theorem RD_go {d : Option Tmp} {op : Op} {ty : TypeId} {pos : String} {af : Array Edge} {r : List Oper} : RD P call n N ops (⟨d, op, ty, pos, af, none⟩ :: r) s Q ↔
    onSome (aop P call s.t s.h ⟨d, op, ty, pos, af, none⟩) fun p => obl P N s ⟨d, op, ty, pos, af, none⟩ p ∧ onPut n s.t d p.1 fun t => RD P call n N ops r ⟨t, p.2⟩ Q := by
  show (match (some true : Option Bool) with
    | none => False
    | some true => match aop P call s.t s.h ⟨d, op, ty, pos, af, none⟩ with
      | none => False
      | some p => obl P N s ⟨d, op, ty, pos, af, none⟩ p ∧ match put n s.t d p.1 with
        | none => False
        | some t => RD P call n N ops r ⟨t, p.2⟩ Q
    | some false => match put n s.t d (.tup []) with
      | none => False
      | some t => RD P call n N ops r ⟨t, s.h⟩ Q) ↔ _
  cases aop P call s.t s.h ⟨d, op, ty, pos, af, none⟩ with
  | none => simp only [onSome_none]
  | some p =>
    simp only [onSome_some]
    cases d with
    | none => rw [onPut_none]; rfl
    | some d =>
      rw [onPut_some]
      unfold put
      simp only
      by_cases h : d < n
      · have : Nat.blt d n = true := by simpa [Nat.blt_eq] using h
        simp [this, h]
      · have : Nat.blt d n = false := by
          cases q : Nat.blt d n with
          | false => rfl
          | true => exact absurd (by simpa [Nat.blt_eq] using q) h
        simp [this, h]
end
/-! Guarded operations in a drawn region. -/
theorem RD_if {P : Program} {call : CallO} {n N : Nat} {ops : Array Oper} {s : St} {Q : St → Prop} {d : Option Tmp} {op : Op} {ty : TypeId} {pos : String} {af : Array Edge} {j : Nat} {w : Bool} {r : List Oper} : RD P call n N ops (⟨d, op, ty, pos, af, some (j, w)⟩ :: r) s Q ↔
    onWant (((ops[j]?).bind (·.dst)).bind s.t.get) w (onSome (aop P call s.t s.h ⟨d, op, ty, pos, af, some (j, w)⟩) fun p => obl P N s ⟨d, op, ty, pos, af, some (j, w)⟩ p ∧ onPut n s.t d p.1 fun t => RD P call n N ops r ⟨t, p.2⟩ Q)
      (onPut n s.t d (.tup []) fun t => RD P call n N ops r ⟨t, s.h⟩ Q) := by
  have key : RD P call n N ops (⟨d, op, ty, pos, af, some (j, w)⟩ :: r) s Q ↔ match awant ops s.t ⟨d, op, ty, pos, af, some (j, w)⟩ with
    | none => False
    | some true => match aop P call s.t s.h ⟨d, op, ty, pos, af, some (j, w)⟩ with
      | none => False
      | some p => obl P N s ⟨d, op, ty, pos, af, some (j, w)⟩ p ∧ match put n s.t d p.1 with
        | none => False
        | some t => RD P call n N ops r ⟨t, p.2⟩ Q
    | some false => match put n s.t d (.tup []) with
      | none => False
      | some t => RD P call n N ops r ⟨t, s.h⟩ Q := by
    exact Iff.rfl
  have pt : ∀ (a : AV) (K : Tr AV → Prop), (match put n s.t d a with | none => False | some t => K t) ↔ onPut n s.t d a K := by
    intro a K
    cases d with
    | none => rw [onPut_none]; rfl
    | some d =>
      rw [onPut_some]
      unfold put
      simp only
      by_cases h : d < n
      · have : Nat.blt d n = true := by simpa [Nat.blt_eq] using h
        simp [this, h]
      · have : Nat.blt d n = false := by
          cases q : Nat.blt d n with
          | false => rfl
          | true => exact absurd (by simpa [Nat.blt_eq] using q) h
        simp [this, h]
  rw [key, awant_if, ← Array.getElem?_toList]
  cases (ops.toList[j]?).bind (·.dst) with
  | none => simp only [Option.bind_none, onWant_none]
  | some e =>
    simp only [Option.bind_some]
    have T : (match (some true : Option Bool) with
      | none => False
      | some true => match aop P call s.t s.h ⟨d, op, ty, pos, af, some (j, w)⟩ with
        | none => False
        | some p => obl P N s ⟨d, op, ty, pos, af, some (j, w)⟩ p ∧ match put n s.t d p.1 with
          | none => False
          | some t => RD P call n N ops r ⟨t, p.2⟩ Q
      | some false => match put n s.t d (.tup []) with
        | none => False
        | some t => RD P call n N ops r ⟨t, s.h⟩ Q) ↔ (onSome (aop P call s.t s.h ⟨d, op, ty, pos, af, some (j, w)⟩) fun p => obl P N s ⟨d, op, ty, pos, af, some (j, w)⟩ p ∧ onPut n s.t d p.1 fun t => RD P call n N ops r ⟨t, p.2⟩ Q) := by
      cases aop P call s.t s.h ⟨d, op, ty, pos, af, some (j, w)⟩ with
      | none => simp only [onSome_none]
      | some p => simp only [onSome_some, pt p.1 (fun t => RD P call n N ops r ⟨t, p.2⟩ Q)]
    have G : (match (some false : Option Bool) with
      | none => False
      | some true => match aop P call s.t s.h ⟨d, op, ty, pos, af, some (j, w)⟩ with
        | none => False
        | some p => obl P N s ⟨d, op, ty, pos, af, some (j, w)⟩ p ∧ match put n s.t d p.1 with
          | none => False
          | some t => RD P call n N ops r ⟨t, p.2⟩ Q
      | some false => match put n s.t d (.tup []) with
        | none => False
        | some t => RD P call n N ops r ⟨t, s.h⟩ Q) ↔ (onPut n s.t d (.tup []) fun t => RD P call n N ops r ⟨t, s.h⟩ Q) := pt (.tup []) (fun t => RD P call n N ops r ⟨t, s.h⟩ Q)
    cases s.t.get e with
    | none => simp only [onWant_none]
    | some a =>
      cases a with
      | bool c =>
        simp only [onWant_bool]
        cases c <;> cases w
        · refine T.trans ?_; simp
        · refine G.trans ?_; simp
        · refine G.trans ?_; simp
        · refine T.trans ?_; simp
      | tup l =>
        cases l with
        | nil => simp only [onWant_tup]; exact G
        | cons => exact ⟨fun h => h.elim, fun h => by unfold onWant at h; exact h.elim⟩
      | _ => exact ⟨fun h => h.elim, fun h => by unfold onWant at h; exact h.elim⟩
attribute [simp] RD_nil RD_go RD_if
attribute [irreducible] RD
@[simp] theorem nbeq_dec (a b : Nat) : Nat.beq a b = decide (a = b) := by
  cases h : Nat.beq a b with
  | true => have := Nat.eq_of_beq_eq_true h; simp [this]
  | false => have := Nat.ne_of_beq_eq_false h; simp [this]
/-- A region that is not one of the bad. -/
@[simp] theorem W_regionL {P : Program} {bad : List Nat} {call : CallO} {n k : Nat} {s : St} {Q : Ex → St → Prop} {id : Nat} {l : List Oper} {d : Bool} (hb : inN id bad = false) : W P bad call n k (.region id (List.toArray l) d) s Q ↔ R P call n (List.toArray l) l s fun s' => Q .normal s' := W_regionR hb
/-- A bad one, in which old memory stays. -/
theorem W_drawn {P : Program} {bad : List Nat} {call : CallO} {n k : Nat} {s : St} {Q : Ex → St → Prop} {id : Nat} {l : List Oper} (N : Nat) (hb : inN id bad = true) (hg : growOk P (List.toArray l) = true) (h : RD P call n N (List.toArray l) l s fun s' => Q .normal s') :
    W P bad call n k (.region id (List.toArray l) true) s Q := by
  have h1 := adraw_grow (call := call) (n := n) hg h
  rw [onSome_iff] at h1
  obtain ⟨s', h2, h3⟩ := h1
  unfold W
  refine ⟨.normal, s', ?_, h3⟩
  rw [code_region, hb]
  show (match adraw P call n (List.toArray l) s with | some s' => some (Ex.normal, s') | none => none) = _
  rw [h2]
/-- A struct or an array put together. -/
@[simp] theorem aop_build {P : Program} {call : CallO} {t : Tr AV} {h : Heap} {d : Option Tmp} {ty : TypeId} {pos : String} {af : Array Edge} {g : Option (Nat × Bool)} (u : TypeId) (parts : Array (Nat × Operand)) :
    aop P call t h ⟨d, .build u parts, ty, pos, af, g⟩ = Option.map (fun (a : AV) => (a, h)) (match azero P u with
    | none => none
    | some z => match P.underlying u with
      | some (.struct fs) => if fs.all (fun f => (tsize P f.type).isSome) && z.all AV.one then
          match afill (fun k => (fs[k]?).map fun f => (f.offset, (tsize P f.type).getD 0)) (parts.toList.map fun p => (p.1, ev t p.2)) z with
          | some cs => some (.agg cs)
          | none => none
        else none
      | some (.array _ e) => match tsize P e with
        | some n => if z.all AV.one then
            match afill (fun k => some (k * n, n)) (parts.toList.map fun p => (p.1, ev t p.2)) z with
            | some cs => some (.agg cs)
            | none => none
          else none
        | none => none
      | _ => none) := aop_pure (fun _ => rfl) (fun _ => rfl)
/-! Numbers turned over: x xor -1. -/
@[simp] theorem fbin_xorM (k : IntKind) (a : Int) : fbin .xor k a (-1) = none := by cases a <;> rfl
section
variable {P : Program} {t : Tr AV} {d : Option Tmp} {ty : TypeId} {v : TypeId} {pos : String} {af : Array Edge} {g : Option (Nat × Bool)} {x y : Operand} {tv : TypeId}
theorem xor_bits {a : Int} (h : -9223372036854775808 ≤ a) (h' : a ≤ 9223372036854775807) : Op.intBits .xor .i64 a (-1) = pure (.int .i64 (-1 - a)) := by
  show pure (Value.int .i64 (IntKind.i64.wrap ((BitVec.ofInt 64 a ^^^ BitVec.ofInt 64 (-1)).toNat : Nat))) = _
  rw [BitVec.xor_comm, com64 h h']
theorem aback_xorM {a : Int} (hx : ev t x = .int .i64 a) (hy : ev t y = .int .i64 (-1)) (h : -9223372036854775808 ≤ a) (h' : a ≤ 9223372036854775807) : aback P t ⟨d, .binOp .xor ty x y tv, v, pos, af, g⟩ = some (.int .i64 (-1 - a)) := by
  unfold aback
  simp [Op.operands, hx, hy, AV.val?, execOp, eqGuard, binOp, xor_bits h h']
  rfl
@[simp] theorem bcmp_xor {k k' : IntKind} {a n : Int} : bcmp P .xor ty (.int k a) (.int k' n) = none := rfl
def xcmp (x y : AV) : Option AV := match x, y with
  | .int .i64 a, .int .i64 b => if b = -1 ∧ -9223372036854775808 ≤ a ∧ a ≤ 9223372036854775807 then some (.int .i64 (-1 - a)) else none
  | _, _ => none
def aback00 (P : Program) (t : Tr AV) (o : Oper) : Option AV := aback P t o
@[simp] theorem aback0_xor : aback0 P t ⟨d, .binOp .xor ty x y tv, v, pos, af, g⟩ = match xcmp (ev t x) (ev t y) with
    | some u => some u
    | none => aback00 P t ⟨d, .binOp .xor ty x y tv, v, pos, af, g⟩ := by
  cases hb : xcmp (ev t x) (ev t y) with
  | none => rfl
  | some u =>
    simp only
    unfold xcmp at hb
    split at hb
    · rename_i hx hy
      split at hb
      · rename_i hl
        rw [hl.1] at hy
        unfold aback0
        rw [aback_xorM hx hy hl.2.1 hl.2.2]; exact hb
      · cases hb
    · cases hb
@[simp] theorem xcmp_i {a b : Int} : xcmp (.int .i64 a) (.int .i64 b) = if b = -1 ∧ -9223372036854775808 ≤ a ∧ a ≤ 9223372036854775807 then some (.int .i64 (-1 - a)) else none := rfl
end
end Go.YtcgafaecdjbmiaaAbs
