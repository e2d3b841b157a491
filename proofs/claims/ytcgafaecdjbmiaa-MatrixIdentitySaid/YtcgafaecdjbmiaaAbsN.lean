/- A region that draws its order, where the edges order all that matters: it is the text's order. -/
import Derived.Test.YtcgafaecdjbmiaaAbsM
namespace Go.YtcgafaecdjbmiaaAbs
open Go Go.RowKit

def isMap (P : Program) (t : Option TypeId) : Bool := match t.bind P.underlying with
  | some (.map ..) => true
  | _ => false
/-- Might it look at memory? -/
def mayRead (P : Program) (o : Oper) : Bool := match o.op with
  | .load .. | .lookup .. => true
  | .call c => match c.callee with
    | .builtin .len => isMap P c.argTypes[0]?
    | _ => false
  | .convert _ dst _ => match P.underlying dst with
    | some .string => true
    | _ => false
  | _ => false
/-- Might it turn memory? -/
def mayEff (P : Program) (o : Oper) : Bool := match o.op with
  | .alloc _ | .box .. | .buildSlice .. | .makeSlice .. | .store .. | .makeMap .. | .mapUpdate .. | .insert .. => true
  | .call c => match c.callee with
    | .builtin .len => false
    | _ => true
  | .convert _ dst _ => match P.underlying dst with
    | some (.slice _) => true
    | _ => false
  | _ => false

theorem aread_may {P : Program} {t : Tr AV} {h : Heap} {o : Oper} {a : AV} (e : aread P t h o = some a) : mayRead P o = true := by
  unfold aread at e
  unfold mayRead
  split at e
  · rename_i ho; rw [ho]
  · rename_i ho; rw [ho]
  · rename_i c ho
    rw [ho]
    split at e
    · rename_i hc
      simp only [hc]
      unfold isMap
      split at e
      · rename_i h2; rw [h2]
      · rename_i h2; rw [h2]
      · cases e
    · cases e
  · rename_i src dst x ho
    rw [ho]
    split at e
    · rename_i h1 h2 h3
      simp only [h3]
    · cases e
  · cases e

theorem aeff_may {P : Program} {call : CallO} {t : Tr AV} {h : Heap} {o : Oper} {r : AV × Heap} (e : aeff P call t h o = some r) : mayEff P o = true := by
  unfold aeff at e
  unfold mayEff
  split at e
  · rename_i cs mk ha
    unfold aalloc at ha
    split at ha
    · rename_i ho; rw [ho]
    · rename_i ho; rw [ho]
    · rename_i ho; rw [ho]
    · rename_i ho; rw [ho]
    · cases ha
  · split at e
    · rename_i ho; rw [ho]
    · rename_i ho; rw [ho]
    · rename_i ho; rw [ho]
    · rename_i ho; rw [ho]
    · rename_i src dst x ho
      rw [ho]
      split at e
      · rename_i h1 h2 h3
        simp only [h2]
      · cases e
    · rename_i c ho
      rw [ho]
      simp only
      split at e
      · rename_i hc; rw [hc]
      · rename_i hc; rw [hc]
      · rename_i hc; rw [hc]
      · rename_i hc; rw [hc]
      · rename_i hc; rw [hc]
      · cases e
    · cases e

def pairSt (P : Program) (an : List Nat) (i : Nat) (x : Oper) (j : Nat) (y : Oper) : Bool :=
  Nat.beq i j || ordered an i j || (!(mayEff P y && (mayEff P x || mayRead P x)))
def rowSt (P : Program) (an : List Nat) (i : Nat) (x : Oper) : List Oper → Nat → Bool
  | [], _ => true
  | y :: r, j => pairSt P an i x j y && rowSt P an i x r (j + 1)
def allSt (P : Program) (an : List Nat) (all : List Oper) : List Oper → Nat → Bool
  | [], _ => true
  | x :: r, i => rowSt P an i x all 0 && allSt P an all r (i + 1)
/-- The edges order all that matters. -/
def seqOk (P : Program) (ops : Array Oper) : Bool := staticOk ops && (lates P ops (ancs ops) ops.toList 0).isEmpty && allSt P (ancs ops) ops.toList ops.toList 0

theorem rowSt_spec {P : Program} {an : List Nat} {i : Nat} {x : Oper} : ∀ (l : List Oper) (k : Nat), rowSt P an i x l k = true → ∀ j y, l[j]? = some y → pairSt P an i x (k + j) y = true
  | [], _, _, j, y, h => by simp at h
  | z :: l, k, hb, j, y, h => by
    simp only [rowSt, Bool.and_eq_true] at hb
    cases j with
    | zero => simp at h; subst h; exact hb.1
    | succ j =>
      have := rowSt_spec l (k + 1) hb.2 j y (by simpa using h)
      rw [show k + 1 + j = k + (j + 1) by omega] at this
      exact this
theorem allSt_spec {P : Program} {an : List Nat} {all : List Oper} : ∀ (l : List Oper) (k : Nat), allSt P an all l k = true → ∀ i x, l[i]? = some x → ∀ j y, all[j]? = some y → pairSt P an (k + i) x j y = true
  | [], _, _, i, x, h => by simp at h
  | z :: l, k, hb, i, x, h => by
    simp only [allSt, Bool.and_eq_true] at hb
    intro j y hj
    cases i with
    | zero =>
      simp at h; subst h
      have := rowSt_spec all 0 hb.1 j y hj
      simpa using this
    | succ i =>
      have := allSt_spec l (k + 1) hb.2 i x (by simpa using h) j y hj
      rw [show k + 1 + i = k + (i + 1) by omega] at this
      exact this
theorem rowOk_of {P : Program} {an : List Nat} {i : Nat} {x : Rec} : ∀ (l : List Rec) (k : Nat), (∀ j y, l[j]? = some y → pairOk P an i x (k + j) y = true) → rowOk P an i x l k = true
  | [], _, _ => rfl
  | y :: l, k, h => by
    simp only [rowOk, Bool.and_eq_true]
    exact ⟨h 0 y rfl, rowOk_of l (k + 1) fun j y' hj => by
      rw [show k + 1 + j = k + (j + 1) by omega]; exact h (j + 1) y' (by simpa using hj)⟩
theorem allOk_of {P : Program} {an : List Nat} {all : List Rec} : ∀ (l : List Rec) (k : Nat), (∀ i x, l[i]? = some x → ∀ j y, all[j]? = some y → pairOk P an (k + i) x j y = true) → allOk P an all l k = true
  | [], _, _ => rfl
  | x :: l, k, h => by
    simp only [allOk, Bool.and_eq_true]
    exact ⟨rowOk_of all 0 fun j y hj => by simpa using h 0 x rfl j y hj, allOk_of l (k + 1) fun i x' hi j y hj => by
      rw [show k + 1 + i = k + (i + 1) by omega]; exact h (i + 1) x' (by simpa using hi) j y hj⟩

section
variable {P : Program} {call : CallO} {n : Nat} {ops : Array Oper} {an : List Nat} {base : Nat}

theorem arec_seq {i pm : Nat} {o : Oper} {s : St} : (∃ x, arec P call ops an [] base [] i pm [] o s = some x ∧ x.o = o ∧ x.kind ≠ .late ∧ (x.kind = .eff → mayEff P o = true) ∧ (x.kind = .read → mayRead P o = true) ∧
      ((awant ops s.t o = some true ∧ aop P call s.t s.h o = some (x.a, x.h')) ∨ (awant ops s.t o = some false ∧ x.a = .tup [] ∧ x.h' = s.h))) ∨
    (arec P call ops an [] base [] i pm [] o s = none ∧ (awant ops s.t o = none ∨ (awant ops s.t o = some true ∧ aop P call s.t s.h o = none))) := by
  unfold arec
  cases hw : awant ops s.t o with
  | none => exact .inr ⟨rfl, .inl rfl⟩
  | some b =>
    cases b with
    | false => exact .inl ⟨_, rfl, rfl, by simp, by simp, by simp, .inr ⟨rfl, rfl, rfl⟩⟩
    | true =>
      simp only [memN, insFl, freeOk, resv, nextOk, Bool.true_and, Bool.or_true]
      unfold aop
      cases hp : apure P s.t o with
      | some a => exact .inl ⟨_, rfl, rfl, by simp, by simp, by simp, .inl ⟨trivial, rfl⟩⟩
      | none =>
        cases hr : aread P s.t s.h o with
        | some a => exact .inl ⟨_, rfl, rfl, by simp, by simp, fun _ => aread_may hr, .inl ⟨trivial, rfl⟩⟩
        | none =>
          cases he : aeff P call s.t s.h o with
          | none => exact .inr ⟨rfl, .inr ⟨trivial, rfl⟩⟩
          | some r => exact .inl ⟨_, rfl, rfl, by simp, fun _ => aeff_may he, by simp, .inl ⟨trivial, rfl⟩⟩

theorem arecs_seq : ∀ (l : List Oper) (i pm : Nat) (s : St), (∃ (rs : List Rec) (s' : St) (pm' : Nat), arecs P call n ops an [] base [] l i pm [] s = some (rs, s', pm', []) ∧ aops P call n ops l s = some s' ∧ rs.length = l.length ∧
      ∀ (j : Nat) (x : Rec), rs[j]? = some x → ∃ o, l[j]? = some o ∧ x.kind ≠ .late ∧ (x.kind = .eff → mayEff P o = true) ∧ (x.kind = .read → mayRead P o = true)) ∨
    (arecs P call n ops an [] base [] l i pm [] s = none ∧ aops P call n ops l s = none)
  | [], i, pm, s => .inl ⟨[], s, pm, rfl, rfl, rfl, fun j x h => by simp at h⟩
  | o :: l, i, pm, s => by
    simp only [arecs, aops]
    rcases arec_seq (P := P) (call := call) (ops := ops) (an := an) (base := base) (i := i) (pm := pm) (o := o) (s := s) with ⟨x, h1, h2, h3, h4, h5, h6⟩ | ⟨h1, h2⟩
    · rw [h1]
      simp only
      have hfl : nextFl i [] x = [] := by unfold nextFl; split <;> first | rfl | exact absurd ‹_› h3
      have tail := fun t => arecs_seq l (i + 1) (nextPm an i pm x) ⟨t, x.h'⟩
      have fin : ∀ t, (∃ (rs : List Rec) (s' : St) (pm' : Nat), (match arecs P call n ops an [] base [] l (i + 1) (nextPm an i pm x) (nextFl i [] x) ⟨t, x.h'⟩ with
            | none => none
            | some (l, s') => some (x :: l, s')) = some (rs, s', pm', []) ∧ aops P call n ops l ⟨t, x.h'⟩ = some s' ∧ rs.length = (o :: l).length ∧
          ∀ (j : Nat) (x : Rec), rs[j]? = some x → ∃ o', (o :: l)[j]? = some o' ∧ x.kind ≠ .late ∧ (x.kind = .eff → mayEff P o' = true) ∧ (x.kind = .read → mayRead P o' = true)) ∨
          ((match arecs P call n ops an [] base [] l (i + 1) (nextPm an i pm x) (nextFl i [] x) ⟨t, x.h'⟩ with
            | none => none
            | some (l, s') => some (x :: l, s')) = none ∧ aops P call n ops l ⟨t, x.h'⟩ = none) := by
        intro t
        rw [hfl]
        rcases tail t with ⟨rs, s', pm', g1, g2, g3, g4⟩ | ⟨g1, g2⟩
        · refine .inl ⟨x :: rs, s', pm', by rw [g1], g2, by simp [g3], fun j y hj => ?_⟩
          cases j with
          | zero => simp at hj; subst hj; exact ⟨o, rfl, h3, h4, h5⟩
          | succ j => simpa using g4 j y (by simpa using hj)
        · exact .inr ⟨by rw [g1], g2⟩
      rcases h6 with ⟨w1, w2⟩ | ⟨w1, w2, w3⟩
      · rw [w1, w2]
        simp only
        cases hp : put n s.t o.dst x.a with
        | none => exact .inr ⟨rfl, rfl⟩
        | some t => exact fin t
      · rw [w1]
        simp only
        rw [← w2, ← w3]
        cases hp : put n s.t o.dst x.a with
        | none => exact .inr ⟨rfl, rfl⟩
        | some t => exact fin t
    · rw [h1]
      refine .inr ⟨rfl, ?_⟩
      rcases h2 with w1 | ⟨w1, w2⟩
      · rw [w1]
      · rw [w1, w2]

theorem anyApp_nil : ∀ (l : List Oper) (i : Nat), anyApp [] l i = false
  | [], _ => rfl
  | _ :: l, i => by simp only [anyApp, memN, Bool.false_and, Bool.false_or]; exact anyApp_nil l (i + 1)
theorem aown_nil {s : St} : aown P call n ops [] s = some ([], s.h) := by unfold aown; rw [anyApp_nil]
theorem adraw_seq (h : seqOk P ops = true) (s : St) : adraw P call n ops s = aops P call n ops ops.toList s := by
  simp only [seqOk, Bool.and_eq_true] at h
  obtain ⟨⟨h1, h2⟩, h3⟩ := h
  have hl : lates P ops (ancs ops) ops.toList 0 = [] := by simpa using h2
  unfold adraw
  rw [h1, hl]
  simp only [aown_nil, resv, Nat.add_zero]
  rcases arecs_seq (P := P) (call := call) (n := n) (ops := ops) (an := ancs ops) (base := s.h.next) ops.toList 0 0 ⟨s.t, ⟨s.h.next, s.h.tab⟩⟩ with ⟨rs, s', pm', g1, g2, g3, g4⟩ | ⟨g1, g2⟩
  · rw [g1]
    have hs : (⟨s.t, ⟨s.h.next, s.h.tab⟩⟩ : St) = s := rfl
    rw [hs] at g2
    rw [g2]
    have : allOk P (ancs ops) rs rs 0 = true := allOk_of rs 0 fun i x hx j y hy => by
      obtain ⟨o, ho, k1, k2, k3⟩ := g4 i x hx
      obtain ⟨o', ho', k1', k2', k3'⟩ := g4 j y hy
      have := allSt_spec ops.toList 0 h3 i o ho j o' ho'
      rw [Nat.zero_add] at this ⊢
      unfold pairSt at this
      unfold pairOk
      simp only [Bool.or_eq_true, Bool.not_eq_true', Bool.and_eq_false_iff] at this
      split
      · rename_i e1 e2
        rcases this with (h | h) | h
        · rw [h]; rfl
        · rw [h, Bool.or_true]
        · rw [k2' e2] at h
          simp only [Bool.or_eq_false_iff] at h
          rcases h with h | h
          · cases h
          · rw [k2 e1] at h; cases h.1
      · rename_i e1 e2
        rcases this with (h | h) | h
        · have := Nat.eq_of_beq_eq_true h
          subst this
          rw [hx] at hy; cases hy
          rw [e1] at e2; cases e2
        · rw [h]; rfl
        · rw [k2' e2] at h
          simp only [Bool.or_eq_false_iff] at h
          rcases h with h | h
          · cases h
          · rw [k3 e1] at h; cases h.2
      · rfl
    simp only [this, insFl]
  · have hs : (⟨s.t, ⟨s.h.next, s.h.tab⟩⟩ : St) = s := rfl
    rw [g1]
    rw [hs] at g2
    rw [g2]

theorem aregion_seq (h : seqOk P ops = true) (d : Bool) (s : St) : aregion P call n ops d s = aops P call n ops ops.toList s := by
  cases d with
  | true => exact adraw_seq h s
  | false => rfl
end

/-! The same with the text's order in all regions but some. -/
def inN (i : Nat) (l : List Nat) : Bool := memN i l

noncomputable def acodeT (P : Program) (bad : List Nat) (call : CallO) (n k : Nat) : Code → St → Option (Ex × St)
  | .skip, s => some (.normal, s)
  | .region id ops d, s => match (match inN id bad with | true => aregion P call n ops d s | false => aops P call n ops ops.toList s) with
    | some s' => some (.normal, s')
    | none => none
  | .seq a b, s => match acodeT P bad call n k a s with
    | some (.normal, s') => acodeT P bad call n k b s'
    | r => r
  | .cond c a b, s => match ev s.t c with
    | .bool true => acodeT P bad call n k a s
    | .bool false => acodeT P bad call n k b s
    | _ => none
  | .block id c, s => match acodeT P bad call n k c s with
    | some (.exit j, s') => match Nat.beq j id with
      | true => some (.normal, s')
      | false => some (.exit j, s')
    | r => r
  | .loop c, s => aloop (acodeT P bad call n k c) k s
  | .exit id, s => some (.exit id, s)
  | .label _, s => some (.normal, s)
  | .ret, s => some (.ret, s)
  | .scope c, s => acodeT P bad call n k c s
  | _, _ => none

def allSeq (P : Program) (bad : List Nat) : Code → Bool
  | .region id ops d => inN id bad || !d || seqOk P ops
  | .seq a b => allSeq P bad a && allSeq P bad b
  | .cond _ a b => allSeq P bad a && allSeq P bad b
  | .block _ c => allSeq P bad c
  | .loop c => allSeq P bad c
  | .scope c => allSeq P bad c
  | _ => true

theorem acodeT_eq {P : Program} {bad : List Nat} {call : CallO} {n k : Nat} : ∀ (c : Code), allSeq P bad c = true → ∀ s, acode P call n k c s = acodeT P bad call n k c s := by
  intro c
  induction c with
  | region id ops d =>
    intro h s
    simp only [allSeq, Bool.or_eq_true, Bool.not_eq_true'] at h
    simp only [acode, acodeT]
    cases hb : inN id bad with
    | true => rfl
    | false =>
      have : aregion P call n ops d s = aops P call n ops ops.toList s := by
        rcases h with (h | h) | h
        · rw [hb] at h; cases h
        · subst h; rfl
        · exact aregion_seq h d s
      rw [this]
      rfl
  | seq a b iha ihb =>
    intro h s
    simp only [allSeq, Bool.and_eq_true] at h
    simp only [acode, acodeT, iha h.1, ihb h.2]
    rfl
  | cond c a b iha ihb =>
    intro h s
    simp only [allSeq, Bool.and_eq_true] at h
    simp only [acode, acodeT, iha h.1, ihb h.2]
    rfl
  | block id c ih =>
    intro h s
    simp only [allSeq] at h
    simp only [acode, acodeT, ih h]
    rfl
  | loop c ih =>
    intro h s
    simp only [allSeq] at h
    simp only [acode, acodeT]
    rw [show acode P call n k c = acodeT P bad call n k c from funext (ih h)]
  | scope c ih =>
    intro h s
    simp only [allSeq] at h
    simp only [acode, acodeT, ih h]
  | _ => intro h s; rfl

noncomputable def afuncT (P : Program) (bad : List Nat) (call : CallO) (k : Nat) (fn : Func) (args : List AV) (h : Heap) : Option (AV × Heap) :=
  match fn.body with
  | none => none
  | some c => match Nat.ble args.length fn.ntmps with
    | false => none
    | true => match acodeT P bad call fn.ntmps k c ⟨argsTr args 0 .lf, h⟩ with
      | some (.exit _, _) => none
      | some (_, s) => match ares P s fn.results.toList with
        | some l => some (aresult l, s.h)
        | none => none
      | none => none

theorem acall_text {P : Program} {f : FuncId} {fn : Func} (bad : List Nat) (hf : P.funcs[f]? = some fn) (hs : (match fn.body with | some c => allSeq P bad c | none => false) = true) (k : Nat) (args : List AV) (h : Heap) :
    acall P (k + 1) f args h = afuncT P bad (acall P k) k fn args h := by
  simp only [acall, hf]
  unfold afunc afuncT
  cases hc : fn.body with
  | none => rfl
  | some c =>
    rw [hc] at hs
    simp only at hs
    simp only [acodeT_eq c hs]
    rfl

end Go.YtcgafaecdjbmiaaAbs
