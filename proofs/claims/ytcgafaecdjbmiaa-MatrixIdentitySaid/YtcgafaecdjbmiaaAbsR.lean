/- Drawn regions whose last operations are ordered with all that read. -/
import Derived.Test.YtcgafaecdjbmiaaAbsQ
namespace Go.YtcgafaecdjbmiaaAbs
open Go Go.RowKit
set_option linter.unusedSimpArgs false
set_option linter.unusedVariables false

/-- A read and an effect, one of them behind place m: an edge orders them. -/
def pairT (P : Program) (an : List Nat) (m i : Nat) (x : Oper) (j : Nat) (y : Oper) : Bool :=
  Nat.beq i j || ordered an i j || !(mayEff P y && mayRead P x && (Nat.ble m i || Nat.ble m j))
def rowT (P : Program) (an : List Nat) (m i : Nat) (x : Oper) : List Oper → Nat → Bool
  | [], _ => true
  | y :: r, j => pairT P an m i x j y && rowT P an m i x r (j + 1)
def allT (P : Program) (an : List Nat) (m : Nat) (all : List Oper) : List Oper → Nat → Bool
  | [], _ => true
  | x :: r, i => rowT P an m i x all 0 && allT P an m all r (i + 1)
def splitOk (P : Program) (m : Nat) (ops : Array Oper) : Bool := growOk P ops && allT P (ancs ops) m ops.toList ops.toList 0
theorem rowT_spec {P : Program} {an : List Nat} {m i : Nat} {x : Oper} : ∀ (l : List Oper) (k : Nat), rowT P an m i x l k = true → ∀ (j : Nat) y, l[j]? = some y → pairT P an m i x (k + j) y = true
  | [], _, _, j, y, h => by simp at h
  | z :: l, k, hb, j, y, h => by
    simp only [rowT, Bool.and_eq_true] at hb
    cases j with
    | zero => simp at h; subst h; exact hb.1
    | succ j =>
      have := rowT_spec l (k + 1) hb.2 j y (by simpa using h)
      rw [show k + 1 + j = k + (j + 1) by omega] at this
      exact this
theorem allT_spec {P : Program} {an : List Nat} {m : Nat} {all : List Oper} : ∀ (l : List Oper) (k : Nat), allT P an m all l k = true → ∀ (i : Nat) x, l[i]? = some x → ∀ (j : Nat) y, all[j]? = some y → pairT P an m (k + i) x j y = true
  | [], _, _, i, x, h => by simp at h
  | z :: l, k, hb, i, x, h => by
    simp only [allT, Bool.and_eq_true] at hb
    intro j y hj
    cases i with
    | zero =>
      simp at h; subst h
      have := rowT_spec all 0 hb.1 j y hj
      simpa using this
    | succ i =>
      have := allT_spec l (k + 1) hb.2 i x (by simpa using h) j y hj
      rw [show k + 1 + i = k + (i + 1) by omega] at this
      exact this

section
variable {P : Program} {call : CallO} {n N : Nat} {ops : Array Oper} {an : List Nat} {base : Nat}
theorem arecs_app (ls : List Nat) (own : List (Nat × Nat × List AV)) : ∀ (l1 l2 : List Oper) (i pm : Nat) (fl : List (Nat × List AV)) (s : St) (rs1 : List Rec) (s1 : St) (pm1 : Nat) (fl1 : List (Nat × List AV)) (rs2 : List Rec) (s2 : St) (pm2 : Nat) (fl2 : List (Nat × List AV)),
    arecs P call n ops an ls base own l1 i pm fl s = some (rs1, s1, pm1, fl1) → arecs P call n ops an ls base own l2 (i + l1.length) pm1 fl1 s1 = some (rs2, s2, pm2, fl2) → arecs P call n ops an ls base own (l1 ++ l2) i pm fl s = some (rs1 ++ rs2, s2, pm2, fl2)
  | [], l2, i, pm, fl, s, rs1, s1, pm1, fl1, rs2, s2, pm2, fl2, h1, h2 => by
    simp only [arecs, Option.some.injEq, Prod.mk.injEq] at h1
    obtain ⟨rfl, rfl, rfl, rfl⟩ := h1
    simpa using h2
  | o :: l1, l2, i, pm, fl, s, rs1, s1, pm1, fl1, rs2, s2, pm2, fl2, h1, h2 => by
    simp only [arecs] at h1
    simp only [List.cons_append, arecs]
    cases hx : arec P call ops an ls base own i pm fl o s with
    | none => rw [hx] at h1; cases h1
    | some x =>
      rw [hx] at h1
      simp only at h1 ⊢
      cases hp : put n s.t o.dst x.a with
      | none => rw [hp] at h1; cases h1
      | some t =>
        rw [hp] at h1
        simp only at h1 ⊢
        cases hr : arecs P call n ops an ls base own l1 (i + 1) (nextPm an i pm x) (nextFl i fl x) ⟨t, x.h'⟩ with
        | none => rw [hr] at h1; cases h1
        | some q =>
          obtain ⟨rs, s', pm', fl'⟩ := q
          rw [hr] at h1
          simp only [Option.some.injEq, Prod.mk.injEq] at h1
          obtain ⟨rfl, rfl, rfl, rfl⟩ := h1
          rw [arecs_app ls own l1 l2 (i + 1) _ _ _ rs s' pm' fl' rs2 s2 pm2 fl2 hr (by rw [show i + 1 + l1.length = i + (o :: l1).length by simp; omega]; exact h2)]
          rfl
theorem arecs_len : ∀ (l1 : List Oper) (i pm : Nat) (fl : List (Nat × List AV)) (s : St) (rs1 : List Rec) (s1 : St) (pm1 : Nat) (fl1 : List (Nat × List AV)), arecs P call n ops an [] base [] l1 i pm fl s = some (rs1, s1, pm1, fl1) → rs1.length = l1.length
  | [], i, pm, fl, s, rs1, s1, pm1, fl1, h1 => by
    simp only [arecs, Option.some.injEq, Prod.mk.injEq] at h1
    obtain ⟨rfl, _⟩ := h1
    rfl
  | o :: l1, i, pm, fl, s, rs1, s1, pm1, fl1, h1 => by
    simp only [arecs] at h1
    cases hx : arec P call ops an [] base [] i pm fl o s with
    | none => rw [hx] at h1; cases h1
    | some x =>
      rw [hx] at h1
      simp only at h1
      cases hp : put n s.t o.dst x.a with
      | none => rw [hp] at h1; cases h1
      | some t =>
        rw [hp] at h1
        simp only at h1
        cases hr : arecs P call n ops an [] base [] l1 (i + 1) (nextPm an i pm x) (nextFl i fl x) ⟨t, x.h'⟩ with
        | none => rw [hr] at h1; cases h1
        | some q =>
          obtain ⟨rs, s', pm', fl'⟩ := q
          rw [hr] at h1
          simp only [Option.some.injEq, Prod.mk.injEq] at h1
          obtain ⟨rfl, _⟩ := h1
          simp [arecs_len l1 _ _ _ _ _ _ _ _ hr]
/-- A drawn region: first operations that leave old memory as it was, then such as are ordered with all that read. -/
theorem adraw_split {m : Nat} (hg : splitOk P m ops = true) {s : St} {Q : St → Prop} {l1 l2 : List Oper} (hl : ops.toList = l1 ++ l2) (hm : l1.length = m) (h : RD P call n N ops l1 s fun s' => R P call n ops l2 s' Q) : onSome (adraw P call n ops s) Q := by
  simp only [splitOk, growOk, Bool.and_eq_true] at hg
  obtain ⟨⟨⟨h1, h2⟩, h3⟩, h4⟩ := hg
  have hlt : lates P ops (ancs ops) ops.toList 0 = [] := by simpa using h2
  unfold adraw
  rw [h1, hlt]
  simp only [aown_nil, resv, Nat.add_zero]
  obtain ⟨rs1, s1, pm1, g1, g2, g3⟩ := arecs_grow (an := ancs ops) (base := s.h.next) (h0 := s.h) l1 0 0 s (fun _ _ => rfl) h
  unfold R at g2
  rw [onSome_iff] at g2
  obtain ⟨s2, g4, g5⟩ := g2
  rcases arecs_seq (P := P) (call := call) (n := n) (ops := ops) (an := ancs ops) (base := s.h.next) l2 (0 + l1.length) pm1 s1 with ⟨rs2, s2', pm2, k1, k2, k3, k4⟩ | ⟨k1, k2⟩
  · rw [g4] at k2
    cases k2
    have hall := arecs_app (P := P) (call := call) (n := n) (ops := ops) (an := ancs ops) (base := s.h.next) [] [] l1 l2 0 0 [] s rs1 s1 pm1 [] rs2 s2 pm2 [] g1 k1
    rw [hl, hall]
    have hlen1 : rs1.length = l1.length := by
      exact arecs_len l1 0 0 [] s rs1 s1 pm1 [] g1
    have facts : ∀ (i : Nat) (x : Rec), (rs1 ++ rs2)[i]? = some x → ∃ o, ops.toList[i]? = some o ∧ x.kind ≠ .late ∧ (x.kind = .eff → mayEff P o = true) ∧ (x.kind = .read → mayRead P o = true) ∧
        (i < m → RecOk P N s.h o x) := fun i x hx => by
      rw [hl]
      by_cases hi : i < rs1.length
      · rw [List.getElem?_append_left hi] at hx
        obtain ⟨o, ho, r⟩ := g3 i x hx
        refine ⟨o, by rw [List.getElem?_append_left (by omega)]; exact ho, r.2.1, r.2.2.1, fun hk => ?_, fun _ => r⟩
        have := (r.2.2.2.2.2 hk s.h (fun _ _ => rfl)).1
        rw [r.1] at this
        exact aread_may this
      · rw [List.getElem?_append_right (by omega)] at hx
        obtain ⟨o, ho, r1, r2, r3⟩ := k4 _ x hx
        exact ⟨o, by rw [List.getElem?_append_right (by omega), ← hlen1]; exact ho, r1, r2, r3, fun q => by omega⟩
    have : allOk P (ancs ops) (rs1 ++ rs2) (rs1 ++ rs2) 0 = true := allOk_of (rs1 ++ rs2) 0 fun i x hx j y hy => by
      obtain ⟨o, ho, p1, p2, p3, p4⟩ := facts i x hx
      obtain ⟨o', ho', q1, q2, q3, q4⟩ := facts j y hy
      have hp := allSt2_spec ops.toList 0 h3 i o ho j o' ho'
      have ht := allT_spec ops.toList 0 h4 i o ho j o' ho'
      rw [Nat.zero_add] at hp ht ⊢
      unfold pairSt2 at hp
      unfold pairT at ht
      unfold pairOk
      simp only [Bool.or_eq_true, Bool.not_eq_true', Bool.and_eq_false_iff] at hp ht
      split
      · rename_i e1 e2
        rcases hp with (q | q) | q
        · rw [q]; rfl
        · rw [q, Bool.or_true]
        · rw [q2 e2, p2 e1] at q
          rcases q with q | q <;> cases q
      · rename_i e1 e2
        by_cases hij : i < m ∧ j < m
        · have ri := p4 hij.1
          have rj := q4 hij.2
          obtain ⟨r1, r2⟩ := ri.2.2.2.2.2 e1 y.h rj.2.2.2.1
          obtain ⟨r3, r4⟩ := ri.2.2.2.2.2 e1 y.h' rj.2.2.2.2.1
          rw [r1, r3]
          simp [r2]
        · rcases ht with (q | q) | q
          · have := Nat.eq_of_beq_eq_true q
            subst this
            rw [hx] at hy; cases hy
            rw [e1] at e2; cases e2
          · rw [q]; rfl
          · rw [q2 e2, p3 e1] at q
            have : Nat.ble m i = true ∨ Nat.ble m j = true := by
              rcases Nat.lt_or_ge i m with z | z
              · right; exact Nat.ble_eq_true_of_le (by omega)
              · left; exact Nat.ble_eq_true_of_le z
            simp only [Bool.true_eq_false, false_or, Bool.or_eq_false_iff] at q
            rw [q.1, q.2] at this
            rcases this with z | z <;> cases z
      · rfl
    simp only [this, insFl]
    exact (onSome_some _ _).2 g5
  · rw [g4] at k2; cases k2
end
/-- .. such a region. -/
theorem W_split {P : Program} {bad : List Nat} {call : CallO} {n k : Nat} {s : St} {Q : Ex → St → Prop} {id : Nat} {l : List Oper} (m N : Nat) (hb : inN id bad = true) (hg : splitOk P m (List.toArray l) = true) (hm : Nat.ble m l.length = true)
    (h : RD P call n N (List.toArray l) (l.take m) s fun s' => R P call n (List.toArray l) (l.drop m) s' fun s' => Q .normal s') :
    W P bad call n k (.region id (List.toArray l) true) s Q := by
  have hm := Nat.le_of_ble_eq_true hm
  have h1 := adraw_split (call := call) (n := n) hg (l1 := l.take m) (l2 := l.drop m) (by simp) (by rw [List.length_take]; omega) h
  rw [onSome_iff] at h1
  obtain ⟨s', h2, h3⟩ := h1
  unfold W
  refine ⟨.normal, s', ?_, h3⟩
  rw [code_region, hb]
  show (match adraw P call n (List.toArray l) s with | some s' => some (Ex.normal, s') | none => none) = _
  rw [h2]
/-! Regions in which blocks are made late: by allocations, by []byte(s), by appends. -/
def pairL (P : Program) (an ls : List Nat) (m i : Nat) (x : Oper) (j : Nat) (y : Oper) : Bool :=
  Nat.beq i j || ordered an i j || memN i ls || memN j ls || !(mayEff P y && (mayEff P x || (mayRead P x && (Nat.ble m i || Nat.ble m j))))
def rowL (P : Program) (an ls : List Nat) (m i : Nat) (x : Oper) : List Oper → Nat → Bool
  | [], _ => true
  | y :: r, j => pairL P an ls m i x j y && rowL P an ls m i x r (j + 1)
def allL (P : Program) (an ls : List Nat) (m : Nat) (all : List Oper) : List Oper → Nat → Bool
  | [], _ => true
  | x :: r, i => rowL P an ls m i x all 0 && allL P an ls m all r (i + 1)
/-- From place m on an edge orders what reads with what turns memory. -/
def lateOkS (P : Program) (m : Nat) (ops : Array Oper) : Bool := staticOk ops && allL P (ancs ops) (lates P ops (ancs ops) ops.toList 0) m ops.toList ops.toList 0
def lateOk (P : Program) (ops : Array Oper) : Bool := lateOkS P 0 ops
theorem rowL_spec {P : Program} {an ls : List Nat} {m i : Nat} {x : Oper} : ∀ (l : List Oper) (k : Nat), rowL P an ls m i x l k = true → ∀ (j : Nat) y, l[j]? = some y → pairL P an ls m i x (k + j) y = true
  | [], _, _, j, y, h => by simp at h
  | z :: l, k, hb, j, y, h => by
    simp only [rowL, Bool.and_eq_true] at hb
    cases j with
    | zero => simp at h; subst h; exact hb.1
    | succ j =>
      have := rowL_spec l (k + 1) hb.2 j y (by simpa using h)
      rw [show k + 1 + j = k + (j + 1) by omega] at this
      exact this
theorem allL_spec {P : Program} {an ls : List Nat} {m : Nat} {all : List Oper} : ∀ (l : List Oper) (k : Nat), allL P an ls m all l k = true → ∀ (i : Nat) x, l[i]? = some x → ∀ (j : Nat) y, all[j]? = some y → pairL P an ls m (k + i) x j y = true
  | [], _, _, i, x, h => by simp at h
  | z :: l, k, hb, i, x, h => by
    simp only [allL, Bool.and_eq_true] at hb
    intro j y hj
    cases i with
    | zero =>
      simp at h; subst h
      have := rowL_spec all 0 hb.1 j y hj
      simpa using this
    | succ i =>
      have := allL_spec l (k + 1) hb.2 i x (by simpa using h) j y hj
      rw [show k + 1 + i = k + (i + 1) by omega] at this
      exact this

/-- Numbers of blocks are kept. -/
def Heap.bump (h : Heap) (r : Nat) : Heap := ⟨h.next + r, h.tab⟩
@[simp] theorem bump_zero (h : Heap) : h.bump 0 = h := rfl
@[simp] theorem next_bump (h : Heap) (r : Nat) : (h.bump r).next = h.next + r := rfl
@[simp] theorem get_bump (h : Heap) (r c : Nat) : (h.bump r).get c = h.get c := rfl
@[simp] theorem next_at (h : Heap) (b : Nat) (o : AO) : (h.at_ b o).next = h.next := rfl

theorem eff_not {P : Program} {t : Tr AV} {h : Heap} {o : Oper} (hs : isEff o = true) : apure P t o = none ∧ aread P t h o = none := by
  obtain ⟨d, op, tt, pos, af, g⟩ := o
  cases op with
  | call c =>
    obtain ⟨callee, args, argTypes⟩ := c
    cases callee with
    | value => exact ⟨rfl, rfl⟩
    | builtin b =>
      cases b <;> first
        | exact ⟨rfl, rfl⟩
        | (unfold isEff isAlloc at hs; exact Bool.noConfusion hs)
    | _ => (unfold isEff isAlloc at hs; exact Bool.noConfusion hs)
  | _ => first
    | exact ⟨rfl, rfl⟩
    | (unfold isEff isAlloc at hs; exact Bool.noConfusion hs)

/-- Blocks of G stay. -/
def AgreeG (G : Nat → Prop) (h h' : Heap) : Prop := ∀ c, G c → h'.get c = h.get c
/-- What is asked of one operation: it reads blocks of G alone. -/
def oblG (P : Program) (G : Nat → Prop) (s : St) (o : Oper) (p : AV × Heap) : Prop := match o.op with
  | .load ty x => match ev s.t x with
    | .ptr b i => G b ∧ sameAV p.1 p.1 = true
    | _ => False
  | _ => mayRead P o = true → apure P s.t o = some p.1
theorem oblG_read {P : Program} {G : Nat → Prop} {s : St} {o : Oper} {p : AV × Heap} (h : oblG P G s o p) (hp : apure P s.t o = none) (hr : aread P s.t s.h o = some p.1) : ∀ h1, AgreeG G s.h h1 → aread P s.t h1 o = some p.1 ∧ sameAV p.1 p.1 = true := by
  have hm := aread_may hr
  unfold oblG at h
  split at h
  · rename_i ty x ho
    split at h
    · rename_i b i hx
      intro h1 ha
      refine ⟨?_, h.2⟩
      unfold aread at hr ⊢
      rw [ho] at hr ⊢
      simp only [hx] at hr ⊢
      have : aload P h1 ty b i = aload P s.h ty b i := by
        unfold aload Heap.row
        rw [ha b h.1]
      rw [this]
      exact hr
    · exact h.elim
  · have := h hm
    rw [hp] at this
    cases this
theorem insFl_below {base : Nat} {G : Nat → Prop} (hN : ∀ c, G c → c < base) {want : Nat → Bool} : ∀ (fl : List (Nat × List AV)) (h : Heap), AgreeG G h (insFl base want fl h)
  | [], h => fun _ _ => rfl
  | (i, cs) :: r, h => by
    intro c hc
    have := hN c hc
    simp only [insFl]
    rw [insFl_below hN r _ c hc]
    split
    · rw [Heap.get_at, if_neg (by omega)]
    · rfl

def oblIf (b : Bool) (p : Prop) : Prop := match b with
  | true => p
  | false => True
@[simp] theorem oblIf_t {p : Prop} : oblIf true p ↔ p := Iff.rfl
@[simp] theorem oblIf_f {p : Prop} : oblIf false p ↔ True := Iff.rfl

/-- Steps of such a region. -/
def RL (P : Program) (call : CallO) (n : Nat) (ops : Array Oper) (an ls : List Nat) (base rv m : Nat) (G : Nat → Prop) (own : List (Nat × Nat × List AV)) : List Oper → Nat → Nat → List (Nat × List AV) → St → (St → Prop) → Prop
  | [], _, pm, fl, s, Q => Q ⟨s.t, insFl base (fun d => !pm.testBit d) fl s.h⟩
  | o :: r, i, pm, fl, s, Q => awant ops s.t o = some true ∧
    if memN i ls = true then onSome (alate P s.t an base i own fl o) fun p => onPut n s.t o.dst p.2 fun t => RL P call n ops an ls base rv m G own r (i + 1) pm (fl ++ [(i, p.1)]) ⟨t, s.h⟩ Q
    else if isEff o = true then onSome (aop P call s.t (insFl base (fun d => (an.getD i 0).testBit d && !pm.testBit d) fl s.h) o) fun p => (isStore o || freeOk base (pm ||| an.getD i 0) p.2 ls) = true ∧ nextOk base rv p.2 = true ∧
      oblIf (decide (i < m)) (AgreeG G (insFl base (fun d => (an.getD i 0).testBit d && !pm.testBit d) fl s.h) p.2) ∧ onPut n s.t o.dst p.1 fun t => RL P call n ops an ls base rv m G own r (i + 1) (pm ||| an.getD i 0) fl ⟨t, p.2⟩ Q
    else mayEff P o = false ∧ onSome (aop P call s.t s.h o) fun p => oblIf (decide (i < m)) (oblG P G s o p) ∧ onPut n s.t o.dst p.1 fun t => RL P call n ops an ls base rv m G own r (i + 1) pm fl ⟨t, p.2⟩ Q
section
variable {P : Program} {call : CallO} {n : Nat} {ops : Array Oper} {an ls : List Nat} {base m : Nat} {G : Nat → Prop} {own : List (Nat × Nat × List AV)}
theorem onPut_iff {t : Tr AV} {d : Option Tmp} {a : AV} {K : Tr AV → Prop} : onPut n t d a K ↔ ∃ t', put n t d a = some t' ∧ K t' := by
  cases d with
  | none => rw [onPut_none]; simp
  | some d =>
    rw [onPut_some]
    unfold put
    simp only
    by_cases h : d < n
    · have : Nat.blt d n = true := by simpa [Nat.blt_eq] using h
      simp [this, h]
    · have : Nat.blt d n = false := by
        cases q : Nat.blt d n with
        | false => rfl
        | true => exact absurd (by simpa [Nat.blt_eq] using q) h
      simp [this, h]
/-- What a record of such a region says. -/
def RecL (P : Program) (ls : List Nat) (m : Nat) (G : Nat → Prop) (h0 : Heap) (o : Oper) (i : Nat) (x : Rec) : Prop :=
  (x.kind = .eff → mayEff P o = true ∧ memN i ls = false) ∧ (x.kind = .read → mayRead P o = true ∧ memN i ls = false) ∧
  (i < m → AgreeG G h0 x.h ∧ AgreeG G h0 x.h' ∧ (x.kind = .read → ∀ h1, AgreeG G h0 h1 → aread P x.t h1 x.o = some x.a ∧ sameAV x.a x.a = true))
theorem arecs_late (hN : ∀ c, G c → c < base) {Q : St → Prop} {h0 : Heap} : ∀ (l : List Oper) (i pm : Nat) (fl : List (Nat × List AV)) (s : St), (i < m → AgreeG G h0 s.h) → RL P call n ops an ls base (resv ls ops.size) m G own l i pm fl s Q →
    ∃ (rs : List Rec) (s' : St) (pm' : Nat) (fl' : List (Nat × List AV)), arecs P call n ops an ls base own l i pm fl s = some (rs, s', pm', fl') ∧ Q ⟨s'.t, insFl base (fun d => !pm'.testBit d) fl' s'.h⟩ ∧
      ∀ (j : Nat) (x : Rec), rs[j]? = some x → ∃ o, l[j]? = some o ∧ RecL P ls m G h0 o (i + j) x
  | [], i, pm, fl, s, hA, h => ⟨[], s, pm, fl, rfl, h, fun j x hj => by simp at hj⟩
  | o :: l, i, pm, fl, s, hA, h => by
    unfold RL at h
    obtain ⟨hw, h⟩ := h
    have fin : ∀ (x : Rec) (t : Tr AV), arec P call ops an ls base own i pm fl o s = some x → put n s.t o.dst x.a = some t → (i + 1 < m → AgreeG G h0 x.h') → RL P call n ops an ls base (resv ls ops.size) m G own l (i + 1) (nextPm an i pm x) (nextFl i fl x) ⟨t, x.h'⟩ Q →
        RecL P ls m G h0 o i x →
        ∃ (rs : List Rec) (s' : St) (pm' : Nat) (fl' : List (Nat × List AV)), arecs P call n ops an ls base own (o :: l) i pm fl s = some (rs, s', pm', fl') ∧ Q ⟨s'.t, insFl base (fun d => !pm'.testBit d) fl' s'.h⟩ ∧
          ∀ (j : Nat) (x : Rec), rs[j]? = some x → ∃ o', (o :: l)[j]? = some o' ∧ RecL P ls m G h0 o' (i + j) x := fun x t h1 h2 h3 h4 h5 => by
      obtain ⟨rs, s', pm', fl', g1, g2, g3⟩ := arecs_late hN l (i + 1) _ _ _ h3 h4
      refine ⟨x :: rs, s', pm', fl', by simp only [arecs, h1, h2, g1], g2, fun j y hj => ?_⟩
      cases j with
      | zero => simp at hj; subst hj; exact ⟨o, rfl, h5⟩
      | succ j =>
        obtain ⟨o', k1, k2⟩ := g3 j y (by simpa using hj)
        exact ⟨o', by simpa using k1, by rw [show i + (j + 1) = i + 1 + j by omega]; exact k2⟩
    by_cases hm : memN i ls = true
    · rw [if_pos hm, onSome_iff] at h
      obtain ⟨⟨cs, a⟩, h1, h2⟩ := h
      rw [onPut_iff] at h2
      obtain ⟨t, h2, h3⟩ := h2
      refine fin ⟨o, s.t, s.h, .late, a, s.h, cs⟩ t ?_ h2 (fun q => hA (by omega)) h3 ⟨(fun q => by cases q), (fun q => by cases q), fun q => ⟨hA q, hA q, fun q => by cases q⟩⟩
      unfold arec
      simp only [hw, hm, h1]
    · have hm' : memN i ls = false := by simpa using hm
      rw [if_neg hm] at h
      by_cases hs : isEff o = true
      · rw [if_pos hs, onSome_iff] at h
        obtain ⟨⟨a, h'⟩, h1, hfr, h0', hag, h2⟩ := h
        rw [onPut_iff] at h2
        obtain ⟨t, h2, h3⟩ := h2
        have e : aeff P call s.t (insFl base (fun d => (an.getD i 0).testBit d && !pm.testBit d) fl s.h) o = some (a, h') := by
          unfold aop at h1
          rw [(eff_not (h := insFl base (fun d => (an.getD i 0).testBit d && !pm.testBit d) fl s.h) hs).1, (eff_not (h := insFl base (fun d => (an.getD i 0).testBit d && !pm.testBit d) fl s.h) hs).2] at h1
          exact h1
        have hB : i < m → AgreeG G h0 h' := fun q => by
          rw [show decide (i < m) = true from decide_eq_true q] at hag
          exact fun c hc => (hag c hc).trans ((insFl_below hN fl s.h c hc).trans (hA q c hc))
        refine fin ⟨o, s.t, s.h, .eff, a, h', []⟩ t ?_ h2 (fun q => hB (by omega)) h3 ⟨fun _ => ⟨aeff_may e, hm'⟩, (fun q => by cases q), fun q => ⟨hA q, hB q, fun q => by cases q⟩⟩
        unfold arec
        simp only [hw, hm', (eff_not (h := s.h) hs).1, (eff_not (h := s.h) hs).2, e, hfr, Bool.true_and, h0']
      · rw [if_neg hs] at h
        obtain ⟨hme, h⟩ := h
        rw [onSome_iff] at h
        obtain ⟨⟨a, h'⟩, h1, hob, h2⟩ := h
        rw [onPut_iff] at h2
        obtain ⟨t, h2, h3⟩ := h2
        unfold aop at h1
        cases hp : apure P s.t o with
        | some a' =>
          rw [hp] at h1
          simp only [Option.some.injEq, Prod.mk.injEq] at h1
          obtain ⟨rfl, rfl⟩ := h1
          refine fin ⟨o, s.t, s.h, .quiet, a', s.h, []⟩ t ?_ h2 (fun q => hA (by omega)) h3 ⟨(fun q => by cases q), (fun q => by cases q), fun q => ⟨hA q, hA q, fun q => by cases q⟩⟩
          unfold arec
          simp only [hw, hm', hp]
        | none =>
          rw [hp] at h1
          simp only at h1
          cases hr : aread P s.t s.h o with
          | some a' =>
            rw [hr] at h1
            simp only [Option.some.injEq, Prod.mk.injEq] at h1
            obtain ⟨rfl, rfl⟩ := h1
            refine fin ⟨o, s.t, s.h, .read, a', s.h, []⟩ t ?_ h2 (fun q => hA (by omega)) h3 ⟨(fun q => by cases q), fun _ => ⟨aread_may hr, hm'⟩, fun q => ⟨hA q, hA q, fun _ h1 ha => ?_⟩⟩
            · unfold arec
              simp only [hw, hm', hp, hr]
            · rw [show decide (i < m) = true from decide_eq_true q] at hob
              exact oblG_read hob hp hr h1 fun c hc => (ha c hc).trans (hA q c hc).symm
          | none =>
            rw [hr] at h1
            simp only at h1
            have := aeff_may h1
            rw [hme] at this; cases this
theorem adraw_late (hg : lateOkS P m ops = true) (han : ancs ops = an) (hls : lates P ops an ops.toList 0 = ls) {s : St} {Q : St → Prop} (hN : ∀ c, G c → c < s.h.next)
    (h : onSome (aown P call n ops ls s) fun p => RL P call n ops an ls s.h.next (resv ls ops.size) m G p.1 ops.toList 0 0 [] ⟨s.t, p.2.bump (resv ls ops.size)⟩ Q) : onSome (adraw P call n ops s) Q := by
  simp only [lateOkS, Bool.and_eq_true] at hg
  obtain ⟨h1, h2⟩ := hg
  subst han
  subst hls
  unfold adraw
  rw [h1]
  simp only
  rw [onSome_iff] at h
  obtain ⟨⟨own, h0⟩, hown, h⟩ := h
  rw [hown]
  simp only at h ⊢
  obtain ⟨rs, s', pm', fl', g1, g2, g3⟩ := arecs_late (h0 := h0) hN ops.toList 0 0 [] _ (fun _ => fun c hc => rfl) h
  have g1' : arecs P call n ops (ancs ops) (lates P ops (ancs ops) ops.toList 0) s.h.next own ops.toList 0 0 [] ⟨s.t, ⟨h0.next + resv (lates P ops (ancs ops) ops.toList 0) ops.size, h0.tab⟩⟩ = some (rs, s', pm', fl') := g1
  rw [g1']
  have : allOk P (ancs ops) rs rs 0 = true := allOk_of rs 0 fun i x hx j y hy => by
    obtain ⟨o, ho, p1, p2, p3⟩ := g3 i x hx
    obtain ⟨o', ho', q1, q2, q3⟩ := g3 j y hy
    have hp := allL_spec ops.toList 0 h2 i o ho j o' ho'
    rw [Nat.zero_add] at hp p1 p2 p3 q1 q2 q3 ⊢
    unfold pairL at hp
    unfold pairOk
    simp only [Bool.or_eq_true, Bool.not_eq_true', Bool.and_eq_false_iff, Bool.or_eq_false_iff] at hp
    split
    · rename_i e1 e2
      rw [(p1 e1).2, (q1 e2).2, (q1 e2).1, (p1 e1).1] at hp
      simp at hp
      rcases hp with q | q
      · simp [q]
      · simp [q]
    · rename_i e1 e2
      by_cases hij : i < m ∧ j < m
      · obtain ⟨r1, r2⟩ := (p3 hij.1).2.2 e1 y.h (q3 hij.2).1
        obtain ⟨r3, r4⟩ := (p3 hij.1).2.2 e1 y.h' (q3 hij.2).2.1
        rw [r1, r3]
        simp [r2]
      · rw [(p2 e1).2, (q1 e2).2, (q1 e2).1, (p2 e1).1] at hp
        have hble : (Nat.ble m i || Nat.ble m j) = true := by
          rcases Nat.lt_or_ge i m with z | z
          · rw [show Nat.ble m j = true from Nat.ble_eq_true_of_le (by omega)]; simp
          · rw [show Nat.ble m i = true from Nat.ble_eq_true_of_le z]; simp
        have hb1 : ¬ (Nat.ble m i = false ∧ Nat.ble m j = false) := fun q => by rw [q.1, q.2] at hble; cases hble
        simp only [Bool.false_eq_true, or_false, Bool.true_eq_false, false_or] at hp
        rcases hp with (q | q) | q
        · have := Nat.eq_of_beq_eq_true q
          subst this
          rw [hx] at hy; cases hy
          rw [e1] at e2; cases e2
        · simp [q]
        · exact absurd q.2 hb1
    · rfl
  simp only [this]
  exact (onSome_some _ _).2 g2
variable {rv : Nat} {s : St} {Q : St → Prop}
@[simp] theorem RL_nil {i pm : Nat} {fl : List (Nat × List AV)} : RL P call n ops an ls base rv m G own [] i pm fl s Q ↔ Q ⟨s.t, insFl base (fun d => !pm.testBit d) fl s.h⟩ := Iff.rfl
@[simp] theorem RL_go {d : Option Tmp} {op : Op} {ty : TypeId} {pos : String} {af : Array Edge} {r : List Oper} {i pm : Nat} {fl : List (Nat × List AV)} : RL P call n ops an ls base rv m G own (⟨d, op, ty, pos, af, none⟩ :: r) i pm fl s Q ↔
    if memN i ls = true then onSome (alate P s.t an base i own fl ⟨d, op, ty, pos, af, none⟩) fun p => onPut n s.t d p.2 fun t => RL P call n ops an ls base rv m G own r (i + 1) pm (fl ++ [(i, p.1)]) ⟨t, s.h⟩ Q
    else if isEff ⟨d, op, ty, pos, af, none⟩ = true then onSome (aop P call s.t (insFl base (fun d => (an.getD i 0).testBit d && !pm.testBit d) fl s.h) ⟨d, op, ty, pos, af, none⟩) fun p => (isStore ⟨d, op, ty, pos, af, none⟩ || freeOk base (pm ||| an.getD i 0) p.2 ls) = true ∧ nextOk base rv p.2 = true ∧
      oblIf (decide (i < m)) (AgreeG G (insFl base (fun d => (an.getD i 0).testBit d && !pm.testBit d) fl s.h) p.2) ∧ onPut n s.t d p.1 fun t => RL P call n ops an ls base rv m G own r (i + 1) (pm ||| an.getD i 0) fl ⟨t, p.2⟩ Q
    else mayEff P ⟨d, op, ty, pos, af, none⟩ = false ∧ onSome (aop P call s.t s.h ⟨d, op, ty, pos, af, none⟩) fun p => oblIf (decide (i < m)) (oblG P G s ⟨d, op, ty, pos, af, none⟩ p) ∧ onPut n s.t d p.1 fun t => RL P call n ops an ls base rv m G own r (i + 1) pm fl ⟨t, p.2⟩ Q := by
  show (some true = some true ∧ _) ↔ _
  simp only [true_and]
end
@[congr] theorem RL_congr {P : Program} {call : CallO} {n : Nat} {ops : Array Oper} {an ls : List Nat} {base rv m : Nat} {G : Nat → Prop} {own : List (Nat × Nat × List AV)} {l : List Oper} {i i' pm pm' : Nat} {fl fl' : List (Nat × List AV)} {s s' : St} {Q : St → Prop} (hi : i = i') (hp : pm = pm') (hf : fl = fl') (h : tick s = s') :
    RL P call n ops an ls base rv m G own l i pm fl s Q = RL P call n ops an ls base rv m G own l i' pm' fl' s' Q := by subst hi; subst hp; subst hf; rw [← h]; rfl
theorem alate_make {P : Program} {t : Tr AV} {an : List Nat} {base i : Nat} {own : List (Nat × Nat × List AV)} {fl : List (Nat × List AV)} {d : Option Tmp} {ty : TypeId} {pos : String} {af : Array Edge} {g : Option (Nat × Bool)} {u : TypeId} {l c : Operand} : alate P t an base i own fl ⟨d, .makeSlice u l c, ty, pos, af, g⟩ = (aalloc P t ⟨d, .makeSlice u l c, ty, pos, af, g⟩).map fun p => (p.1, p.2 (base + i)) := by
  unfold alate
  cases aalloc P t ⟨d, .makeSlice u l c, ty, pos, af, g⟩ <;> rfl
attribute [irreducible] RL
/-- .. such a region; its stores stand from place m on. -/
theorem W_lateS {P : Program} {bad : List Nat} {call : CallO} {n k : Nat} {s : St} {Q : Ex → St → Prop} {id : Nat} {l : List Oper} (an ls : List Nat) (m : Nat) (G : Nat → Prop) (hb : inN id bad = true) (hg : lateOkS P m (List.toArray l) = true) (han : ancs (List.toArray l) = an) (hls : lates P (List.toArray l) an l 0 = ls) (hN : ∀ c, G c → c < s.h.next)
    (h : onSome (aown P call n (List.toArray l) ls s) fun p => RL P call n (List.toArray l) an ls s.h.next (resv ls l.length) m G p.1 l 0 0 [] ⟨s.t, p.2.bump (resv ls l.length)⟩ fun s' => Q .normal s') :
    W P bad call n k (.region id (List.toArray l) true) s Q := by
  have h1 := adraw_late (call := call) (n := n) hg han hls hN h
  rw [onSome_iff] at h1
  obtain ⟨s', h2, h3⟩ := h1
  unfold W
  refine ⟨.normal, s', ?_, h3⟩
  rw [code_region, hb]
  show (match adraw P call n (List.toArray l) s with | some s' => some (Ex.normal, s') | none => none) = _
  rw [h2]
/-- .. where no append is late. -/
theorem W_lateG {P : Program} {bad : List Nat} {call : CallO} {n k : Nat} {s : St} {Q : Ex → St → Prop} {id : Nat} {l : List Oper} (an ls : List Nat) (m : Nat) (G : Nat → Prop) (hb : inN id bad = true) (hg : lateOkS P m (List.toArray l) = true) (han : ancs (List.toArray l) = an) (hls : lates P (List.toArray l) an l 0 = ls) (hap : anyApp ls l 0 = false) (hN : ∀ c, G c → c < s.h.next)
    (h : RL P call n (List.toArray l) an ls s.h.next (resv ls l.length) m G [] l 0 0 [] ⟨s.t, s.h.bump (resv ls l.length)⟩ fun s' => Q .normal s') :
    W P bad call n k (.region id (List.toArray l) true) s Q := by
  refine W_lateS an ls m G hb hg han hls hN ?_
  unfold aown
  rw [show anyApp ls (List.toArray l).toList 0 = false from hap]
  exact (onSome_some _ _).2 h
/-- .. where no append is late, and the other effects are stores. -/
theorem W_late {P : Program} {bad : List Nat} {call : CallO} {n k : Nat} {s : St} {Q : Ex → St → Prop} {id : Nat} {l : List Oper} (an ls : List Nat) (hb : inN id bad = true) (hg : lateOk P (List.toArray l) = true) (han : ancs (List.toArray l) = an) (hls : lates P (List.toArray l) an l 0 = ls) (hap : anyApp ls l 0 = false)
    (h : RL P call n (List.toArray l) an ls s.h.next (resv ls l.length) 0 (fun _ => False) [] l 0 0 [] ⟨s.t, s.h.bump (resv ls l.length)⟩ fun s' => Q .normal s') :
    W P bad call n k (.region id (List.toArray l) true) s Q := by
  refine W_lateS an ls 0 (fun _ => False) hb hg han hls (fun _ q => q.elim) ?_
  unfold aown
  rw [show anyApp ls (List.toArray l).toList 0 = false from hap]
  exact (onSome_some _ _).2 h
/-! The blocks that late appends append to. -/
def LK (P : Program) (call : CallO) (n : Nat) (h : Heap) (l : List Oper) (t : Tr AV) (K : Tr AV → Prop) : Prop := K (alook P call n h l t)
section
variable {P : Program} {call : CallO} {n : Nat} {h : Heap} {K : Tr AV → Prop} {t : Tr AV}
@[simp] theorem LK_nil : LK P call n h [] t K ↔ K t := Iff.rfl
def onLook (n : Nat) (t : Tr AV) (d : Option Tmp) (r : Option (AV × Heap)) (K : Tr AV → Prop) : Prop := match r with
  | none => K t
  | some (a, _) => match put n t d a with
    | some t' => K t'
    | none => K t
@[simp] theorem onLook_none {d : Option Tmp} : onLook n t d none K ↔ K t := Iff.rfl
@[simp] theorem onLook_some {d : Tmp} {a : AV} {h' : Heap} : onLook n t (some d) (some (a, h')) K ↔ if d < n then K (t.set d (some a)) else K t := by
  unfold onLook put
  simp only
  by_cases h : d < n
  · have : Nat.blt d n = true := by simpa [Nat.blt_eq] using h
    simp [this, h]
  · have : Nat.blt d n = false := by
      cases q : Nat.blt d n with
      | false => rfl
      | true => exact absurd (by simpa [Nat.blt_eq] using q) h
    simp [this, h]
@[simp] theorem LK_go {d : Option Tmp} {op : Op} {ty : TypeId} {pos : String} {af : Array Edge} {g : Option (Nat × Bool)} {r : List Oper} : LK P call n h (⟨d, op, ty, pos, af, g⟩ :: r) t K ↔
    if isLook ⟨d, op, ty, pos, af, g⟩ = true then onLook n t d (aop P call t h ⟨d, op, ty, pos, af, g⟩) fun t => LK P call n h r t K else LK P call n h r t K := by
  unfold LK
  cases hl : isLook ⟨d, op, ty, pos, af, g⟩ with
  | false => simp only [alook, hl, Bool.false_eq_true, if_false]
  | true =>
    simp only [alook, hl, if_true]
    unfold onLook
    cases ha : aop P call t h ⟨d, op, ty, pos, af, g⟩ with
    | none => rfl
    | some p =>
      obtain ⟨a, h'⟩ := p
      simp only
      cases put n t d a <;> rfl
end
@[congr] theorem onLook_congr {n : Nat} {t t' : Tr AV} {d : Option Tmp} {r r' : Option (AV × Heap)} {K : Tr AV → Prop} (h : tick t = t') (h' : tick r = r') : onLook n t d r K = onLook n t' d r' K := by rw [← h, ← h']; rfl
@[congr] theorem LK_congr {P : Program} {call : CallO} {n : Nat} {h h' : Heap} {l : List Oper} {t t' : Tr AV} {K : Tr AV → Prop} (e : tick h = h') (e' : tick t = t') : LK P call n h l t K = LK P call n h' l t' K := by rw [← e, ← e']; rfl
/-- The blocks are found by a look ahead. -/
theorem aown_look {P : Program} {call : CallO} {n : Nat} {l : List Oper} {ls : List Nat} {s : St} {Q : List (Nat × Nat × List AV) × Heap → Prop} (hap : anyApp ls l 0 = true) (h : LK P call n s.h l s.t fun t => onSome (takeOwn (ownsGo ls t l 0) s.h) Q) :
    onSome (aown P call n (List.toArray l) ls s) Q := by
  unfold aown
  rw [show anyApp ls (List.toArray l).toList 0 = true from hap]
  exact h
attribute [irreducible] LK
end Go.YtcgafaecdjbmiaaAbs
