/- The abstract machine: values, heap and evaluator. No program is named here. -/
import Derived.Orders
import Derived.Below
import Derived.KernelRfl
import Derived.Laws.Cells
import Derived.Laws.IdiomCopy
import Derived.Laws.Entries
import Derived.Deep.LoopGhost
import Derived.Deep.Draws
namespace Go.YtcgafaecdjbmiaaAbs
open Go

/-- Values of the abstract machine. 'bad': anything. Blocks have numbers of their own. -/
inductive AV where
  | bad
  | bool (b : Bool)
  | int (k : IntKind) (n : Int)
  | str (s : ByteArray)
  | nilp
  | ptr (b i : Nat)
  | nils
  | emp
  | sl (b i len cap sz : Nat) (ex : Bool)
  | nilm
  | mp (b : Nat)
  | nilf
  | fn (f : FuncId) (cs : List AV)
  | nili
  | agg (l : List AV)
  | tup (l : List AV)
  deriving Inhabited

/-- May it stand in one cell, and is it known? -/
def AV.one : AV → Bool
  | .bad | .agg _ | .tup _ => false
  | _ => true

/-- Tries: numbers to things. -/
inductive Tr (α : Type) where
  | lf
  | nd (v : Option α) (l r : Tr α)

def Tr.get {α : Type} : Tr α → Nat → Option α
  | .lf, _ => none
  | .nd v l r, n => match n with
    | 0 => v
    | n + 1 => match Nat.beq (n % 2) 0 with
      | true => l.get (n / 2)
      | false => r.get (n / 2)

def Tr.put {α : Type} : Nat → Tr α → Nat → Option α → Tr α
  | 0, t, _, _ => t
  | d + 1, .lf, n, v => match n with
    | 0 => .nd v .lf .lf
    | n + 1 => match Nat.beq (n % 2) 0 with
      | true => .nd none (Tr.put d .lf (n / 2) v) .lf
      | false => .nd none .lf (Tr.put d .lf (n / 2) v)
  | d + 1, .nd u l r, n, v => match n with
    | 0 => .nd v l r
    | n + 1 => match Nat.beq (n % 2) 0 with
      | true => .nd u (Tr.put d l (n / 2) v) r
      | false => .nd u l (Tr.put d r (n / 2) v)

def Tr.set {α : Type} (t : Tr α) (n : Nat) (v : Option α) : Tr α := Tr.put (n + 1) t n v

theorem Tr.get_put_lf {α : Type} : ∀ (d n m : Nat) (v : Option α), n < d → (Tr.put d (.lf : Tr α) n v).get m = if n = m then v else none
  | 0, n, m, v, h => absurd h (Nat.not_lt_zero _)
  | d + 1, 0, m, v, _ => by
    cases m with
    | zero => simp [Tr.put, Tr.get]
    | succ m => simp only [Tr.put, Tr.get]; split <;> simp
  | d + 1, n + 1, m, v, h => by
    have ih := fun m => Tr.get_put_lf d (n / 2) m v (by omega)
    simp only [Tr.put]
    cases hb : Nat.beq (n % 2) 0 with
    | true =>
      have hb := Nat.eq_of_beq_eq_true hb
      cases m with
      | zero => simp [Tr.get]
      | succ m =>
        simp only [Tr.get]
        cases hm : Nat.beq (m % 2) 0 with
        | true =>
          have hm := Nat.eq_of_beq_eq_true hm
          simp only [ih]
          by_cases e : n = m
          · subst e; simp
          · rw [if_neg (by omega), if_neg (by omega)]
        | false =>
          have hm := Nat.ne_of_beq_eq_false hm
          simp only []
          rw [if_neg (by omega)]
    | false =>
      have hb := Nat.ne_of_beq_eq_false hb
      cases m with
      | zero => simp [Tr.get]
      | succ m =>
        simp only [Tr.get]
        cases hm : Nat.beq (m % 2) 0 with
        | true =>
          have hm := Nat.eq_of_beq_eq_true hm
          simp only []
          rw [if_neg (by omega)]
        | false =>
          have hm := Nat.ne_of_beq_eq_false hm
          simp only [ih]
          by_cases e : n = m
          · subst e; simp
          · rw [if_neg (by omega), if_neg (by omega)]

theorem Tr.get_put {α : Type} : ∀ (d : Nat) (t : Tr α) (n m : Nat) (v : Option α), n < d → (Tr.put d t n v).get m = if n = m then v else t.get m
  | 0, _, n, m, v, h => absurd h (Nat.not_lt_zero _)
  | d + 1, .lf, n, m, v, h => by rw [Tr.get_put_lf (d + 1) n m v h]; simp [Tr.get]
  | d + 1, .nd u l r, 0, m, v, _ => by
    cases m with
    | zero => simp [Tr.put, Tr.get]
    | succ m => simp only [Tr.put, Tr.get]; split <;> simp
  | d + 1, .nd u l r, n + 1, m, v, h => by
    have ihl := fun m => Tr.get_put d l (n / 2) m v (by omega)
    have ihr := fun m => Tr.get_put d r (n / 2) m v (by omega)
    simp only [Tr.put]
    cases hb : Nat.beq (n % 2) 0 with
    | true =>
      have hb := Nat.eq_of_beq_eq_true hb
      cases m with
      | zero => simp [Tr.get]
      | succ m =>
        simp only [Tr.get]
        cases hm : Nat.beq (m % 2) 0 with
        | true =>
          have hm := Nat.eq_of_beq_eq_true hm
          simp only [ihl]
          by_cases e : n = m
          · subst e; simp
          · rw [if_neg (by omega), if_neg (by omega)]
        | false =>
          have hm := Nat.ne_of_beq_eq_false hm
          simp only []
          rw [if_neg (by omega)]
    | false =>
      have hb := Nat.ne_of_beq_eq_false hb
      cases m with
      | zero => simp [Tr.get]
      | succ m =>
        simp only [Tr.get]
        cases hm : Nat.beq (m % 2) 0 with
        | true =>
          have hm := Nat.eq_of_beq_eq_true hm
          simp only []
          rw [if_neg (by omega)]
        | false =>
          have hm := Nat.ne_of_beq_eq_false hm
          simp only [ihr]
          by_cases e : n = m
          · subst e; simp
          · rw [if_neg (by omega), if_neg (by omega)]

theorem Tr.get_set {α : Type} (t : Tr α) (n m : Nat) (v : Option α) : (t.set n v).get m = if n = m then v else t.get m :=
  Tr.get_put (n + 1) t n m v (Nat.lt_succ_self n)

theorem Tr.get_lf {α : Type} (n : Nat) : (Tr.lf : Tr α).get n = none := rfl

/-- What a block holds. -/
inductive AO where
  | cells (c : List AV) (ro : Bool)
  | map (es : List (AV × AV × Nat)) (clock : Nat)

structure Heap where
  next : Nat
  tab : Tr AO

def Heap.get (h : Heap) (b : Nat) : Option AO := h.tab.get b
def Heap.set (h : Heap) (b : Nat) (o : AO) : Heap := ⟨h.next, h.tab.set b (some o)⟩
def Heap.kill (h : Heap) (b : Nat) : Heap := ⟨h.next, h.tab.set b none⟩
def Heap.new (h : Heap) (o : AO) : Heap := ⟨h.next + 1, h.tab.set h.next (some o)⟩
def Heap.none : Heap := ⟨0, .lf⟩

theorem Heap.get_set (h : Heap) (b c : Nat) (o : AO) : (h.set b o).get c = if b = c then some o else h.get c := Tr.get_set _ _ _ _
theorem Heap.get_kill (h : Heap) (b c : Nat) : (h.kill b).get c = if b = c then Option.none else h.get c := Tr.get_set _ _ _ _
theorem Heap.get_new (h : Heap) (c : Nat) (o : AO) : (h.new o).get c = if h.next = c then some o else h.get c := Tr.get_set _ _ _ _

/-- The cells of a block. -/
def Heap.row (h : Heap) (b : Nat) : Option (List AV) := match h.get b with
  | some (.cells c _) => some c
  | _ => Option.none

mutual
/-- A constant of the program. -/
def ofV : Value → AV
  | .bool b => .bool b
  | .int k n => .int k n
  | .string s => .str s
  | .pointer none => .nilp
  | .slice none 0 0 => .nils
  | .map none => .nilm
  | .nilFunc => .nilf
  | .nilIface => .nili
  | .agg ⟨cs⟩ => .agg (ofVs cs)
  | .tuple ⟨cs⟩ => .tup (ofVs cs)
  | _ => .bad
def ofVs : List Value → List AV
  | [] => []
  | v :: r => ofV v :: ofVs r
end

mutual
/-- The value that holds no memory, as the model has it. -/
def AV.val? : AV → Option Value
  | .bool b => some (.bool b)
  | .int k n => some (.int k n)
  | .str s => some (.string s)
  | .nilp => some (.pointer none)
  | .nils => some (.slice none 0 0)
  | .nilm => some (.map none)
  | .nilf => some .nilFunc
  | .nili => some .nilIface
  | .agg l => (vals? l).map fun vs => .agg ⟨vs⟩
  | .tup l => (vals? l).map fun vs => .tuple ⟨vs⟩
  | _ => none
def vals? : List AV → Option (List Value)
  | [] => some []
  | a :: r => match a.val?, vals? r with
    | some v, some vs => some (v :: vs)
    | _, _ => none
end

/-- A step of the model that touches no memory. -/
def semPure (P : Program) {α : Type} : Sem α → Option α
  | .pure a => some a
  | .program k => semPure P (k P)
  | .mark _ k => semPure P k
  | .choose q k => if q.forced then semPure P (k 0) else none
  | _ => none

theorem semPure_run (P : Program) {α : Type} : ∀ (s : Sem α) (a : α), semPure P s = some a → ∀ w, s.run P w = .ok a w
  | .pure b, a, h, w => by simp [semPure] at h; subst h; rfl
  | .program k, a, h, w => by simp only [Sem.run]; exact semPure_run P (k P) a h w
  | .mark _ k, a, h, w => by simp only [Sem.run]; exact semPure_run P k a h w
  | .choose q k, a, h, w => by
    simp only [semPure] at h
    split at h
    · rename_i hf; simp only [Sem.run, hf, if_true]; exact semPure_run P (k 0) a h w
    · cases h
  | .load .., a, h, w => by simp [semPure] at h
  | .store .., a, h, w => by simp [semPure] at h
  | .new .., a, h, w => by simp [semPure] at h
  | .shape .., a, h, w => by simp [semPure] at h
  | .freeze .., a, h, w => by simp [semPure] at h
  | .frozen .., a, h, w => by simp [semPure] at h
  | .getObj .., a, h, w => by simp [semPure] at h
  | .setObj .., a, h, w => by simp [semPure] at h
  | .sys .., a, h, w => by simp [semPure] at h
  | .halt .., a, h, w => by simp [semPure] at h

end Go.YtcgafaecdjbmiaaAbs
