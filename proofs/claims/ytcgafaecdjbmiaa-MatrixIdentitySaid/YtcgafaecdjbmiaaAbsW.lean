/- What holds behind a piece of code. -/
import Derived.Test.YtcgafaecdjbmiaaAbsS
namespace Go.YtcgafaecdjbmiaaAbs
open Go Go.RowKit

/-- The code ends, and so. -/
def W (P : Program) (bad : List Nat) (call : CallO) (n k : Nat) (c : Code) (s : St) (Q : Ex → St → Prop) : Prop := ∃ e s', acodeT P bad call n k c s = some (e, s') ∧ Q e s'

def onBool (a : AV) (A B : Prop) : Prop := match a with
  | .bool b => (b = true → A) ∧ (b = false → B)
  | _ => False
theorem onBool_mk (b : Bool) (A B : Prop) : onBool (.bool b) A B ↔ (b = true → A) ∧ (b = false → B) := Iff.rfl
@[simp] theorem onBool_t (A B : Prop) : onBool (.bool true) A B ↔ A := by simp [onBool]
@[simp] theorem onBool_f (A B : Prop) : onBool (.bool false) A B ↔ B := by simp [onBool]
def onSome {α : Type} (a : Option α) (A : α → Prop) : Prop := match a with
  | some x => A x
  | none => False
@[simp] theorem onSome_some {α : Type} (a : α) (A : α → Prop) : onSome (some a) A ↔ A a := Iff.rfl
theorem onSome_iff {α : Type} {a : Option α} {A : α → Prop} : onSome a A ↔ ∃ x, a = some x ∧ A x := by
  cases a <;> simp [onSome]
/-- How a piece of code ended. -/
def onEx (e : Ex) (A B : Prop) : Prop := match e with
  | .normal => A
  | _ => B
@[simp] theorem onEx_normal (A B : Prop) : onEx .normal A B ↔ A := Iff.rfl
@[simp] theorem onEx_exit (j : Nat) (A B : Prop) : onEx (.exit j) A B ↔ B := Iff.rfl
@[simp] theorem onEx_ret (A B : Prop) : onEx .ret A B ↔ B := Iff.rfl
/-- .. behind a block. -/
def Ex.out (id : Nat) : Ex → Ex
  | .exit j => match Nat.beq j id with
    | true => .normal
    | false => .exit j
  | e => e
@[simp] theorem Ex.out_normal (id : Nat) : Ex.out id .normal = .normal := rfl
@[simp] theorem Ex.out_ret (id : Nat) : Ex.out id .ret = .ret := rfl
@[simp] theorem Ex.out_exit (id j : Nat) : Ex.out id (.exit j) = if j = id then .normal else .exit j := by
  unfold Ex.out
  simp only
  split
  · rename_i h; rw [if_pos (Nat.eq_of_beq_eq_true h)]
  · rename_i h; rw [if_neg (Nat.ne_of_beq_eq_false h)]

section
variable {P : Program} {bad : List Nat} {call : CallO} {n k : Nat} {s : St} {Q : Ex → St → Prop}
theorem W_some {c : Code} {e : Ex} {s1 : St} (h : acodeT P bad call n k c s = some (e, s1)) : W P bad call n k c s Q ↔ Q e s1 := by
  unfold W
  rw [h]
  constructor
  · rintro ⟨e', s', h1, h2⟩
    cases h1; exact h2
  · intro h; exact ⟨_, _, rfl, h⟩
theorem W_none {c : Code} (h : acodeT P bad call n k c s = none) : W P bad call n k c s Q ↔ False := by
  unfold W
  rw [h]
  constructor
  · rintro ⟨e', s', h1, h2⟩
    cases h1
  · exact False.elim
@[simp] theorem W_skip : W P bad call n k .skip s Q ↔ Q .normal s := W_some rfl
@[simp] theorem W_exit (id : Nat) : W P bad call n k (.exit id) s Q ↔ Q (.exit id) s := W_some rfl
@[simp] theorem W_ret : W P bad call n k .ret s Q ↔ Q .ret s := W_some rfl
@[simp] theorem W_label (id : Nat) : W P bad call n k (.label id) s Q ↔ Q .normal s := W_some rfl
@[simp] theorem W_scope (c : Code) : W P bad call n k (.scope c) s Q ↔ W P bad call n k c s Q := Iff.rfl
@[simp] theorem W_seq (a b : Code) : W P bad call n k (.seq a b) s Q ↔ W P bad call n k a s fun e s' => onEx e (W P bad call n k b s' Q) (Q e s') := by
  cases ha : acodeT P bad call n k a s with
  | none => rw [W_none ha, W_none (by rw [code_seq, ha])]
  | some r =>
    obtain ⟨e, s'⟩ := r
    rw [W_some ha]
    cases e with
    | normal =>
      rw [onEx_normal]
      unfold W
      rw [code_seq, ha]
    | exit j => rw [onEx_exit, W_some (by rw [code_seq, ha])]
    | ret => rw [onEx_ret, W_some (by rw [code_seq, ha])]
@[simp] theorem W_cond (c : Operand) (a b : Code) : W P bad call n k (.cond c a b) s Q ↔ onBool (ev s.t c) (W P bad call n k a s Q) (W P bad call n k b s Q) := by
  simp only [W, code_cond]
  cases hc : ev s.t c <;> simp [onBool]
  rename_i v
  cases v <;> simp
@[simp] theorem W_block (id : Nat) (c : Code) : W P bad call n k (.block id c) s Q ↔ W P bad call n k c s fun e s' => Q (e.out id) s' := by
  cases ha : acodeT P bad call n k c s with
  | none => rw [W_none ha, W_none (by rw [code_block, ha])]
  | some r =>
    obtain ⟨e, s'⟩ := r
    rw [W_some ha]
    cases e with
    | normal => exact W_some (by rw [code_block, ha]; rfl)
    | ret => exact W_some (by rw [code_block, ha]; rfl)
    | exit j =>
      refine W_some ?_
      rw [code_block, ha]
      unfold Ex.out
      simp only
      cases Nat.beq j id <;> rfl
theorem W_region {id : Nat} {ops : Array Oper} {d : Bool} (hb : inN id bad = false) : W P bad call n k (.region id ops d) s Q ↔ onSome (aops P call n ops ops.toList s) fun s' => Q .normal s' := by
  cases ha : aops P call n ops ops.toList s with
  | none => rw [W_none (by rw [code_region, hb, ha])]; rfl
  | some s' => rw [W_some (e := .normal) (s1 := s') (by rw [code_region, hb, ha])]; rfl
theorem W_region0 {P : Program} {call : CallO} {n k : Nat} {s : St} {Q : Ex → St → Prop} {id : Nat} {ops : Array Oper} {d : Bool} : W P [] call n k (.region id ops d) s Q ↔ onSome (aops P call n ops ops.toList s) fun s' => Q .normal s' := W_region rfl

theorem aloop_rule {f : St → Option (Ex × St)} (I : Nat → St → Prop) (Q : Ex → St → Prop) (h : ∀ j s, I j s → ∃ e s', f s = some (e, s') ∧ onEx e (∃ i, i < j ∧ I i s') (Q e s')) : ∀ j k s, j < k → I j s → ∃ e s', aloop f k s = some (e, s') ∧ Q e s' := by
  intro j
  induction j using Nat.strongRecOn with
  | _ j ih =>
    intro k s hk hI
    cases k with
    | zero => omega
    | succ k =>
      obtain ⟨e, s', h1, h2⟩ := h j s hI
      simp only [aloop, h1]
      cases e with
      | normal =>
        obtain ⟨i, hi, hI'⟩ := h2
        exact ih i hi k s' (by omega) hI'
      | exit id => exact ⟨_, _, rfl, h2⟩
      | ret => exact ⟨_, _, rfl, h2⟩
/-- A loop, by what holds ahead of each turn, and how many turns there still are. -/
theorem W_loop {c : Code} (I : Nat → St → Prop) (j : Nat) (hj : j < k) (hI : I j s) (h : ∀ j s, I j s → W P bad call n k c s fun e s' => onEx e (∃ i, i < j ∧ I i s') (Q e s')) : W P bad call n k (.loop c) s Q := by
  unfold W
  rw [code_loop]
  exact aloop_rule I Q h j k s hj hI
theorem W_mono {c : Code} {Q' : Ex → St → Prop} (h : W P bad call n k c s Q) (hQ : ∀ e s', Q e s' → Q' e s') : W P bad call n k c s Q' := by
  obtain ⟨e, s', h1, h2⟩ := h
  exact ⟨e, s', h1, hQ e s' h2⟩

/-- A function, by what holds behind its body. -/
theorem afuncT_of {fn : Func} {c : Code} {args : List AV} {h : Heap} {r : AV × Heap} (hb : fn.body = some c) (hn : args.length ≤ fn.ntmps)
    (hw : W P bad call fn.ntmps k c ⟨argsTr args 0 .lf, h⟩ fun e s => onEx e (((ares P s fn.results.toList).map fun l => (aresult l, s.h)) = some r) (e = .ret ∧ ((ares P s fn.results.toList).map fun l => (aresult l, s.h)) = some r)) :
    afuncT P bad call k fn args h = some r := by
  obtain ⟨e, s', h1, h2⟩ := hw
  unfold afuncT
  have : Nat.ble args.length fn.ntmps = true := by simpa using hn
  simp only [hb, this, h1]
  cases e with
  | normal =>
    simp only [onEx_normal] at h2
    cases ha : ares P s' fn.results.toList <;> rw [ha] at h2 <;> simp_all
  | ret =>
    simp only [onEx_ret, true_and] at h2
    cases ha : ares P s' fn.results.toList <;> rw [ha] at h2 <;> simp_all
  | exit j =>
    simp only [onEx_exit] at h2
    cases h2.1
end

/-- A law: its arguments hold no memory. -/
theorem law_call {P : Program} (hmix : P.follows .mixedOrders = true) {k : Nat} {f : FuncId} {args : List AV} {vals : List Value} {h' : Heap} (hv : VRs (fun _ => none) args vals) (e : acall P k f args Heap.none = some (.bool true, h')) (w : World) :
    Calls P f ⟨vals⟩ w fun e w' => e = .returned (.bool true) ∧ Below w.heap.size w w' := by
  refine (acall_ok hmix k _ _ f args Heap.none _ h' _ w vals e hv (HR.start w)).mono fun e w' he => ?_
  obtain ⟨m', v, rfl, _, h2, h3⟩ := he
  simp only [VR] at h2
  subst h2
  exact ⟨rfl, ⟨h3.below.os, h3.below.tape, h3.below.output, h3.below.size, h3.below.block⟩⟩

attribute [irreducible] W onSome onBool onEx

end Go.YtcgafaecdjbmiaaAbs
