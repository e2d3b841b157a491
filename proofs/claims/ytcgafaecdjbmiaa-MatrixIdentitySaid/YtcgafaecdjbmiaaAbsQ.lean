/- Structs and arrays are compared. -/
import Derived.Test.YtcgafaecdjbmiaaAbsU
namespace Go.YtcgafaecdjbmiaaAbs
open Go Go.RowKit
set_option linter.unusedSimpArgs false
set_option linter.unusedVariables false

theorem semPure_all {α : Type} (P : Program) (c : α → Prop) [DecidablePred c] (g : α → Sem Bool) (p : α → Bool) : ∀ (l : List α), (∀ a, a ∈ l → c a → semPure P (g a) = some (p a)) →
   semPure P (do
      for f in l do
        if c f then
          if !(← g f) then return false
      pure true) = some (l.all fun a => !decide (c a) || p a)
  | [], h => rfl
  | a :: l, h => by
    have ih := semPure_all P c g p l (fun b hb => h b (by simp [hb]))
    rw [List.forIn_cons]
    by_cases hc : c a
    · have ha := h a (by simp) hc
      simp only [hc, if_true, bind_assoc]
      rw [semPure_bind P (g a) _ ha]
      cases hp : p a with
      | true => simp [hc, hp, pure_bind]; simpa using ih
      | false => simp [hc, hp, pure_bind]; rfl
    · simp [hc, pure_bind]; simpa [hc] using ih
theorem semPure_allA {α : Type} (P : Program) (c : α → Prop) [DecidablePred c] (g : α → Sem Bool) (p : α → Bool) (l : Array α) (h : ∀ a, a ∈ l.toList → c a → semPure P (g a) = some (p a)) :
   semPure P (do
      for f in l do
        if c f then
          if !(← g f) then return false
      pure true) = some (l.toList.all fun a => !decide (c a) || p a) := by
  have := semPure_all P c g p l.toList h
  simpa using this
theorem semPure_allR (P : Program) (g : Nat → Sem Bool) (p : Nat → Bool) (n : Nat) (h : ∀ a, a < n → semPure P (g a) = some (p a)) :
   semPure P (do
      for i in [0:n] do
        if !(← g i) then return false
      pure true) = some ((List.range n).all p) := by
  have := semPure_all P (fun _ => True) g p (List.range n) (fun a ha _ => h a (List.mem_range.1 ha))
  simp [List.range_eq_range'] at this ⊢
  simpa using this

theorem semPure_info {P : Program} {t : TypeId} {i : TypeInfo} (h : P.info? t = some i) : semPure P (typeInfo t) = some i := by
  unfold typeInfo
  rw [semPure_bind P program _ (a := P) rfl, h]
  rfl
theorem semPure_size {P : Program} {t : TypeId} {n : Nat} (h : tsize P t = some n) : semPure P (sizeOf t) = some n := by
  unfold tsize at h
  cases hi : P.info? t with
  | none => rw [hi] at h; cases h
  | some i =>
    rw [hi] at h
    cases h
    unfold sizeOf
    rw [semPure_bind P _ _ (semPure_info hi)]
    rfl
/-- Is it of one cell, and compared as such? -/
def basicTy : TypeDesc → Bool
  | .bool | .int _ | .string => true
  | _ => false
theorem part_basic {P : Program} {t : TypeId} {u : TypeDesc} (hu : P.underlying t = some u) (hb : basicTy u = true) {cs : Array Value} {off : Nat} {v : Value} (hx : cs[off]? = some v) : semPure P (part t cs off) = some v := by
  have : semPure P (isAgg t) = some false := by
    unfold isAgg
    rw [semPure_bind P _ _ (semPure_und hu)]
    cases u <;> first | (cases hb; done) | rfl
  unfold part
  rw [semPure_bind P _ _ this, hx]
  rfl
theorem part_agg {P : Program} {t : TypeId} {u : TypeDesc} (hu : P.underlying t = some u) (hb : (match u with | .struct _ => true | .array _ _ => true | _ => false) = true) {n : Nat} (hs : tsize P t = some n) {cs : Array Value} {off : Nat} : semPure P (part t cs off) = some (.agg (cs.extract off (off + n))) := by
  have : semPure P (isAgg t) = some true := by
    unfold isAgg
    rw [semPure_bind P _ _ (semPure_und hu)]
    cases u <;> first | (cases hb; done) | rfl
  unfold part
  rw [semPure_bind P _ _ this]
  simp only [if_true]
  rw [semPure_bind P _ _ (semPure_size hs)]
  rfl
/-- Values of one cell. -/
def veq : Value → Value → Bool
  | .bool a, .bool b => a == b
  | .int _ a, .int _ b => a == b
  | .string a, .string b => a == b
  | _, _ => false
def fits : TypeDesc → Value → Bool
  | .bool, .bool _ => true
  | .int k, .int j _ => k == j
  | .string, .string _ => true
  | _, _ => false
theorem equal_basic {P : Program} {t : TypeId} {u : TypeDesc} (hu : P.underlying t = some u) {x y : Value} (hx : fits u x = true) (hy : fits u y = true) (d : Nat) : semPure P (Op.equalIn (d + 1) t x y) = some (veq x y) := by
  unfold Op.equalIn
  rw [semPure_bind P _ _ (semPure_und hu)]
  cases u <;> cases x <;> first | (cases hx; done) | (cases y <;> first | (cases hy; done) | rfl | skip)
  simp only [fits, beq_iff_eq] at hx hy
  subst hx
  subst hy
  simp only [if_true]
  rfl
theorem equal_struct {P : Program} {t : TypeId} {fs : Array Field} (hu : P.underlying t = some (.struct fs)) (hst : P.stoodInHeld t = false) {xs ys : Array Value} {d : Nat} {p : Field → Bool}
    (h : ∀ f, f ∈ fs.toList → f.name ≠ "_" → ∃ x y, semPure P (part f.type xs f.offset) = some x ∧ semPure P (part f.type ys f.offset) = some y ∧ semPure P (Op.equalIn d f.type x y) = some (p f)) :
    semPure P (Op.equalIn (d + 1) t (.agg xs) (.agg ys)) = some (fs.toList.all fun f => decide (f.name = "_") || p f) := by
  unfold Op.equalIn
  rw [semPure_bind P _ _ (semPure_und hu)]
  simp only
  rw [semPure_bind P program _ (a := P) rfl, hst]
  have := semPure_allA P (fun f : Field => f.name ≠ "_") (fun f => do
      let a ← part f.type xs f.offset
      let b ← part f.type ys f.offset
      Op.equalIn d f.type a b) p fs (fun f hf hn => by
    obtain ⟨x, y, h1, h2, h3⟩ := h f hf hn
    rw [semPure_bind P _ _ h1, semPure_bind P _ _ h2, h3])
  simp only [bind_assoc] at this
  simpa using this
theorem equal_array {P : Program} {t e : TypeId} {len n : Nat} (hu : P.underlying t = some (.array len e)) (hs : tsize P e = some n) {xs ys : Array Value} {d : Nat} {p : Nat → Bool}
    (h : ∀ i, i < len → ∃ x y, semPure P (part e xs (i * n)) = some x ∧ semPure P (part e ys (i * n)) = some y ∧ semPure P (Op.equalIn d e x y) = some (p i)) :
    semPure P (Op.equalIn (d + 1) t (.agg xs) (.agg ys)) = some ((List.range len).all p) := by
  unfold Op.equalIn
  rw [semPure_bind P _ _ (semPure_und hu)]
  simp only
  rw [semPure_bind P _ _ (semPure_size hs)]
  have := semPure_allR P (fun i => do
      let a ← part e xs (i * n)
      let b ← part e ys (i * n)
      Op.equalIn d e a b) p len (fun i hi => by
    obtain ⟨x, y, h1, h2, h3⟩ := h i hi
    rw [semPure_bind P _ _ h1, semPure_bind P _ _ h2, h3])
  simp only [bind_assoc] at this
  exact this

@[simp] theorem aeql_agg {P : Program} {ty : TypeId} {a b : List AV} : aeql P ty (.agg a) (.agg b) = none := by
  unfold aeql
  cases P.underlying ty with
  | none => rfl
  | some u => cases u <;> rfl
@[simp] theorem bcmp_agg {P : Program} {op : BinOp} {ty : TypeId} {a b : List AV} : bcmp P op ty (.agg a) (.agg b) = none := by
  unfold bcmp
  cases op <;> rfl
section
variable {P : Program} {t : Tr AV} {d : Option Tmp} {ty tv v : TypeId} {pos : String} {af : Array Edge} {g : Option (Nat × Bool)} {x y : Operand}
/-- Structs are compared: through the model. -/
theorem aback_eqS {xs ys : List AV} {us vs : List Value} {b : Bool} (hx : ev t x = .agg xs) (hy : ev t y = .agg ys) (hu : vals? xs = some us) (hv : vals? ys = some vs) (hg : P.eqGuardType P.depth ty = false)
    (he : semPure P (Op.equal ty (.agg ⟨us⟩) (.agg ⟨vs⟩)) = some b) (op : BinOp) (ho : op = .eql ∨ op = .neq) : aback0 P t ⟨d, .binOp op ty x y tv, v, pos, af, g⟩ = some (.bool (if op = .eql then b else !b)) := by
  have vx : (ev t x).val? = some (.agg ⟨us⟩) := by rw [hx]; simp only [AV.val?, hu, Option.map_some]
  have vy : (ev t y).val? = some (.agg ⟨vs⟩) := by rw [hy]; simp only [AV.val?, hv, Option.map_some]
  have gd : semPure P (eqGuard op ty x y (.agg ⟨us⟩) (.agg ⟨vs⟩)) = some () := by
    unfold eqGuard
    rcases ho with rfl | rfl
    · simp only [Bool.not_true, Bool.false_eq_true, if_false]
      rw [semPure_bind P program _ (a := P) rfl, semPure_bind P program _ (a := P) rfl, hg]
      rfl
    · simp only [Bool.not_true, Bool.false_eq_true, if_false]
      rw [semPure_bind P program _ (a := P) rfl, semPure_bind P program _ (a := P) rfl, hg]
      rfl
  have : semPure P (execOp (fun x => ((ev t x).val?).getD undef) ⟨d, .binOp op ty x y tv, v, pos, af, g⟩) = some (.value (.bool (if op = .eql then b else !b))) := by
    simp only [execOp, vx, vy, Option.getD_some]
    have e1 : semPure P (do
        eqGuard op ty x y (.agg ⟨us⟩) (.agg ⟨vs⟩)
        binOp op ty (.agg ⟨us⟩) (.agg ⟨vs⟩)) = some (.bool (if op = .eql then b else !b)) := by
      rw [semPure_bind P _ _ gd]
      rcases ho with rfl | rfl
      · show semPure P (Op.equal ty _ _ >>= fun r => pure (Value.bool r)) = _
        rw [semPure_bind P _ _ he]
        rfl
      · show semPure P (Op.equal ty _ _ >>= fun r => pure (Value.bool !r)) = _
        rw [semPure_bind P _ _ he]
        rfl
    rw [semPure_bind P _ _ e1]
    rfl
  unfold aback0 aback
  simp [Op.operands, vx, vy, this]
theorem aback_neS {xs ys : List AV} {us vs : List Value} {b : Bool} (hx : ev t x = .agg xs) (hy : ev t y = .agg ys) (hu : vals? xs = some us) (hv : vals? ys = some vs) (hg : P.eqGuardType P.depth ty = false)
    (he : semPure P (Op.equal ty (.agg ⟨us⟩) (.agg ⟨vs⟩)) = some b) : aback00 P t ⟨d, .binOp .neq ty x y tv, v, pos, af, g⟩ = some (.bool !b) := by
  have := aback_eqS (t := t) (d := d) (tv := tv) (v := v) (pos := pos) (af := af) (g := g) hx hy hu hv hg he .neq (.inr rfl)
  exact this
end
end Go.YtcgafaecdjbmiaaAbs
