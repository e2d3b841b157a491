/- Stepping: maps. -/
import Derived.Test.YtmoigchjmmjljaaAbsU
namespace Go.YtmoigchjmmjljaaAbs
open Go Go.RowKit
set_option linter.unusedSimpArgs false
set_option linter.unusedVariables false

/-- What is put under a key. -/
def mapPut (P : Program) (ty : TypeId) (h : Heap) (m k v : AV) : Option (AV × Heap) := match P.underlying ty, m with
  | some (.map kt _), .mp b => if akey P kt k then match h.get b with
    | some (.map es cl) => match amput es cl k v with
      | some o => some (.tup [], h.set b o)
      | none => none
    | _ => none else none
  | _, _ => none
/-- What stands under a key. -/
def mapGet (P : Program) (ty : TypeId) (h : Heap) (m k : AV) (ok : Bool) : Option AV := match P.underlying ty with
  | some (.map kt et) => match akey P kt k, azerov P et with
    | true, some z => match (match m with
        | .nilm => some []
        | .mp b => match h.get b with
          | some (.map es _) => some es
          | _ => none
        | _ => none) with
      | none => none
      | some es => match afind k es 0 with
        | none => none
        | some (some (_, v, _)) => some (if ok then .tup [v, .bool true] else v)
        | some none => some (if ok then .tup [z, .bool false] else z)
    | _, _ => none
  | _ => none
/-- What stands under a key is taken out. -/
def mapDel (P : Program) (ty : TypeId) (h : Heap) (m k : AV) : Option (AV × Heap) := match P.underlying ty with
  | some (.map kt _) => if akey P kt k then match m with
    | .mp b => match h.get b with
      | some (.map es cl) => match afind k es 0 with
        | some (some (i, _, _)) => some (.tup [], h.set b (.map (es.eraseIdx i) cl))
        | some none => some (.tup [], h)
        | none => none
      | _ => none
    | .nilm => some (.tup [], h)
    | _ => none else none
  | _ => none
section
variable {P : Program} {call : CallO} {t : Tr AV} {h : Heap} {d : Option Tmp} {ty : TypeId} {pos : String} {af : Array Edge} {g : Option (Nat × Bool)}
@[simp] theorem aop_makeMap (u : TypeId) : aop P call t h ⟨d, .makeMap u none, ty, pos, af, g⟩ = some (.mp h.next, h.new (.map [] 0)) := rfl
@[simp] theorem aop_mapUpdate (u : TypeId) (x k v : Operand) : aop P call t h ⟨d, .mapUpdate u x k v, ty, pos, af, g⟩ = mapPut P u h (ev t x) (ev t k) (ev t v) := rfl
@[simp] theorem aop_lookup (u : TypeId) (x k : Operand) (ok : Bool) : aop P call t h ⟨d, .lookup u x k ok, ty, pos, af, g⟩ = (mapGet P u h (ev t x) (ev t k) ok).map fun a => (a, h) := by
  show (match mapGet P u h (ev t x) (ev t k) ok with
    | some a => some (a, h)
    | none => none) = _
  cases mapGet P u h (ev t x) (ev t k) ok <;> rfl
@[simp] theorem aop_delete (x k : Operand) (st kt : TypeId) : aop P call t h ⟨d, .call ⟨.builtin .delete, List.toArray [x, k], List.toArray [st, kt]⟩, ty, pos, af, g⟩ = mapDel P st h (ev t x) (ev t k) := by
  show (match (some x : Option Operand), (some k : Option Operand), P.underlying st with
    | some x, some k, some (.map kt _) => (if akey P kt (ev t k) then match ev t x with
        | .mp b => match h.get b with
          | some (.map es cl) => match afind (ev t k) es 0 with
            | some (some (i, _, _)) => some (AV.tup [], h.set b (.map (es.eraseIdx i) cl))
            | some none => some (AV.tup [], h)
            | none => none
          | _ => none
        | .nilm => some (AV.tup [], h)
        | _ => none else none : Option (AV × Heap))
      | _, _, _ => none) = _
  unfold mapDel
  cases P.underlying st with
  | none => rfl
  | some u => cases u <;> rfl
end
end Go.YtmoigchjmmjljaaAbs
