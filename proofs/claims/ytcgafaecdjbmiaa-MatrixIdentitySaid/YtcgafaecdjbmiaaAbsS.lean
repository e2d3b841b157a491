/- Stepping with values that aren't known. -/
import Derived.Test.YtcgafaecdjbmiaaAbsN
namespace Go.YtcgafaecdjbmiaaAbs
open Go Go.RowKit

section
variable {P : Program} {bad : List Nat} {call : CallO} {n k : Nat}

@[simp] theorem code_skip (s : St) : acodeT P bad call n k .skip s = some (.normal, s) := rfl
@[simp] theorem code_seq (a b : Code) (s : St) : acodeT P bad call n k (.seq a b) s = match acodeT P bad call n k a s with
    | some (.normal, s') => acodeT P bad call n k b s'
    | r => r := rfl
@[simp] theorem code_region (id : Nat) (ops : Array Oper) (d : Bool) (s : St) : acodeT P bad call n k (.region id ops d) s = match (match inN id bad with | true => aregion P call n ops d s | false => aops P call n ops ops.toList s) with
    | some s' => some (.normal, s')
    | none => none := rfl
@[simp] theorem code_cond (c : Operand) (a b : Code) (s : St) : acodeT P bad call n k (.cond c a b) s = match ev s.t c with
    | .bool true => acodeT P bad call n k a s
    | .bool false => acodeT P bad call n k b s
    | _ => none := rfl
@[simp] theorem code_block (id : Nat) (c : Code) (s : St) : acodeT P bad call n k (.block id c) s = match acodeT P bad call n k c s with
    | some (.exit j, s') => match Nat.beq j id with
      | true => some (.normal, s')
      | false => some (.exit j, s')
    | r => r := rfl
@[simp] theorem code_exit (id : Nat) (s : St) : acodeT P bad call n k (.exit id) s = some (.exit id, s) := rfl
@[simp] theorem code_label (id : Nat) (s : St) : acodeT P bad call n k (.label id) s = some (.normal, s) := rfl
@[simp] theorem code_ret (s : St) : acodeT P bad call n k .ret s = some (.ret, s) := rfl
@[simp] theorem code_scope (c : Code) (s : St) : acodeT P bad call n k (.scope c) s = acodeT P bad call n k c s := rfl
theorem code_loop (c : Code) (s : St) : acodeT P bad call n k (.loop c) s = aloop (acodeT P bad call n k c) k s := rfl

@[simp] theorem aregion_text (ops : Array Oper) (s : St) : aregion P call n ops false s = aops P call n ops ops.toList s := rfl
theorem aregion_drawn {ops : Array Oper} (h : seqOk P ops = true) (s : St) : aregion P call n ops true s = aops P call n ops ops.toList s := adraw_seq h s

@[simp] theorem aops_nil {ops : Array Oper} (s : St) : aops P call n ops [] s = some s := rfl
/-- One operation that is wanted. -/
@[simp] theorem aops_go {ops : Array Oper} {d : Option Tmp} {op : Op} {ty : TypeId} {pos : String} {af : Array Edge} (r : List Oper) (s : St) : aops P call n ops (⟨d, op, ty, pos, af, none⟩ :: r) s =
    match aop P call s.t s.h ⟨d, op, ty, pos, af, none⟩ with
    | none => none
    | some (a, h) => match put n s.t d a with
      | none => none
      | some t => aops P call n ops r ⟨t, h⟩ := rfl
@[simp] theorem aops_if {ops : Array Oper} {d : Option Tmp} {op : Op} {ty : TypeId} {pos : String} {af : Array Edge} {g : Nat × Bool} (r : List Oper) (s : St) : aops P call n ops (⟨d, op, ty, pos, af, some g⟩ :: r) s =
    match awant ops s.t ⟨d, op, ty, pos, af, some g⟩ with
    | none => none
    | some true => match aop P call s.t s.h ⟨d, op, ty, pos, af, some g⟩ with
      | none => none
      | some (a, h) => match put n s.t d a with
        | none => none
        | some t => aops P call n ops r ⟨t, h⟩
    | some false => match put n s.t d (.tup []) with
      | none => none
      | some t => aops P call n ops r ⟨t, s.h⟩ := rfl
@[simp] theorem awant_if {ops : Array Oper} {d : Option Tmp} {op : Op} {ty : TypeId} {pos : String} {af : Array Edge} {j : Nat} {w : Bool} (t : Tr AV) : awant ops t ⟨d, op, ty, pos, af, some (j, w)⟩ =
    match (ops.toList[j]?).bind (·.dst) with
    | none => none
    | some d => match t.get d with
      | some (.bool b) => some (b == w)
      | some (.tup []) => some false
      | _ => none := rfl
@[simp] theorem put_some {t : Tr AV} {d : Tmp} {a : AV} (h : d < n) : put n t (some d) a = some (t.set d (some a)) := by
  have : Nat.blt d n = true := by simpa [Nat.blt_eq] using h
  simp [put, this]
@[simp] theorem put_none {t : Tr AV} {a : AV} : put n t none a = some t := rfl

variable {t : Tr AV} {h : Heap} {d : Option Tmp} {ty : TypeId} {pos : String} {af : Array Edge} {g : Option (Nat × Bool)}
@[simp] theorem aop_move (x : Operand) : aop P call t h ⟨d, .move x, ty, pos, af, g⟩ = some (ev t x, h) := rfl
@[simp] theorem aop_assign (x : Operand) : aop P call t h ⟨d, .assign x, ty, pos, af, g⟩ = some (ev t x, h) := rfl

theorem aop_pure {o : Oper} (h1 : ∀ h, aread P t h o = none) (h2 : ∀ h, aeff P call t h o = none) : aop P call t h o = (apure P t o).map fun a => (a, h) := by
  unfold aop; rw [h1, h2]; cases apure P t o <;> rfl
@[simp] theorem aop_pick (c a b : Operand) : aop P call t h ⟨d, .pick c a b, ty, pos, af, g⟩ = Option.map (fun (a : AV) => (a, h)) (match ev t c with
    | .bool true => some (ev t a)
    | .bool false => some (ev t b)
    | _ => none) := aop_pure (fun _ => rfl) (fun _ => rfl)
@[simp] theorem aop_nilCheck (x : Operand) : aop P call t h ⟨d, .nilCheck x, ty, pos, af, g⟩ = Option.map (fun (a : AV) => (a, h)) (match ev t x with
    | .ptr b i => some (.ptr b i)
    | .fn f cs => some (.fn f cs)
    | _ => none) := aop_pure (fun _ => rfl) (fun _ => rfl)
@[simp] theorem aop_fieldAddr (x : Operand) (s : TypeId) (f : Nat) : aop P call t h ⟨d, .fieldAddr s x f, ty, pos, af, g⟩ = Option.map (fun (a : AV) => (a, h)) (match ev t x, afield P s f with
    | .ptr b i, some (off, u) => match tsize P u with
      | some n => if n = 0 then none else some (.ptr b (i + off))
      | none => none
    | _, _ => none) := aop_pure (fun _ => rfl) (fun _ => rfl)
@[simp] theorem aop_indexAddr (x ix : Operand) (s : TypeId) : aop P call t h ⟨d, .indexAddr s x ix, ty, pos, af, g⟩ = (aindex P s (ev t x) (ev t ix)).map fun a => (a, h) :=
  aop_pure (fun _ => rfl) (fun _ => rfl)
@[simp] theorem aop_load (x : Operand) (u : TypeId) : aop P call t h ⟨d, .load u x, ty, pos, af, g⟩ = match ev t x with
    | .ptr b i => (aload P h u b i).map fun a => (a, h)
    | _ => none := by
  show (match (match ev t x with | .ptr b i => aload P h u b i | _ => none) with | some a => some (a, h) | none => none) = _
  cases ev t x <;> try rfl
  simp only
  cases aload P h u _ _ <;> rfl
@[simp] theorem aop_store (x v : Operand) (u : TypeId) : aop P call t h ⟨d, .store u x v, ty, pos, af, g⟩ = match ev t x, (ev t v).row1, tsize P u with
    | .ptr b i, some vs, some n => if vs.length = n then match alay h b i vs with
      | some h' => some (.tup [], h')
      | none => none else none
    | _, _, _ => none := rfl
@[simp] theorem aop_extract (x : Operand) (i : Nat) : aop P call t h ⟨d, .extract x i, ty, pos, af, g⟩ = Option.map (fun (a : AV) => (a, h)) (match ev t x with
    | .tup l => l[i]?
    | _ => none) := aop_pure (fun _ => rfl) (fun _ => rfl)
@[simp] theorem aop_field (x : Operand) (s : TypeId) (f : Nat) : aop P call t h ⟨d, .field s x f, ty, pos, af, g⟩ = Option.map (fun (a : AV) => (a, h)) (match ev t x, afield P s f with
    | .agg cs, some (off, ty) => apart P ty cs off
    | _, _ => none) := aop_pure (fun _ => rfl) (fun _ => rfl)
@[simp] theorem aop_bin (x y : Operand) (op : BinOp) (u v : TypeId) : aop P call t h ⟨d, .binOp op u x y v, ty, pos, af, g⟩ = (apure P t ⟨d, .binOp op u x y v, ty, pos, af, g⟩).map fun a => (a, h) :=
  aop_pure (fun _ => rfl) (fun _ => rfl)
@[simp] theorem apure_bin (x y : Operand) (op : BinOp) (u v : TypeId) : apure P t ⟨d, .binOp op u x y v, ty, pos, af, g⟩ = match fast op (ev t x) (ev t y) with
    | some u => some u
    | none => match op with
    | .eql => match aeql P u (ev t x) (ev t y) with
      | some b => some (.bool b)
      | none => aback P t ⟨d, .binOp op u x y v, ty, pos, af, g⟩
    | .neq => match aeql P u (ev t x) (ev t y) with
      | some b => some (.bool !b)
      | none => aback P t ⟨d, .binOp op u x y v, ty, pos, af, g⟩
    | _ => aback P t ⟨d, .binOp op u x y v, ty, pos, af, g⟩ := rfl
@[simp] theorem aop_un (x : Operand) (op : UnOp) (u : TypeId) : aop P call t h ⟨d, .unOp op u x, ty, pos, af, g⟩ = Option.map (fun (a : AV) => (a, h)) (match op, ev t x with
    | .not, .bool b => some (.bool !b)
    | _, _ => aback P t ⟨d, .unOp op u x, ty, pos, af, g⟩) :=
  aop_pure (fun _ => rfl) (fun _ => rfl)
@[simp] theorem aop_slice (x : Operand) (s : TypeId) (lo hi mx : Option Operand) : aop P call t h ⟨d, .slice s x lo hi mx, ty, pos, af, g⟩ = Option.map (fun (a : AV) => (a, h)) (aslice P s (ev t x) (lo.map (ev t)) (hi.map (ev t)) (mx.map (ev t))) :=
  aop_pure (fun _ => rfl) (fun _ => rfl)
@[simp] theorem aop_index (x ix : Operand) (s : TypeId) : aop P call t h ⟨d, .index s x ix, ty, pos, af, g⟩ = Option.map (fun (a : AV) => (a, h)) (match ev t x, ev t ix, P.underlying s with
    | .agg cs, .int _ n, some (.array len e) => match tsize P e with
      | some sz => if 0 ≤ n ∧ n < (len : Int) then apart P e cs (n.toNat * sz) else none
      | none => none
    | .str s, .int _ (.ofNat n), some .string => match s.data.toList[n]? with
      | some b => some (.int .u8 (.ofNat b.toNat))
      | none => none
    | _, _, _ => none) :=
  aop_pure (fun _ => rfl) (fun _ => rfl)
@[simp] theorem aop_alloc (u : TypeId) : aop P call t h ⟨d, .alloc u, ty, pos, af, g⟩ = match azero P u with
    | some z => if z.all AV.one then some (.ptr h.next 0, h.new (.cells z false)) else none
    | none => none := by
  show (match (match azero P u with | some z => if z.all AV.one then some (z, fun b => AV.ptr b 0) else none | none => none) with | some (cs, mk) => some (mk h.next, h.new (.cells cs false)) | none => none) = _
  cases azero P u with
  | none => rfl
  | some z =>
    simp only
    by_cases hz : z.all AV.one = true
    · rw [if_pos hz, if_pos hz]
    · rw [if_neg hz, if_neg hz]
@[simp] theorem aop_box (u : TypeId) (x : Operand) : aop P call t h ⟨d, .box u x, ty, pos, af, g⟩ = match (ev t x).row1 with
    | some z => some (.ptr h.next 0, h.new (.cells z false))
    | none => none := by
  show (match (match (ev t x).row1 with | some z => some (z, fun b => AV.ptr b 0) | none => none) with | some (cs, mk) => some (mk h.next, h.new (.cells cs false)) | none => none) = _
  cases (ev t x).row1 <;> rfl
/-- It isn't called so. -/
def nogo (fn : Func) : Bool := fn.name == "runtime.NumGoroutine" || fn.body.isNone
/-- A call of a function. -/
@[simp] theorem aop_call (f : Operand) (args : Array Operand) (tys : Array TypeId) : aop P call t h ⟨d, .call ⟨.value f, args, tys⟩, ty, pos, af, g⟩ = match ev t f with
    | .fn g cs => match P.funcs[g]? with
      | some fn => if nogo fn then none else call g (args.toList.map (ev t) ++ cs) h
      | none => none
    | _ => none := rfl
@[simp] theorem ev_func (f : FuncId) : ev t (.func f) = .fn f [] := rfl
def vlen (a : Option AV) (u : Option TypeDesc) : Option AV := match a, u with
  | some (.sl _ _ n _ _ _), some (.slice _) => some (.int .i64 n)
  | some .emp, some (.slice _) => some (.int .i64 0)
  | some .nils, some (.slice _) => some (.int .i64 0)
  | some (.str s), some .string => some (.int .i64 s.size)
  | _, _ => none
@[simp] theorem vlen_sl (b i n c z : Nat) (x : Bool) (e : TypeId) : vlen (some (.sl b i n c z x)) (some (.slice e)) = some (.int .i64 n) := rfl
@[simp] theorem vlen_emp (e : TypeId) : vlen (some .emp) (some (.slice e)) = some (.int .i64 0) := rfl
@[simp] theorem vlen_nils (e : TypeId) : vlen (some .nils) (some (.slice e)) = some (.int .i64 0) := rfl
@[simp] theorem vlen_str (s : ByteArray) : vlen (some (.str s)) (some .string) = some (.int .i64 s.size) := rfl
@[simp] theorem aop_len (args : Array Operand) (tys : Array TypeId) : aop P call t h ⟨d, .call ⟨.builtin .len, args, tys⟩, ty, pos, af, g⟩ = match apure P t ⟨d, .call ⟨.builtin .len, args, tys⟩, ty, pos, af, g⟩ with
    | some a => some (a, h)
    | none => match aread P t h ⟨d, .call ⟨.builtin .len, args, tys⟩, ty, pos, af, g⟩ with
      | some a => some (a, h)
      | none => none := rfl
@[simp] theorem apure_len (args : Array Operand) (tys : Array TypeId) : apure P t ⟨d, .call ⟨.builtin .len, args, tys⟩, ty, pos, af, g⟩ = vlen ((args[0]?).map (ev t)) ((tys[0]?).bind P.underlying) := rfl
@[simp] theorem aop_append (args : Array Operand) (tys : Array TypeId) : aop P call t h ⟨d, .call ⟨.builtin .append, args, tys⟩, ty, pos, af, g⟩ = match args[0]?, args[1]?, tys[0]?, tys[1]? with
      | some s, some x, some st, some xt => aappend P h st xt (ev t s) (ev t x)
      | _, _, _, _ => none := rfl
@[simp] theorem aop_copy (args : Array Operand) (tys : Array TypeId) : aop P call t h ⟨d, .call ⟨.builtin .copy, args, tys⟩, ty, pos, af, g⟩ = match args[0]?, args[1]?, tys[0]? with
      | some s, some x, some st => acopy P h st (ev t s) (ev t x)
      | _, _, _ => none := rfl
theorem aop_conv (x : Operand) (src dst : TypeId) : aop P call t h ⟨d, .convert src dst x, ty, pos, af, g⟩ = match apure P t ⟨d, .convert src dst x, ty, pos, af, g⟩ with
    | some a => some (a, h)
    | none => match aread P t h ⟨d, .convert src dst x, ty, pos, af, g⟩ with
      | some a => some (a, h)
      | none => aeff P call t h ⟨d, .convert src dst x, ty, pos, af, g⟩ := rfl
theorem apure_conv (x : Operand) (src dst : TypeId) : apure P t ⟨d, .convert src dst x, ty, pos, af, g⟩ = match ev t x, P.underlying dst with
    | .str _, some (.slice _) => none
    | .int _ n, some (.int k) => match P.underlying src with
      | some _ => some (.int k (fwrap k n))
      | none => none
    | .int .., _ => aback P t ⟨d, .convert src dst x, ty, pos, af, g⟩
    | .str _, _ => aback P t ⟨d, .convert src dst x, ty, pos, af, g⟩
    | _, _ => none := rfl
@[simp] theorem ev_tmp (i : Nat) : ev t (.tmp i) = match t.get i with
    | some a => a
    | none => .bad := rfl
@[simp] theorem ev_const (v : Value) : ev t (.const v) = ofV v := rfl
end

@[simp] theorem ieq_dec (a b : Int) : ieq a b = decide (a = b) := by rw [ieq_eq]; by_cases h : a = b <;> simp [h]
attribute [simp] ile_eq Tr.get_set Tr.get_lf ofV ofVs argsTr fast fbin sameKind ares aresult inN memN

end Go.YtcgafaecdjbmiaaAbs
