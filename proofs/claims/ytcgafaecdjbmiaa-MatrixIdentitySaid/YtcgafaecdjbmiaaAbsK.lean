/- Regions: in the order of the text, and in whatever order. -/
import Derived.Test.YtcgafaecdjbmiaaAbsJ
namespace Go.YtcgafaecdjbmiaaAbs
open Go Go.RowKit

section
variable {P : Program} {F : Env} {w0 : World}

/-- A state of the abstract machine and one of the model. -/
structure SR (F : Env) (w0 : World) (m : Mp) (n : Nat) (s : St) (a : Act) (w : World) : Prop where
  t : TR m n s.t a.tmps
  d : a.defers = []
  h : HR F w0 m s.h w

theorem put_defers (a : Act) (d : Option Tmp) (v : Value) : (a.put d v).defers = a.defers := by cases d <;> rfl

theorem awant_sound {ops : Array Oper} {t : Tr AV} {o : Oper} {b : Bool} (e : awant ops t o = some b) {m : Mp} {n : Nat} {tmps : Array Value} (hs : tmps.size = n)
    (ht : ∀ j w d, o.guard = some (j, w) → (ops[j]?).bind (·.dst) = some d → ∀ v, t.get d = some v → d < n ∧ VR m v (tmps.getD d undef)) : Region.wanted o (yielded ops tmps) = b := by
  unfold awant at e
  unfold Region.wanted
  split at e
  · rename_i hg
    simp only [Option.some.injEq] at e; subst e
    rw [hg]
  · rename_i j want hg
    rw [hg]
    simp only
    rw [Array.getElem?_toList] at e
    split at e
    · cases e
    · rename_i d hd
      have key : ∀ v, t.get d = some v → ∃ u, tmps[d]? = some u ∧ VR m v u := by
        intro v hv
        obtain ⟨h1, h2⟩ := ht j want d hg hd v hv
        have hlt : d < tmps.size := Nat.lt_of_lt_of_eq h1 hs.symm
        refine ⟨tmps[d], by simp [hlt], ?_⟩
        simpa [Array.getD, hlt] using h2
      split at e
      · rename_i bb hv
        simp only [Option.some.injEq] at e; subst e
        obtain ⟨u, h1, h2⟩ := key _ hv
        simp only [VR] at h2; subst h2
        simp only [yielded, hd, Option.bind_some, h1]
        rfl
      · rename_i hv
        simp only [Option.some.injEq] at e; subst e
        obtain ⟨u, h1, h2⟩ := key _ hv
        simp only [VR] at h2
        obtain ⟨vs, rfl, h3⟩ := h2
        simp only [VRs] at h3; subst h3
        simp only [yielded, hd, Option.bind_some, h1]
        rfl
      · cases e

/-- A step of the abstract machine, as the model's weakest precondition has it. -/
theorem aop_wp {call : CallO} (hcall : CallsOK P F w0 call) {m : Mp} {t : Tr AV} {h h' : Heap} {o : Oper} {u : AV} (e : aop P call t h o = some (u, h')) {a : Act} {w : World} (hE : OR m t a.eval o) (H : HR F w0 m h w)
    {next : Act → World → Prop} {Q : Exit → Act → World → Prop} (k : ∀ m' v w', Le m m' → VR m' u v → HR F w0 m' h' w' → next (a.put o.dst v) w') : o.wp P a w next Q := by
  unfold Oper.wp
  unfold aop at e
  split at e
  · rename_i u' hp
    simp only [Option.some.injEq, Prod.mk.injEq] at e
    obtain ⟨rfl, rfl⟩ := e
    obtain ⟨v, h1, h2⟩ := apure_sound hE hp
    rw [h2 w]
    exact k m v w (Le.refl m) h1 H
  · split at e
    · rename_i u' hp
      simp only [Option.some.injEq, Prod.mk.injEq] at e
      obtain ⟨rfl, rfl⟩ := e
      obtain ⟨v, h1, h2⟩ := aread_sound H hE hp
      rw [h2]
      exact k m v w (Le.refl m) h1 H
    · exact aeff_sound H hcall hE e k

theorem SR.or {m : Mp} {n : Nat} {s : St} {a : Act} {w : World} (S : SR F w0 m n s a w) (o : Oper) : OR m s.t a.eval o := fun x _ => S.t.ev x

theorem aops_sound {call : CallO} (hcall : CallsOK P F w0 call) {n : Nat} {ops : Array Oper} {Q : Exit → Act → World → Prop} : ∀ (l : List Oper) (k : Nat) (s s' : St) (m : Mp) (a : Act) (w : World),
    (∀ i o, l[i]? = some o → ops[k + i]? = some o) → aops P call n ops l s = some s' → SR F w0 m n s a w → (∀ m' a' w', Le m m' → SR F w0 m' n s' a' w' → Q .normal a' w') →
    wpOps P ops Q (List.range' k l.length) a w
  | [], k, s, s', m, a, w, _, e, S, hQ => by
    simp only [aops, Option.some.injEq] at e; subst e
    exact hQ m a w (Le.refl m) S
  | o :: l, k, s, s', m, a, w, hl, e, S, hQ => by
    simp only [aops] at e
    have ho : ops[k]? = some o := by simpa using hl 0 o (by simp)
    have hl' : ∀ i o, l[i]? = some o → ops[k + 1 + i]? = some o := fun i o' h => by
      rw [show k + 1 + i = k + (i + 1) by omega]; exact hl (i + 1) o' (by simpa using h)
    simp only [List.length_cons, List.range'_succ]
    rw [wpOps_cons]
    unfold wpOp
    rw [ho]
    simp only
    split at e
    · cases e
    · rename_i hw
      have hw' := awant_sound hw S.t.1 (fun j w d _ _ v hv => S.t.2 d v hv)
      rw [if_pos hw']
      split at e
      · cases e
      · rename_i u h' hop
        split at e
        · cases e
        · rename_i t' hput
          refine .inl (aop_wp hcall hop (S.or o) S.h fun m' v w' hm hv H' => ?_)
          exact aops_sound hcall l (k + 1) ⟨t', h'⟩ s' m' _ _ hl' e ⟨(S.t.mono hm).put hput hv, by rw [put_defers]; exact S.d, H'⟩ (fun m'' a' w'' hm' S' => hQ m'' a' w'' (hm.trans hm') S')
    · rename_i hw
      have hw' := awant_sound hw S.t.1 (fun j w d _ _ v hv => S.t.2 d v hv)
      rw [if_neg (by rw [hw']; simp)]
      split at e
      · cases e
      · rename_i t' hput
        exact aops_sound hcall l (k + 1) ⟨t', s.h⟩ s' m _ _ hl' e ⟨S.t.put hput VR.undef, by rw [put_defers]; exact S.d, S.h⟩ hQ
end

/-! A region that draws its order -/

/-- Which operations stand ahead of an operation, by its edges: a mask. -/
def ancMask (acc : List Nat) (o : Oper) : Nat := o.after.toList.foldl (fun s e => if Region.binds .any e then s ||| (2 ^ e.on ||| acc.getD e.on 0) else s) 0
def ancsGo : List Oper → List Nat → List Nat
  | [], acc => acc
  | o :: r, acc => ancsGo r (acc ++ [ancMask acc o])
def ancs (ops : Array Oper) : List Nat := ancsGo ops.toList []

/-- Edges go back in the text. -/
def backOk : List Oper → Nat → Bool
  | [], _ => true
  | o :: r, i => o.after.toList.all (fun e => !Region.binds .any e || Nat.blt e.on i) && backOk r (i + 1)

def writer (ops : Array Oper) (d : Tmp) : Option Nat := ops.toList.findIdx? fun o => match o.dst with
  | some d' => Nat.beq d' d
  | none => false

def writersOk (ops : Array Oper) : List Oper → Nat → Bool
  | [], _ => true
  | o :: r, i => (match o.dst with
    | some d => (match writer ops d with | some j => Nat.beq j i | none => false)
    | none => true) && writersOk ops r (i + 1)

def ordered (an : List Nat) (i j : Nat) : Bool := (an.getD j 0).testBit i || (an.getD i 0).testBit j

def looksOk (ops : Array Oper) (an : List Nat) : List Oper → Nat → Bool
  | [], _ => true
  | o :: r, i => (o.looksAt ops).all (fun s => match writer ops s with
    | some j => Nat.beq j i || ordered an i j
    | none => true) && looksOk ops an r (i + 1)

def staticOk (ops : Array Oper) : Bool := backOk ops.toList 0 && writersOk ops ops.toList 0 && looksOk ops (ancs ops) ops.toList 0

mutual
/-- The same, as far as is asked. -/
def sameAV : AV → AV → Bool
  | .bool a, .bool b => a == b
  | .int j a, .int k b => decide (j = k) && decide (a = b)
  | .str a, .str b => decide (a = b)
  | .nilp, .nilp => true
  | .ptr a i, .ptr b j => Nat.beq a b && Nat.beq i j
  | .nils, .nils => true
  | .emp, .emp => true
  | .sl a i l c s x, .sl b j m d t y => Nat.beq a b && Nat.beq i j && Nat.beq l m && Nat.beq c d && Nat.beq s t && x == y
  | .nilm, .nilm => true
  | .mp a, .mp b => Nat.beq a b
  | .nilf, .nilf => true
  | .nili, .nili => true
  | .agg a, .agg b => sameAVs a b
  | .tup a, .tup b => sameAVs a b
  | _, _ => false
def sameAVs : List AV → List AV → Bool
  | [], [] => true
  | a :: l, b :: m => sameAV a b && sameAVs l m
  | _, _ => false
end

mutual
theorem sameAV_eq : ∀ (a b : AV), sameAV a b = true → a = b
  | .bool a, b, h => by cases b <;> simp_all [sameAV]
  | .int j a, b, h => by cases b <;> simp_all [sameAV]
  | .str a, b, h => by cases b <;> simp_all [sameAV]
  | .nilp, b, h => by cases b <;> simp_all [sameAV]
  | .ptr a i, b, h => by cases b <;> simp_all [sameAV]
  | .nils, b, h => by cases b <;> simp_all [sameAV]
  | .emp, b, h => by cases b <;> simp_all [sameAV]
  | .sl .., b, h => by cases b <;> simp_all [sameAV]
  | .nilm, b, h => by cases b <;> simp_all [sameAV]
  | .mp a, b, h => by cases b <;> simp_all [sameAV]
  | .nilf, b, h => by cases b <;> simp_all [sameAV]
  | .nili, b, h => by cases b <;> simp_all [sameAV]
  | .agg l, b, h => by
    cases b with
    | agg m => simp only [sameAV] at h; rw [sameAVs_eq l m h]
    | _ => simp [sameAV] at h
  | .tup l, b, h => by
    cases b with
    | tup m => simp only [sameAV] at h; rw [sameAVs_eq l m h]
    | _ => simp [sameAV] at h
  | .bad, b, h => by cases b <;> simp [sameAV] at h
  | .fn .., b, h => by cases b <;> simp [sameAV] at h
theorem sameAVs_eq : ∀ (a b : List AV), sameAVs a b = true → a = b
  | [], [], _ => rfl
  | [], _ :: _, h => by simp [sameAVs] at h
  | _ :: _, [], h => by simp [sameAVs] at h
  | a :: l, b :: m, h => by
    simp only [sameAVs, Bool.and_eq_true] at h
    rw [sameAV_eq a b h.1, sameAVs_eq l m h.2]
end

/-- What an operation is taken for. 'late': it makes a block at its own number, which the heap takes in when an effect behind it runs. -/
inductive RK where
  | skip
  | quiet
  | read
  | eff
  | late
  deriving DecidableEq

structure Rec where
  o : Oper
  t : Tr AV
  h : Heap
  kind : RK
  a : AV
  h' : Heap
  cs : List AV

def isAlloc (o : Oper) : Bool := match o.op with
  | .alloc _ | .box .. | .buildSlice .. | .makeSlice .. => true
  | _ => false
def isEff (o : Oper) : Bool := isAlloc o || match o.op with
  | .store .. | .makeMap .. | .mapUpdate .. | .insert .. => true
  | .call c => match c.callee with
    | .value _ => true
    | .builtin .append | .builtin .copy | .builtin .clear | .builtin .delete => true
    | _ => false
  | _ => false
/-- A store or an append: it makes no block but the heap's next one. -/
def isStore (o : Oper) : Bool := match o.op with
  | .store .. => true
  | .call c => match c.callee with
    | .builtin .append => true
    | _ => false
  | _ => false
def anyUn (an : List Nat) (i : Nat) : List Oper → Nat → Bool
  | [], _ => false
  | o :: r, j => (isEff o && !Nat.beq i j && !ordered an i j) || anyUn an i r (j + 1)
/-- []byte(s): it makes a block. -/
def isConv (P : Program) (o : Oper) : Bool := match o.op with
  | .convert src dst _ => match P.underlying src, P.underlying dst with
    | some .string, some (.slice _) => true
    | _, _ => false
  | _ => false
def isApp (o : Oper) : Bool := match o.op with
  | .call c => match c.callee with
    | .builtin .append => true
    | _ => false
  | _ => false
def anyUnC (P : Program) (an : List Nat) (i : Nat) : List Oper → Nat → Bool
  | [], _ => false
  | o :: r, j => ((isEff o || isConv P o) && !Nat.beq i j && !ordered an i j) || anyUnC P an i r (j + 1)
def anyUnA (an : List Nat) (i : Nat) : List Oper → Nat → Bool
  | [], _ => false
  | o :: r, j => (isEff o && !isAlloc o && !Nat.beq i j && !ordered an i j) || anyUnA an i r (j + 1)
def isLate (P : Program) (ops : Array Oper) (an : List Nat) (o : Oper) (i : Nat) : Bool :=
  (isAlloc o && anyUn an i ops.toList 0) || (isApp o && anyUnA an i ops.toList 0) || (isConv P o && anyUnC P an i ops.toList 0)
/-- Those that make a block, where there is an effect that no edge orders with them. -/
def lates (P : Program) (ops : Array Oper) (an : List Nat) : List Oper → Nat → List Nat
  | [], _ => []
  | o :: r, i => match isLate P ops an o i with
    | true => i :: lates P ops an r (i + 1)
    | false => lates P ops an r (i + 1)
def memN (i : Nat) : List Nat → Bool
  | [] => false
  | j :: r => Nat.beq i j || memN i r

/-- Blocks are taken into the heap. -/
def insFl (base : Nat) (want : Nat → Bool) : List (Nat × List AV) → Heap → Heap
  | [], h => h
  | (i, cs) :: r, h => insFl base want r (match want i with
    | true => h.at_ (base + i) (.cells cs false)
    | false => h)

/-- How many numbers are kept for them. -/
def resv : List Nat → Nat → Nat
  | [], _ => 0
  | _, n => n
def nextOk (base r : Nat) (h : Heap) : Bool := match r with
  | 0 => true
  | _ => Nat.ble (base + r) h.next

def freeOk (base pm : Nat) (h : Heap) : List Nat → Bool
  | [] => true
  | i :: r => (pm.testBit i || (match h.get (base + i) with | none => true | some _ => false)) && freeOk base pm h r

/-! Appends that are late: the block that such a one appends to is taken out of the heap ahead of the region. -/
/-- Operations that may be looked at ahead. -/
def isLook (o : Oper) : Bool := match o.guard with
  | some _ => false
  | none => match o.op with
    | .load .. | .fieldAddr .. | .indexAddr .. | .nilCheck _ | .move _ | .assign _ | .field .. | .index .. | .extract .. => true
    | _ => false
noncomputable def alook (P : Program) (call : CallO) (n : Nat) (h : Heap) : List Oper → Tr AV → Tr AV
  | [], t => t
  | o :: r, t => match isLook o with
    | false => alook P call n h r t
    | true => match aop P call t h o with
      | none => alook P call n h r t
      | some (a, _) => match put n t o.dst a with
        | some t' => alook P call n h r t'
        | none => alook P call n h r t
def ownOf (t : Tr AV) (o : Oper) : Option Nat := match o.op with
  | .call c => match c.callee with
    | .builtin .append => match (c.args[0]?).map (ev t) with
      | some (.sl b _ _ _ _ _) => some b
      | _ => none
    | _ => none
  | _ => none
def ownsGo (ls : List Nat) (t : Tr AV) : List Oper → Nat → List (Nat × Nat)
  | [], _ => []
  | o :: r, i => match memN i ls with
    | true => match ownOf t o with
      | some b => (i, b) :: ownsGo ls t r (i + 1)
      | none => ownsGo ls t r (i + 1)
    | false => ownsGo ls t r (i + 1)
def anyApp (ls : List Nat) : List Oper → Nat → Bool
  | [], _ => false
  | o :: r, i => (memN i ls && isApp o) || anyApp ls r (i + 1)
def takeOwn : List (Nat × Nat) → Heap → Option (List (Nat × Nat × List AV) × Heap)
  | [], h => some ([], h)
  | (i, b) :: r, h => match h.get b with
    | some (.cells c false) => match takeOwn r (h.kill b) with
      | some (l, h') => some ((i, b, c) :: l, h')
      | none => none
    | _ => none
noncomputable def aown (P : Program) (call : CallO) (n : Nat) (ops : Array Oper) (ls : List Nat) (s : St) : Option (List (Nat × Nat × List AV) × Heap) := match anyApp ls ops.toList 0 with
  | false => some ([], s.h)
  | true => takeOwn (ownsGo ls (alook P call n s.h ops.toList s.t) ops.toList 0) s.h
def ownFind (i : Nat) : List (Nat × Nat × List AV) → Option (Nat × List AV)
  | [] => none
  | (j, b, c) :: r => match Nat.beq i j with
    | true => some (b, c)
    | false => ownFind i r
def flFind (base b : Nat) : List (Nat × List AV) → Option (Nat × List AV)
  | [] => none
  | (j, cs) :: r => match Nat.beq (base + j) b with
    | true => some (j, cs)
    | false => flFind base b r
/-- Who stands behind j stands behind i. -/
def srcOk (an : List Nat) (i j : Nat) : List Nat → Nat → Bool
  | [], _ => true
  | a :: r, q => (!a.testBit j || Nat.beq q i || a.testBit i) && srcOk an i j r (q + 1)
/-- What is appended: of a block that was made late. -/
def acellsF (an : List Nat) (base i : Nat) (fl : List (Nat × List AV)) (sz n : Nat) : AV → Option (List AV)
  | .sl b off len _ sz' _ => match flFind base b fl with
    | some (j, cs) => if ((an.getD i 0).testBit j && srcOk an i j an 0) = true ∧ sz = sz' ∧ n ≤ len ∧ off + n * sz ≤ cs.length then some ((cs.drop off).take (n * sz)) else none
    | none => none
  | .str s => if sz = 1 then some ((s.data.toList.take n).map fun b => .int .u8 b.toNat) else none
  | _ => none
def aapp (P : Program) (an : List Nat) (base i : Nat) (own : Option (Nat × List AV)) (fl : List (Nat × List AV)) (st xt : TypeId) (s x : AV) : Option (List AV × AV) :=
  match P.underlying st, P.underlying xt with
  | some (.slice e), some xd => match xd with
    | .int _ => none
    | _ => match P.info? e with
      | none => none
      | some ei => match ei.zero with
        | none => none
        | some zv =>
        if ei.size = 0 ∨ ei.bytes = 0 ∨ zv.cells.size ≠ ei.size then none else
        match alen x with
        | none => none
        | some n => match acellsF an base i fl ei.size n x with
          | none => none
          | some new => if new.all AV.one = false ∨ new.length ≠ n * ei.size ∨ n = 0 then none else
            match s with
            | .nils => if n * ei.bytes ≤ room then some (new, .sl (base + i) 0 n n ei.size false) else none
            | .sl b off len _ sz _ => match own with
              | some (b', c) => if b ≠ b' ∨ sz ≠ ei.size ∨ c.length < off + len * sz ∨ ((c.drop off).take (len * sz)).all AV.one = false then none
                else if (len + n) * ei.bytes ≤ room then some ((c.drop off).take (len * sz) ++ new, .sl (base + i) 0 (len + n) (len + n) sz false) else none
              | none => none
            | _ => none
  | _, _ => none
/-- A step that makes a block late: its cells, and what is handed back. -/
def alate (P : Program) (t : Tr AV) (an : List Nat) (base i : Nat) (own : List (Nat × Nat × List AV)) (fl : List (Nat × List AV)) (o : Oper) : Option (List AV × AV) :=
  match aalloc P t o with
  | some (cs, mk) => some (cs, mk (base + i))
  | none => match o.op with
    | .convert src dst x => match P.underlying src, P.underlying dst, ev t x with
      | some .string, some (.slice e), .str s => match P.underlying e with
        | some (.int .u8) => some (s.data.toList.map (fun b => .int .u8 b.toNat), .sl (base + i) 0 s.size s.size 1 false)
        | _ => none
      | _, _, _ => none
    | .call c => match c.callee with
      | .builtin .append => match c.args[0]?, c.args[1]?, c.argTypes[0]?, c.argTypes[1]? with
        | some s, some x, some st, some xt => aapp P an base i (ownFind i own) fl st xt (ev t s) (ev t x)
        | _, _, _, _ => none
      | _ => none
    | _ => none

/-- One operation, with what it is taken for. base: the first of the numbers that are kept for the region; own: the blocks that late appends append to; pm: what the effects till now stand behind; fl: the blocks that were made late. -/
noncomputable def arec (P : Program) (call : CallO) (ops : Array Oper) (an ls : List Nat) (base : Nat) (own : List (Nat × Nat × List AV)) (i pm : Nat) (fl : List (Nat × List AV)) (o : Oper) (s : St) : Option Rec :=
  match awant ops s.t o with
  | none => none
  | some false => some ⟨o, s.t, s.h, .skip, .tup [], s.h, []⟩
  | some true => match memN i ls with
    | true => match alate P s.t an base i own fl o with
      | some (cs, a) => some ⟨o, s.t, s.h, .late, a, s.h, cs⟩
      | none => none
    | false => match apure P s.t o with
      | some a => some ⟨o, s.t, s.h, .quiet, a, s.h, []⟩
      | none => match aread P s.t s.h o with
        | some a => some ⟨o, s.t, s.h, .read, a, s.h, []⟩
        | none => match aeff P call s.t (insFl base (fun d => (an.getD i 0).testBit d && !pm.testBit d) fl s.h) o with
          | some (a, h') => match (isStore o || freeOk base (pm ||| an.getD i 0) h' ls) && nextOk base (resv ls ops.size) h' with
            | true => some ⟨o, s.t, s.h, .eff, a, h', []⟩
            | false => none
          | none => none

def nextPm (an : List Nat) (i pm : Nat) (x : Rec) : Nat := match x.kind with
  | .eff => pm ||| an.getD i 0
  | _ => pm
def nextFl (i : Nat) (fl : List (Nat × List AV)) (x : Rec) : List (Nat × List AV) := match x.kind with
  | .late => fl ++ [(i, x.cs)]
  | _ => fl

noncomputable def arecs (P : Program) (call : CallO) (n : Nat) (ops : Array Oper) (an ls : List Nat) (base : Nat) (own : List (Nat × Nat × List AV)) : List Oper → Nat → Nat → List (Nat × List AV) → St → Option (List Rec × St × Nat × List (Nat × List AV))
  | [], _, pm, fl, s => some ([], s, pm, fl)
  | o :: r, i, pm, fl, s => match arec P call ops an ls base own i pm fl o s with
    | none => none
    | some x => match put n s.t o.dst x.a with
      | none => none
      | some t => match arecs P call n ops an ls base own r (i + 1) (nextPm an i pm x) (nextFl i fl x) ⟨t, x.h'⟩ with
        | none => none
        | some (l, s') => some (x :: l, s')

/-- The effects stand in one order; what reads isn't touched by an effect that isn't ordered with it. -/
def pairOk (P : Program) (an : List Nat) (i : Nat) (x : Rec) (j : Nat) (y : Rec) : Bool :=
  match x.kind, y.kind with
  | .eff, .eff => Nat.beq i j || ordered an i j
  | .read, .eff => ordered an i j || ((match aread P x.t y.h x.o with | some a => sameAV a x.a | none => false) && (match aread P x.t y.h' x.o with | some a => sameAV a x.a | none => false))
  | _, _ => true

def rowOk (P : Program) (an : List Nat) (i : Nat) (x : Rec) : List Rec → Nat → Bool
  | [], _ => true
  | y :: r, j => pairOk P an i x j y && rowOk P an i x r (j + 1)
def allOk (P : Program) (an : List Nat) (all : List Rec) : List Rec → Nat → Bool
  | [], _ => true
  | x :: r, i => rowOk P an i x all 0 && allOk P an all r (i + 1)

/-- A region that draws its order. -/
noncomputable def adraw (P : Program) (call : CallO) (n : Nat) (ops : Array Oper) (s : St) : Option St :=
  match staticOk ops with
  | false => none
  | true => match aown P call n ops (lates P ops (ancs ops) ops.toList 0) s with
    | none => none
    | some (own, h0) => match arecs P call n ops (ancs ops) (lates P ops (ancs ops) ops.toList 0) s.h.next own ops.toList 0 0 [] ⟨s.t, ⟨h0.next + resv (lates P ops (ancs ops) ops.toList 0) ops.size, h0.tab⟩⟩ with
      | none => none
      | some (l, s', pm, fl) => match allOk P (ancs ops) l l 0 with
        | true => some ⟨s'.t, insFl s.h.next (fun d => !pm.testBit d) fl s'.h⟩
        | false => none

end Go.YtcgafaecdjbmiaaAbs
