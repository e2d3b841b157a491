/- Rows of things that each stand in one cell, as slices have them. -/
import Derived.Test.YtcgafaecdjbmiaaAbsW
namespace Go.YtcgafaecdjbmiaaAbs
open Go Go.RowKit

theorem i64w (n : Int) (h : -9223372036854775808 ≤ n) (h' : n ≤ 9223372036854775807) : fwrap .i64 n = n := by
  rw [fwrap_eq]; simp [IntKind.wrap, IntKind.signed, IntKind.bits]; omega

/-- A slice reads so. -/
def Rd (h : Heap) (v : AV) (l : List AV) : Prop := (v = .nils ∧ l = []) ∨ (v = .emp ∧ l = []) ∨
  (∃ b i cap ex c ro, v = .sl b i l.length cap 1 ex ∧ b < h.next ∧ h.get b = some (.cells c ro) ∧ i + l.length ≤ c.length ∧ (c.drop i).take l.length = l)
theorem Rd.len {h : Heap} {v : AV} {l : List AV} (r : Rd h v l) (e : TypeId) : vlen (some v) (some (.slice e)) = some (.int .i64 (l.length : Nat)) := by
  rcases r with ⟨rfl, rfl⟩ | ⟨rfl, rfl⟩ | ⟨b, i, cap, ex, c, ro, rfl, _⟩ <;> rfl
theorem Rd.read {h : Heap} {v : AV} {l : List AV} (r : Rd h v l) {P : Program} {ty e : TypeId} (hu : P.underlying ty = some (.slice e)) (hs : tsize P e = some 1) {j : Nat} {x : AV} (hx : l[j]? = some x) :
    ∃ b i c ro, aindex P ty v (.int .i64 (j : Nat)) = some (.ptr b i) ∧ h.get b = some (.cells c ro) ∧ c[i]? = some x := by
  rcases r with ⟨rfl, rfl⟩ | ⟨rfl, rfl⟩ | ⟨b, i, cap, ex, c, ro, rfl, _, h1, _, h2⟩
  · simp at hx
  · simp at hx
  · have hj' := (List.getElem?_eq_some_iff.1 hx).1
    have hj : (j : Int) < (l.length : Int) := by omega
    refine ⟨b, i + j, c, ro, by simp [aindex, hu, hs, hj], h1, ?_⟩
    rw [← h2, List.getElem?_take, if_pos hj', List.getElem?_drop] at hx
    exact hx

/-- What was there, stays. -/
def Ext (h h' : Heap) : Prop := h.next ≤ h'.next ∧ ∀ c, c < h.next → h'.get c = h.get c
theorem Ext.refl (h : Heap) : Ext h h := ⟨Nat.le_refl _, fun _ _ => rfl⟩
theorem Ext.trans {a b c : Heap} (h : Ext a b) (k : Ext b c) : Ext a c := ⟨Nat.le_trans h.1 k.1, fun d hd => (k.2 d (Nat.lt_of_lt_of_le hd h.1)).trans (h.2 d hd)⟩
theorem Ext.new (h : Heap) (o : AO) : Ext h (h.new o) := ⟨Nat.le_succ _, fun c hc => by rw [Heap.get_new, if_neg (by omega)]⟩
theorem Rd.ext {h h' : Heap} {v : AV} {l : List AV} (r : Rd h v l) (e : Ext h h') : Rd h' v l := by
  rcases r with r | r | ⟨b, i, cap, ex, c, ro, r1, r2, r3, r4, r5⟩
  · exact .inl r
  · exact .inr (.inl r)
  · exact .inr (.inr ⟨b, i, cap, ex, c, ro, r1, Nat.lt_of_lt_of_le r2 e.1, by rw [e.2 b r2]; exact r3, r4, r5⟩)

/-- A slice that was built by appends, in a block not older than 'n'. -/
def Own (n : Nat) (h : Heap) (v : AV) (l : List AV) : Prop := (v = .nils ∧ l = []) ∨ ∃ b, v = .sl b 0 l.length l.length 1 false ∧ n ≤ b ∧ b < h.next ∧ h.get b = some (.cells l false)
theorem Own.rd {n : Nat} {h : Heap} {v : AV} {l : List AV} (o : Own n h v l) : Rd h v l := by
  rcases o with o | ⟨b, o1, _, o2, o3⟩
  · exact .inl o
  · exact .inr (.inr ⟨b, 0, l.length, false, l, false, o1, o2, o3, by simp, by simp⟩)
theorem Own.ext {n : Nat} {h h' : Heap} {v : AV} {l : List AV} (o : Own n h v l) (e : Ext h h') : Own n h' v l := by
  rcases o with o | ⟨b, o1, o0, o2, o3⟩
  · exact .inl o
  · exact .inr ⟨b, o1, o0, Nat.lt_of_lt_of_le o2 e.1, by rw [e.2 b o2]; exact o3⟩

theorem Rd.cells {h : Heap} {x : AV} {m : List AV} (r : Rd h x m) : alen x = some m.length ∧ acells h 1 m.length x = some m := by
  rcases r with ⟨rfl, rfl⟩ | ⟨rfl, rfl⟩ | ⟨b, i, cap, ex, c, ro, rfl, _, h1, hle, h2⟩
  · exact ⟨rfl, rfl⟩
  · exact ⟨rfl, rfl⟩
  · refine ⟨rfl, ?_⟩
    simp [acells, Heap.row, h1, hle, h2]

/-- Slices of a type whose elements stand in one cell. -/
structure One (P : Program) (st e : TypeId) (ei : TypeInfo) (zv : Value) : Prop where
  und : P.underlying st = some (.slice e)
  info : P.info? e = some ei
  zero : ei.zero = some zv
  size : ei.size = 1
  cells : zv.cells.size = 1
  bytes : ei.bytes ≠ 0
  few : ei.bytes ≤ 16

theorem append_own {P : Program} {st xt e e' : TypeId} {ei : TypeInfo} {zv : Value} (O : One P st e ei zv) (hx : P.underlying xt = some (.slice e')) {n : Nat} {h : Heap} {v x : AV} {l m : List AV} (o : Own n h v l) (r : Rd h x m)
    (hm : m.all AV.one = true) (hl : l.all AV.one = true) (h0 : m ≠ []) (hn : n ≤ h.next) (hf : l.length + m.length ≤ 1000000000000) :
    ∃ v' h', aappend P h st xt v x = some (v', h') ∧ Own n h' v' (l ++ m) ∧ h.next ≤ h'.next ∧ (∀ c, c < n → h'.get c = h.get c) := by
  obtain ⟨c1, c2⟩ := r.cells
  have hm0 : ¬ m.length = 0 := fun q => h0 (List.eq_nil_of_length_eq_zero q)
  have room1 : (l.length + m.length) * ei.bytes ≤ room := by
    refine Nat.le_trans (Nat.mul_le_mul hf O.few) ?_
    decide
  have room2 : m.length * ei.bytes ≤ room := Nat.le_trans (Nat.mul_le_mul_right _ (by omega)) room1
  rcases o with ⟨rfl, rfl⟩ | ⟨b, rfl, ob, o1, o2⟩
  · refine ⟨_, h.new (.cells m false), ?_, .inr ⟨h.next, rfl, hn, Nat.lt_succ_self _, by rw [Heap.get_new, if_pos rfl]; rfl⟩, Nat.le_succ _, fun c hc => by rw [Heap.get_new, if_neg (by omega)]⟩
    simp [aappend, O.und, hx, O.info, O.zero, O.size, O.cells, O.bytes, c1, c2, hm, hm0, room2]
  · refine ⟨_, (h.kill b).new (.cells (l ++ m) false), ?_, .inr ⟨h.next, rfl, hn, Nat.lt_succ_self _, by rw [Heap.get_new]; exact if_pos rfl⟩, Nat.le_succ _, fun c hc => by
      rw [Heap.get_new, if_neg (by show ¬ h.next = c; omega), Heap.get_kill, if_neg (by omega)]⟩
    simp [aappend, O.und, hx, O.info, O.zero, O.size, O.cells, O.bytes, c1, c2, hm, hm0, room1, o2, hl]
    intro q
    omega

/-- A function, by what it hands back. -/
theorem afuncT_ex {P : Program} {bad : List Nat} {call : CallO} {k : Nat} {fn : Func} {c : Code} {args : List AV} {h : Heap} {Post : AV → Heap → Prop} (hb : fn.body = some c) (hn : args.length ≤ fn.ntmps)
    (hw : W P bad call fn.ntmps k c ⟨argsTr args 0 .lf, h⟩ fun e s => onEx e (onSome (ares P s fn.results.toList) fun l => Post (aresult l) s.h) (e = .ret ∧ onSome (ares P s fn.results.toList) fun l => Post (aresult l) s.h)) :
    ∃ v h', afuncT P bad call k fn args h = some (v, h') ∧ Post v h' := by
  unfold W at hw
  obtain ⟨e, s', h1, h2⟩ := hw
  have key : onSome (ares P s' fn.results.toList) (fun l => Post (aresult l) s'.h) ∧ ∀ j, e ≠ .exit j := by
    cases e with
    | normal => rw [onEx_normal] at h2; exact ⟨h2, fun j q => by cases q⟩
    | ret => rw [onEx_ret] at h2; exact ⟨h2.2, fun j q => by cases q⟩
    | exit j => rw [onEx_exit] at h2; cases h2.1
  obtain ⟨k1, k2⟩ := key
  rw [onSome_iff] at k1
  obtain ⟨l, k1, k3⟩ := k1
  refine ⟨aresult l, s'.h, ?_, k3⟩
  unfold afuncT
  have : Nat.ble args.length fn.ntmps = true := by simpa using hn
  simp only [hb, this, h1]
  cases e with
  | normal => simp only [k1]
  | ret => simp only [k1]
  | exit j => exact absurd rfl (k2 j)

theorem aop_buildSlice {P : Program} {call : CallO} {t : Tr AV} {h : Heap} {d : Option Tmp} {ty : TypeId} {pos : String} {af : Array Edge} {g : Option (Nat × Bool)} (u : TypeId) (len : Nat) (parts : Array (Nat × Operand)) :
    aop P call t h ⟨d, .buildSlice u len parts, ty, pos, af, g⟩ = (aalloc P t ⟨d, .buildSlice u len parts, ty, pos, af, g⟩).map fun r => (r.2 h.next, h.new (.cells r.1 false)) := by
  show (match aalloc P t ⟨d, .buildSlice u len parts, ty, pos, af, g⟩ with | some (cs, mk) => some (mk h.next, h.new (.cells cs false)) | none => none) = _
  cases aalloc P t ⟨d, .buildSlice u len parts, ty, pos, af, g⟩ <;> rfl
/-- A slice of one thing. -/
theorem aop_build1 {P : Program} {call : CallO} {t : Tr AV} {h : Heap} {d : Option Tmp} {ty : TypeId} {pos : String} {af : Array Edge} {g : Option (Nat × Bool)} {st e : TypeId} {ei : TypeInfo} {zv : Value} (O : One P st e ei zv)
    (hz : ((ofV zv).row).length = 1 ∧ ((ofV zv).row).all AV.one = true) {x : Operand} {a : AV} (hx : ev t x = a) (ha : a.one = true) (hr : a.row = [a]) :
    aop P call t h ⟨d, .buildSlice st 1 #[(0, x)], ty, pos, af, g⟩ = some (.sl h.next 0 1 1 1 true, h.new (.cells [a] false)) := by
  obtain ⟨z, hz1⟩ : ∃ z, (ofV zv).row = [z] := List.length_eq_one_iff.1 hz.1
  have hz2 : z.one = true := by have := hz.2; rw [hz1] at this; simpa using this
  have h2 : tsize P e = some 1 := by simp [tsize, O.info, O.size]
  have h3 : azero P e = some [z] := by simp [azero, O.info, O.zero, hz1]
  have h4 : a.row1 = some [a] := by simp [AV.row1, hr, ha]
  rw [aop_buildSlice]
  simp [aalloc, O.und, h2, h3, hz2, hx, afill, h4, ha]

/-- Where the world only grew. -/
theorem HR.below' {F : Env} {w0 : World} {m : Mp} {h : Heap} {w w' : World} (H : HR F w0 m h w) (hb : Below w.heap.size w w') : HR F w0 m h w' := by
  have hk : ∀ k, k < w.heap.size → w'.heap[k]? = w.heap[k]? := hb.block
  refine ⟨H.below.trans ⟨hb.os, hb.tape, hb.output, hb.size, fun k hF => hk k (H.dom k hF)⟩, fun k hF => Nat.lt_of_lt_of_le (H.dom k hF) hb.size, fun b c ro hg => ?_, fun b es cl hg => ?_, H.inj, H.fresh, H.res⟩
  · obtain ⟨x, h1, h2, h3, h4, h5, h6⟩ := H.cells b c ro hg
    refine ⟨x, h1, Nat.lt_of_lt_of_le h2 hb.size, h3, fun i a hi => ?_, h5, fun q => ⟨(h6 q).1, fun i hi => ?_⟩⟩
    · obtain ⟨v, q1, q2⟩ := h4 i a hi
      exact ⟨v, by rw [World.cell?_of_block (w := w) (hk _ h2)]; exact q1, q2⟩
    · rw [World.cell?_of_block (w := w) (hk _ h2), World.frozen?_of_block (w := w) (hk _ h2)]
      exact (h6 q).2 i hi
  · obtain ⟨x, vs, h1, h2, h3, h4⟩ := H.maps b es cl hg
    refine ⟨x, vs, h1, h2, ?_, h4⟩
    rw [hk x.B (by
      rcases Nat.lt_or_ge x.B w.heap.size with q | q
      · exact q
      · rw [Array.getElem?_eq_none q] at h3; cases h3)]
    exact h3

/-- A closed law that was proved is taken as such. -/
def orRuns (r : FuncId) (call : CallO) : CallO := fun f args h => match Nat.beq f r, args with
  | true, [] => some (.bool true, h)
  | _, _ => call f args h
@[simp] theorem orRuns_hit (r : FuncId) (call : CallO) (h : Heap) : orRuns r call r [] h = some (.bool true, h) := by simp [orRuns]
theorem orRuns_miss {r f : FuncId} (call : CallO) (args : List AV) (h : Heap) (hf : f ≠ r) : orRuns r call f args h = call f args h := by
  have : Nat.beq f r = false := by
    cases q : Nat.beq f r with
    | false => rfl
    | true => exact absurd (Nat.eq_of_beq_eq_true q) hf
  simp [orRuns, this]
theorem orRuns_ok {P : Program} {r : FuncId} {call : CallO} (hr : ∀ w, Calls P r #[] w fun e w' => e = .returned (.bool true) ∧ Below w.heap.size w w') (hc : ∀ F w0, CallsOK P F w0 call) (F : Env) (w0 : World) : CallsOK P F w0 (orRuns r call) := by
  intro f args h u h' m w vals e hv H
  unfold orRuns at e
  split at e
  · rename_i hf
    have hf := Nat.eq_of_beq_eq_true hf
    subst hf
    simp only [Option.some.injEq, Prod.mk.injEq] at e
    obtain ⟨rfl, rfl⟩ := e
    simp only [VRs] at hv
    subst hv
    refine (hr w).mono fun e w' ⟨he, hb⟩ => ?_
    exact ⟨m, _, he, Le.refl m, by simp [VR], H.below' hb⟩
  · exact hc F w0 f _ h u h' m w vals e hv H

/-- A law: its arguments hold no memory; the chapter's closed law is proved. -/
theorem law_runs {P : Program} (hmix : P.follows .mixedOrders = true) {k : Nat} {f r : FuncId} {fn : Func} {bad : List Nat} (hf : P.funcs[f]? = some fn) (hs : (match fn.body with | some c => allSeq P bad c | none => false) = true)
    (hr : ∀ w, Calls P r #[] w fun e w' => e = .returned (.bool true) ∧ Below w.heap.size w w') {args : List AV} {vals : List Value} (hv : VRs (fun _ => none) args vals)
    (e : ∃ v h', afuncT P bad (orRuns r (acall P k)) k fn args Heap.none = some (v, h') ∧ v = .bool true) (w : World) :
    Calls P f ⟨vals⟩ w fun e w' => e = .returned (.bool true) ∧ Below w.heap.size w w' := by
  obtain ⟨_, h', e, rfl⟩ := e
  have e' : afunc P (orRuns r (acall P k)) k fn args Heap.none = some (.bool true, h') := by
    rw [← e]
    unfold afunc afuncT
    cases hc : fn.body with
    | none => rfl
    | some c =>
      rw [hc] at hs
      simp only at hs
      simp only [acodeT_eq c hs]
      rfl
  refine (afunc_ok (orRuns_ok hr (acall_ok hmix k)) hmix hf e' hv (HR.start w)).mono fun e w' he => ?_
  obtain ⟨m', v, rfl, _, h2, h3⟩ := he
  simp only [VR] at h2
  subst h2
  exact ⟨rfl, ⟨h3.below.os, h3.below.tape, h3.below.output, h3.below.size, h3.below.block⟩⟩

end Go.YtcgafaecdjbmiaaAbs
