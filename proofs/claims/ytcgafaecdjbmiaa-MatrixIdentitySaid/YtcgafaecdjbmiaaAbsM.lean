/- Code, functions and calls: what the abstract machine reckons is what the model does. -/
import Derived.Test.YtcgafaecdjbmiaaAbsL
import Derived.Scope
namespace Go.YtcgafaecdjbmiaaAbs
open Go Go.RowKit

noncomputable def aregion (P : Program) (call : CallO) (n : Nat) (ops : Array Oper) (d : Bool) (s : St) : Option St :=
  match d with
  | true => adraw P call n ops s
  | false => aops P call n ops ops.toList s

noncomputable def acode (P : Program) (call : CallO) (n k : Nat) : Code → St → Option (Ex × St)
  | .skip, s => some (.normal, s)
  | .region _ ops d, s => match aregion P call n ops d s with
    | some s' => some (.normal, s')
    | none => none
  | .seq a b, s => match acode P call n k a s with
    | some (.normal, s') => acode P call n k b s'
    | r => r
  | .cond c a b, s => match ev s.t c with
    | .bool true => acode P call n k a s
    | .bool false => acode P call n k b s
    | _ => none
  | .block id c, s => match acode P call n k c s with
    | some (.exit j, s') => match Nat.beq j id with
      | true => some (.normal, s')
      | false => some (.exit j, s')
    | r => r
  | .loop c, s => aloop (acode P call n k c) k s
  | .exit id, s => some (.exit id, s)
  | .label _, s => some (.normal, s)
  | .ret, s => some (.ret, s)
  | .scope c, s => acode P call n k c s
  | _, _ => none

def ares (P : Program) (s : St) : List ResultVar → Option (List AV)
  | [] => some []
  | .tmp t :: r => match ares P s r with
    | some l => some (ev s.t (.tmp t) :: l)
    | none => none
  | .cell a ty :: r => match ev s.t (.tmp a) with
    | .ptr b i => match aload P s.h ty b i, ares P s r with
      | some v, some l => some (v :: l)
      | _, _ => none
    | _ => none

def aresult : List AV → AV
  | [v] => v
  | l => .tup l

def argsTr : List AV → Nat → Tr AV → Tr AV
  | [], _, t => t
  | a :: r, i, t => argsTr r (i + 1) (t.set i (some a))

noncomputable def afunc (P : Program) (call : CallO) (k : Nat) (fn : Func) (args : List AV) (h : Heap) : Option (AV × Heap) :=
  match fn.body with
  | none => none
  | some c => match Nat.ble args.length fn.ntmps with
    | false => none
    | true => match acode P call fn.ntmps k c ⟨argsTr args 0 .lf, h⟩ with
      | some (.exit _, _) => none
      | some (_, s) => match ares P s fn.results.toList with
        | some l => some (aresult l, s.h)
        | none => none
      | none => none

noncomputable def acall (P : Program) : Nat → CallO
  | 0 => fun _ _ _ => none
  | k + 1 => fun f args h => match P.funcs[f]? with
    | none => none
    | some fn => afunc P (acall P k) k fn args h

def Ex.to : Ex → Exit
  | .normal => .normal
  | .exit id => .exit id
  | .ret => .ret

section
variable {P : Program} {call : CallO} {n k : Nat} {F : Env} {w0 : World}

theorem acode_sound (hcall : ∀ F w0, CallsOK P F w0 call) (hmix : P.follows .mixedOrders = true) : ∀ (c : Code) (s s' : St) (e : Ex) (m : Mp) (a : Act) (w : World) (Q : Exit → Act → World → Prop),
    acode P call n k c s = some (e, s') → SR F w0 m n s a w → (∀ m' a' w', Le m m' → SR F w0 m' n s' a' w' → Q e.to a' w') → c.wp P Q a w := by
  intro c
  induction c with
  | skip =>
    intro s s' e m a w Q h S hQ
    simp only [acode, Option.some.injEq, Prod.mk.injEq] at h
    obtain ⟨rfl, rfl⟩ := h
    exact wp_skip (hQ m a w (Le.refl m) S)
  | region id ops d =>
    intro s s' e m a w Q h S hQ
    simp only [acode] at h
    split at h
    · rename_i s1 hr
      simp only [Option.some.injEq, Prod.mk.injEq] at h
      obtain ⟨rfl, rfl⟩ := h
      cases d with
      | true => exact adraw_sound hcall hmix hr S hQ
      | false =>
        refine wp_region ?_
        have := aops_sound (hcall F w0) ops.toList 0 s s1 m a w (fun i o hi => by simpa using hi) hr S hQ
        rw [List.range_eq_range']
        simpa using this
    · cases h
  | seq x y ihx ihy =>
    intro s s' e m a w Q h S hQ
    simp only [acode] at h
    refine wp_seq ?_
    split at h
    · rename_i s1 hx
      exact ihx s s1 .normal m a w _ hx S fun m1 a1 w1 hm S1 => ihy s1 s' e m1 a1 w1 Q h S1 fun m2 a2 w2 hm2 S2 => hQ m2 a2 w2 (hm.trans hm2) S2
    · rename_i hne
      refine ihx s s' e m a w _ h S fun m1 a1 w1 hm S1 => ?_
      cases e with
      | normal => exact absurd h (hne s')
      | exit id => exact hQ m1 a1 w1 hm S1
      | ret => exact hQ m1 a1 w1 hm S1
  | cond c x y ihx ihy =>
    intro s s' e m a w Q h S hQ
    simp only [acode] at h
    have hc := S.t.ev c
    split at h
    · rename_i hb
      rw [hb] at hc; simp only [VR] at hc
      exact wp_cond_true hc (ihx s s' e m a w Q h S hQ)
    · rename_i hb
      rw [hb] at hc; simp only [VR] at hc
      exact wp_cond_false hc (ihy s s' e m a w Q h S hQ)
    · cases h
  | block id c ih =>
    intro s s' e m a w Q h S hQ
    simp only [acode] at h
    refine wp_block ?_
    split at h
    · rename_i j s1 hc
      split at h
      · rename_i hj
        simp only [Option.some.injEq, Prod.mk.injEq] at h
        obtain ⟨rfl, rfl⟩ := h
        refine ih s s1 (.exit j) m a w _ hc S fun m1 a1 w1 hm S1 => ?_
        simp only [Ex.to, Exit.inBlock, Nat.eq_of_beq_eq_true hj, if_true]
        exact hQ m1 a1 w1 hm S1
      · rename_i hj
        simp only [Option.some.injEq, Prod.mk.injEq] at h
        obtain ⟨rfl, rfl⟩ := h
        refine ih s s1 (.exit j) m a w _ hc S fun m1 a1 w1 hm S1 => ?_
        simp only [Ex.to, Exit.inBlock, Nat.ne_of_beq_eq_false hj, if_false]
        exact hQ m1 a1 w1 hm S1
    · rename_i hne
      refine ih s s' e m a w _ h S fun m1 a1 w1 hm S1 => ?_
      cases e with
      | normal => exact hQ m1 a1 w1 hm S1
      | exit j => exact absurd h (hne j s')
      | ret => exact hQ m1 a1 w1 hm S1
  | loop c ih =>
    intro s s' e m a w Q h S hQ
    simp only [acode] at h
    refine wp_loop_ghost (fun j a w => ∃ s1 m1, aloop (acode P call n k c) j s1 = some (e, s') ∧ Le m m1 ∧ SR F w0 m1 n s1 a w) k ⟨s, m, h, Le.refl m, S⟩ ?_
    rintro j a1 w1 ⟨s1, m1, hl, hm, S1⟩
    cases j with
    | zero => simp [aloop] at hl
    | succ j =>
      simp only [aloop] at hl
      split at hl
      · rename_i s2 hc
        exact ih s1 s2 .normal m1 a1 w1 _ hc S1 fun m2 a2 w2 hm2 S2 => ⟨j, Nat.lt_succ_self j, s2, m2, hl, hm.trans hm2, S2⟩
      · rename_i hne
        refine ih s1 s' e m1 a1 w1 _ hl S1 fun m2 a2 w2 hm2 S2 => ?_
        cases e with
        | normal => exact absurd hl (hne s')
        | exit id => exact hQ m2 a2 w2 (hm.trans hm2) S2
        | ret => exact hQ m2 a2 w2 (hm.trans hm2) S2
  | exit id =>
    intro s s' e m a w Q h S hQ
    simp only [acode, Option.some.injEq, Prod.mk.injEq] at h
    obtain ⟨rfl, rfl⟩ := h
    exact wp_exit (hQ m a w (Le.refl m) S)
  | label l =>
    intro s s' e m a w Q h S hQ
    simp only [acode, Option.some.injEq, Prod.mk.injEq] at h
    obtain ⟨rfl, rfl⟩ := h
    exact wp_label (hQ m a w (Le.refl m) S)
  | ret =>
    intro s s' e m a w Q h S hQ
    simp only [acode, Option.some.injEq, Prod.mk.injEq] at h
    obtain ⟨rfl, rfl⟩ := h
    exact wp_ret (hQ m a w (Le.refl m) S)
  | scope c ih =>
    intro s s' e m a w Q h S hQ
    simp only [acode] at h
    refine wp_scope_straight (ih s s' e m a w _ h S fun m1 a1 w1 hm S1 => ?_)
    cases e with
    | normal => exact hQ m1 a1 w1 hm S1
    | exit id => exact hQ m1 a1 w1 hm S1
    | ret => exact hQ m1 a1 w1 hm S1
  | _ =>
    intro s s' e m a w Q h S hQ
    simp [acode] at h

theorem argsTr_get : ∀ (l : List AV) (i : Nat) (t : Tr AV) (d : Nat), (argsTr l i t).get d = if i ≤ d ∧ d < i + l.length then l[d - i]? else t.get d
  | [], i, t, d => by simp [argsTr]; intro h1 h2; omega
  | a :: l, i, t, d => by
    rw [argsTr, argsTr_get l (i + 1), Tr.get_set]
    by_cases h : i + 1 ≤ d ∧ d < i + 1 + l.length
    · rw [if_pos h, if_pos (by simp only [List.length_cons]; omega), show d - i = (d - (i + 1)) + 1 by omega]
      simp
    · rw [if_neg h]
      by_cases hd : i = d
      · subst hd
        rw [if_pos rfl, if_pos (by simp only [List.length_cons]; omega)]
        simp
      · rw [if_neg hd, if_neg (by simp only [List.length_cons]; omega)]

/-- One result. -/
def resOne (tmps : Array Value) : ResultVar → Sem Value
  | .tmp t => pure (tmps.getD t undef)
  | .cell c t => do loadVar t (← asAddr (tmps.getD c undef))
theorem results_eq (fn : Func) (tmps : Array Value) : results fn tmps = (do
    let vs ← fn.results.mapM (resOne tmps)
    pure (if h : vs.size = 1 then vs[0] else .tuple vs)) := by
  unfold results
  congr 1

theorem ares_sound {m : Mp} {s : St} {a : Act} {w : World} (S : SR F w0 m n s a w) : ∀ (rs : List ResultVar) (l : List AV), ares P s rs = some l →
    ∃ vs, VRs m l vs ∧ (rs.mapM (resOne a.tmps)).run P w = .ok vs w
  | [], l, h => by
    simp only [ares, Option.some.injEq] at h; subst h
    exact ⟨[], VRs.nil, rfl⟩
  | .tmp t :: r, l, h => by
    simp only [ares] at h
    split at h
    · rename_i l' hl
      simp only [Option.some.injEq] at h; subst h
      obtain ⟨vs, q1, q2⟩ := ares_sound S r l' hl
      refine ⟨a.tmps.getD t undef :: vs, VRs.cons (S.t.ev (.tmp t)) q1, ?_⟩
      rw [List.mapM_cons]
      simp only [resOne, Sem.run_bind, Sem.run_pure, Result.andThen_ok]
      rw [q2]
      rfl
    · cases h
  | .cell c ty :: r, l, h => by
    simp only [ares] at h
    have hc := S.t.ev (.tmp c)
    split at h
    · rename_i b i hb
      split at h
      · rename_i v l' hv hl
        simp only [Option.some.injEq] at h; subst h
        obtain ⟨vs, q1, q2⟩ := ares_sound S r l' hl
        rw [hb] at hc
        simp only [VR] at hc
        obtain ⟨x, h1, h2⟩ := hc
        obtain ⟨u, g1, g2⟩ := aload_sound (P := P) S.h hv h1
        refine ⟨u :: vs, VRs.cons g1 q1, ?_⟩
        rw [List.mapM_cons]
        have h2' : a.tmps.getD c undef = .pointer (some ⟨x.B, x.δ + i, none⟩) := h2
        simp only [resOne, Sem.run_bind, h2', asAddr, Sem.run_pure, Result.andThen_ok, g2]
        rw [q2]
        rfl
      · cases h
    · cases h

theorem aresult_sound {m : Mp} {l : List AV} {vs : List Value} (h : VRs m l vs) : VR m (aresult l) (if h : (⟨vs⟩ : Array Value).size = 1 then (⟨vs⟩ : Array Value)[0] else .tuple ⟨vs⟩) := by
  have hl := h.length
  match l, vs, h, hl with
  | [], [], h, _ => simp only [aresult, VR]; exact ⟨[], by simp, h⟩
  | [a], [v], h, _ =>
    simp only [VRs] at h
    obtain ⟨v', r, he, q1, _⟩ := h
    cases he
    simpa [aresult] using q1
  | a :: b :: l, v :: u :: vs, h, _ => simp only [aresult, VR]; exact ⟨v :: u :: vs, by simp, h⟩

theorem afunc_ok (hcall : ∀ F w0, CallsOK P F w0 call) (hmix : P.follows .mixedOrders = true) {f : FuncId} {fn : Func} (hf : P.funcs[f]? = some fn) {args : List AV} {h h' : Heap} {u : AV} (e : afunc P call k fn args h = some (u, h'))
    {m : Mp} {w : World} {vals : List Value} (hv : VRs m args vals) (H : HR F w0 m h w) :
    Calls P f ⟨vals⟩ w fun e w' => ∃ m' v, e = .returned v ∧ Le m m' ∧ VR m' u v ∧ HR F w0 m' h' w' := by
  unfold afunc at e
  split at e
  · cases e
  rename_i c hb
  split at e
  · cases e
  rename_i hle
  have hle' := Nat.le_of_ble_eq_true hle
  have hlen := hv.length
  have fin : ∀ (ex : Ex) (s : St), acode P call fn.ntmps k c ⟨argsTr args 0 .lf, h⟩ = some (ex, s) → (ex = .normal ∨ ex = .ret) → (match ares P s fn.results.toList with
        | some l => some (aresult l, s.h)
        | none => none) = some (u, h') → Calls P f ⟨vals⟩ w fun e w' => ∃ m' v, e = .returned v ∧ Le m m' ∧ VR m' u v ∧ HR F w0 m' h' w' := by
    intro ex s hc hex he
    refine calls_of_wp hf hb ?_
    refine acode_sound hcall hmix c _ s ex m _ w _ hc ⟨⟨?_, fun i b hi => ?_⟩, rfl, H⟩ fun m' a' w' hm S => ?_
    · simp; omega
    · rw [argsTr_get] at hi
      split at hi
      · rename_i hc
        have hiv : i < vals.length := by omega
        refine ⟨by omega, ?_⟩
        obtain ⟨v, q1, q2⟩ := hv.get i b (by simpa using hi)
        have : (({ toList := vals } : Array Value) ++ Array.replicate (fn.ntmps - ({ toList := vals } : Array Value).size) undef).getD i undef = v := by
          rw [Array.getD_eq_getD_getElem?, Array.getElem?_append_left (by simpa using hiv)]
          simp [q1]
        rw [this]; exact q2
      · simp [Tr.get_lf] at hi
    · split at he
      · rename_i l hl
        simp only [Option.some.injEq, Prod.mk.injEq] at he
        obtain ⟨rfl, rfl⟩ := he
        obtain ⟨vs, q1, q2⟩ := ares_sound (P := P) S _ l hl
        have key : a'.defers = [] ∧ ∃ v, (results fn a'.tmps).run P w' = .ok v w' ∧ ∃ m'' v', (Ending.returned v = .returned v') ∧ Le m m'' ∧ VR m'' (aresult l) v' ∧ HR F w0 m'' s.h w' := by
          refine ⟨S.d, _, ?_, m', _, rfl, hm, aresult_sound q1, S.h⟩
          rw [results_eq, Array.mapM_eq_mapM_toList]
          simp only [Sem.run_bind, Sem.run_map]
          rw [q2]
          rfl
        rcases hex with rfl | rfl
        · exact key
        · exact key
      · cases he
  split at e
  · cases e
  · rename_i ex s hne hc
    refine fin ex s hc ?_ e
    cases ex with
    | normal => exact .inl rfl
    | ret => exact .inr rfl
    | exit id => exact absurd rfl (hne id)
  · cases e

theorem acall_ok (hmix : P.follows .mixedOrders = true) : ∀ k (F : Env) (w0 : World), CallsOK P F w0 (acall P k)
  | 0, F, w0 => fun f args h u h' m w vals e _ _ => by simp [acall] at e
  | k + 1, F, w0 => fun f args h u h' m w vals e hv H => by
    simp only [acall] at e
    split at e
    · cases e
    · rename_i fn hf
      exact afunc_ok (acall_ok hmix k) hmix hf e hv H
end

/-- A world with no block of the abstract machine's. -/
theorem HR.start (w : World) : HR ⟨fun k => k < w.heap.size, fun _ => False, fun _ => False, fun _ h => h.elim⟩ w (fun _ => none) Heap.none w :=
  ⟨Kept.refl _ _, fun _ h => h, fun b c ro h => (by simp [Heap.none, Heap.get, Tr.get_lf] at h), fun b es cl h => (by simp [Heap.none, Heap.get, Tr.get_lf] at h),
    fun b b' x x' _ _ h => (by cases h), fun b _ => ⟨rfl, rfl⟩, fun b h => h.elim⟩

/-- A function without arguments: what the abstract machine reckons of it, it returns. -/
theorem closed_call {P : Program} (hmix : P.follows .mixedOrders = true) {k : Nat} {f : FuncId} {b : Bool} (e : ((acall P k f [] Heap.none).map fun r => sameAV r.1 (.bool b)) = some true) (w : World) :
    Calls P f #[] w fun e w' => e = .returned (.bool b) ∧ Below w.heap.size w w' := by
  simp only [Option.map_eq_some_iff] at e
  obtain ⟨⟨u, h'⟩, e1, e2⟩ := e
  have hu := sameAV_eq _ _ e2
  simp only at hu
  subst hu
  refine (acall_ok hmix k _ _ f [] Heap.none _ h' _ w [] e1 VRs.nil (HR.start w)).mono fun e w' he => ?_
  obtain ⟨m', v, rfl, _, h2, h3⟩ := he
  simp only [VR] at h2
  subst h2
  exact ⟨rfl, ⟨h3.below.os, h3.below.tape, h3.below.output, h3.below.size, h3.below.block⟩⟩

end Go.YtcgafaecdjbmiaaAbs
