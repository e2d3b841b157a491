/- The abstract machine and its soundness against the kit's model. -/
import Derived.Test.YtelnkdgpghndgaaMachA
import Derived.Scope
import Derived.ChangeSame
/- A region that draws its order comes to what the order of the text comes to. -/
namespace Go.YtelnkdgpghndgaaAbs
open Go Go.RowKit

/-- What is done holds what stands ahead of it. -/
def DC (ops : Array Oper) (L : Nat → Prop) : Prop := ∀ i o, ops[i]? = some o → L i → ∀ e ∈ o.after.toList, Region.binds .any e = true → L e.on

theorem ancMask_spec {acc : List Nat} {o : Oper} {j : Nat} (h : (ancMask acc o).testBit j = true) : ∃ e ∈ o.after.toList, Region.binds .any e = true ∧ (j = e.on ∨ (acc.getD e.on 0).testBit j = true) := by
  unfold ancMask at h
  have key : ∀ (l : List Edge) (s : Nat), (l.foldl (fun s e => if Region.binds .any e then s ||| (2 ^ e.on ||| acc.getD e.on 0) else s) s).testBit j = true →
      s.testBit j = true ∨ ∃ e ∈ l, Region.binds .any e = true ∧ (j = e.on ∨ (acc.getD e.on 0).testBit j = true) := by
    intro l
    induction l with
    | nil => intro s h; exact .inl h
    | cons e l ih =>
      intro s h
      rw [List.foldl_cons] at h
      rcases ih _ h with h | ⟨e', he', h'⟩
      · split at h
        · rename_i hb
          simp only [Nat.testBit_or, Nat.testBit_two_pow, Bool.or_eq_true, decide_eq_true_eq] at h
          rcases h with h | h | h
          · exact .inl h
          · exact .inr ⟨e, by simp, hb, .inl h.symm⟩
          · exact .inr ⟨e, by simp, hb, .inr h⟩
        · exact .inl h
      · exact .inr ⟨e', by simp [he'], h'⟩
  rcases key _ _ h with h | h
  · simp at h
  · exact h

theorem backOk_spec : ∀ (l : List Oper) (k : Nat), backOk l k = true → ∀ i o, l[i]? = some o → ∀ e ∈ o.after.toList, Region.binds .any e = true → e.on < k + i
  | [], _, _, i, o, h, _, _, _ => by simp at h
  | x :: l, k, hb, i, o, h, e, he, hbe => by
    simp only [backOk, Bool.and_eq_true] at hb
    cases i with
    | zero =>
      simp at h; subst h
      have := List.all_eq_true.1 hb.1 e he
      simp [hbe] at this
      omega
    | succ i =>
      have := backOk_spec l (k + 1) hb.2 i o (by simpa using h) e he hbe
      omega

theorem ancs_spec {ops : Array Oper} (hb : backOk ops.toList 0 = true) {i j : Nat} (h : ((ancs ops).getD i 0).testBit j = true) : j < i ∧ ∀ L, DC ops L → L i → L j := by
  have key : ∀ (l : List Oper) (k : Nat) (acc : List Nat), (∀ q o, l[q]? = some o → ops[k + q]? = some o) → acc.length = k →
      (∀ i j, i < k → (acc.getD i 0).testBit j = true → j < i ∧ ∀ L, DC ops L → L i → L j) →
      ∀ i j, ((ancsGo l acc).getD i 0).testBit j = true → j < i ∧ ∀ L, DC ops L → L i → L j := by
    intro l
    induction l with
    | nil =>
      intro k acc _ hk hacc i j h
      simp only [ancsGo] at h
      by_cases hi : i < k
      · exact hacc i j hi h
      · rw [List.getD_eq_getElem?_getD, List.getElem?_eq_none (by omega)] at h
        simp at h
    | cons o l ih =>
      intro k acc hl hk hacc i j h
      simp only [ancsGo] at h
      refine ih (k + 1) (acc ++ [ancMask acc o]) (fun q o' hq => by rw [show k + 1 + q = k + (q + 1) by omega]; exact hl (q + 1) o' (by simpa using hq)) (by simp [hk]) ?_ i j h
      intro i j hi hij
      by_cases hik : i < k
      · rw [List.getD_eq_getElem?_getD, List.getElem?_append_left (by omega), ← List.getD_eq_getElem?_getD] at hij
        exact hacc i j hik hij
      · have hik' : i = k := by omega
        subst hik'
        rw [List.getD_eq_getElem?_getD, List.getElem?_append_right (by omega), hk] at hij
        simp only [Nat.sub_self, List.getElem?_cons_zero, Option.getD_some] at hij
        have ho := hl 0 o (by simp)
        simp only [Nat.add_zero] at ho
        obtain ⟨e, he, hbe, hje⟩ := ancMask_spec hij
        have hon : e.on < i := by
          have := backOk_spec ops.toList 0 hb i o (by simpa using ho) e he hbe
          omega
        rcases hje with rfl | hje
        · exact ⟨hon, fun L hL hLi => hL i o ho hLi e he hbe⟩
        · obtain ⟨q1, q2⟩ := hacc e.on j hon hje
          exact ⟨by omega, fun L hL hLi => q2 L hL (hL i o ho hLi e he hbe)⟩
  exact key ops.toList 0 [] (fun q o hq => by simpa using hq) rfl (fun i j hi => by omega) i j h

theorem writersOk_spec {ops : Array Oper} : ∀ (l : List Oper) (k : Nat), writersOk ops l k = true → ∀ i o d, l[i]? = some o → o.dst = some d → writer ops d = some (k + i)
  | [], _, _, i, o, d, h, _ => by simp at h
  | x :: l, k, hb, i, o, d, h, hd => by
    simp only [writersOk, Bool.and_eq_true] at hb
    cases i with
    | zero =>
      simp at h; subst h
      have := hb.1
      rw [hd] at this
      simp only at this
      split at this
      · rename_i j hj
        rw [hj, Nat.eq_of_beq_eq_true this]; rfl
      · cases this
    | succ i =>
      rw [writersOk_spec l (k + 1) hb.2 i o d (by simpa using h) hd]
      congr 1; omega

theorem writer_spec {ops : Array Oper} {d : Tmp} {j : Nat} (h : writer ops d = some j) : ∃ o, ops[j]? = some o ∧ o.dst = some d := by
  unfold writer at h
  rw [List.findIdx?_eq_some_iff_getElem] at h
  obtain ⟨hlt, h1, _⟩ := h
  refine ⟨ops.toList[j], by simp, ?_⟩
  split at h1
  · rename_i d' hd
    rw [hd, Nat.eq_of_beq_eq_true h1]
  · cases h1

theorem looksOk_spec {ops : Array Oper} {an : List Nat} : ∀ (l : List Oper) (k : Nat), looksOk ops an l k = true → ∀ i o s j, l[i]? = some o → s ∈ o.looksAt ops → writer ops s = some j → j = k + i ∨ ordered an (k + i) j = true
  | [], _, _, i, o, s, j, h, _, _ => by simp at h
  | x :: l, k, hb, i, o, s, j, h, hs, hw => by
    simp only [looksOk, Bool.and_eq_true] at hb
    cases i with
    | zero =>
      simp at h; subst h
      have := List.all_eq_true.1 hb.1 s hs
      rw [hw] at this
      simp only [Bool.or_eq_true] at this
      rcases this with h | h
      · exact .inl (Nat.eq_of_beq_eq_true h)
      · exact .inr h
    | succ i =>
      have := looksOk_spec l (k + 1) hb.2 i o s j (by simpa using h) hs hw
      rw [show k + 1 + i = k + (i + 1) by omega] at this
      exact this

section
variable {P : Program} {call : CallO} {n : Nat} {ops : Array Oper} {an ls : List Nat} {base : Nat} {own : List (Nat × Nat × List AV)}

/-- The run in the order of the text: the states between the operations. -/
structure Trace (P : Program) (call : CallO) (n : Nat) (ops : Array Oper) (an ls : List Nat) (base : Nat) (own : List (Nat × Nat × List AV)) (l : List Rec) (s : St) (st : Nat → St) (pm : Nat → Nat) (fl : Nat → List (Nat × List AV)) : Prop where
  len : l.length = ops.size
  first : st 0 = s
  pm0 : pm 0 = 0
  fl0 : fl 0 = []
  at_ : ∀ i x, l[i]? = some x → ops[i]? = some x.o ∧ x.t = (st i).t ∧ x.h = (st i).h ∧ arec P call ops an ls base own i (pm i) (fl i) x.o (st i) = some x ∧ put n (st i).t x.o.dst x.a = some (st (i + 1)).t ∧ (st (i + 1)).h = x.h'
  pmS : ∀ i x, l[i]? = some x → pm (i + 1) = nextPm an i (pm i) x
  flS : ∀ i x, l[i]? = some x → fl (i + 1) = nextFl i (fl i) x

theorem arec_shape {i pm : Nat} {fl : List (Nat × List AV)} {o : Oper} {s : St} {x : Rec} (h : arec P call ops an ls base own i pm fl o s = some x) : x.o = o ∧ x.t = s.t ∧ x.h = s.h ∧
    ((awant ops s.t o = some false ∧ x.kind = .skip ∧ x.a = .tup [] ∧ x.h' = s.h) ∨ (awant ops s.t o = some true ∧ (
      (x.kind = .late ∧ x.h' = s.h ∧ memN i ls = true ∧ alate P s.t an base i own fl o = some (x.cs, x.a)) ∨
      (x.kind = .quiet ∧ x.h' = s.h ∧ apure P s.t o = some x.a) ∨ (x.kind = .read ∧ x.h' = s.h ∧ aread P s.t s.h o = some x.a) ∨
      (x.kind = .eff ∧ aeff P call s.t (insFl base (fun d => (an.getD i 0).testBit d && !pm.testBit d) fl s.h) o = some (x.a, x.h') ∧ (isStore o || freeOk base (pm ||| an.getD i 0) x.h' ls) = true ∧ nextOk base (resv ls ops.size) x.h' = true)))) := by
  unfold arec at h
  split at h
  · cases h
  · rename_i hw
    simp only [Option.some.injEq] at h; subst h
    exact ⟨rfl, rfl, rfl, .inl ⟨hw, rfl, rfl, rfl⟩⟩
  · rename_i hw
    split at h
    · rename_i hm
      split at h
      · rename_i cs a ha
        simp only [Option.some.injEq] at h; subst h
        exact ⟨rfl, rfl, rfl, .inr ⟨hw, .inl ⟨rfl, rfl, hm, ha⟩⟩⟩
      · cases h
    · split at h
      · rename_i a ha
        simp only [Option.some.injEq] at h; subst h
        exact ⟨rfl, rfl, rfl, .inr ⟨hw, .inr (.inl ⟨rfl, rfl, ha⟩)⟩⟩
      · split at h
        · rename_i a ha
          simp only [Option.some.injEq] at h; subst h
          exact ⟨rfl, rfl, rfl, .inr ⟨hw, .inr (.inr (.inl ⟨rfl, rfl, ha⟩))⟩⟩
        · split at h
          · rename_i a h' ha
            split at h
            · rename_i hf
              simp only [Bool.and_eq_true] at hf
              simp only [Option.some.injEq] at h; subst h
              exact ⟨rfl, rfl, rfl, .inr ⟨hw, .inr (.inr (.inr ⟨rfl, ha, hf.1, hf.2⟩))⟩⟩
            · cases h
          · cases h

theorem arecs_trace : ∀ (ol : List Oper) (i0 p0 : Nat) (f0 : List (Nat × List AV)) (s s' : St) (p' : Nat) (f' : List (Nat × List AV)) (l : List Rec), arecs P call n ops an ls base own ol i0 p0 f0 s = some (l, s', p', f') →
    ∃ (st : Nat → St) (pm : Nat → Nat) (fl : Nat → List (Nat × List AV)), l.length = ol.length ∧ st 0 = s ∧ st ol.length = s' ∧ pm 0 = p0 ∧ pm ol.length = p' ∧ fl 0 = f0 ∧ fl ol.length = f' ∧
    ∀ i x, l[i]? = some x → ol[i]? = some x.o ∧ x.t = (st i).t ∧ x.h = (st i).h ∧ arec P call ops an ls base own (i0 + i) (pm i) (fl i) x.o (st i) = some x ∧ put n (st i).t x.o.dst x.a = some (st (i + 1)).t ∧ (st (i + 1)).h = x.h' ∧
      pm (i + 1) = nextPm an (i0 + i) (pm i) x ∧ fl (i + 1) = nextFl (i0 + i) (fl i) x
  | [], i0, p0, f0, s, s', p', f', l, h => by
    simp only [arecs, Option.some.injEq, Prod.mk.injEq] at h
    obtain ⟨rfl, rfl, rfl, rfl⟩ := h
    exact ⟨fun _ => s, fun _ => p0, fun _ => f0, rfl, rfl, rfl, rfl, rfl, rfl, rfl, fun i x hx => by simp at hx⟩
  | o :: ol, i0, p0, f0, s, s', p', f', l, h => by
    simp only [arecs] at h
    split at h
    · cases h
    rename_i x hx
    split at h
    · cases h
    rename_i t ht
    split at h
    · cases h
    rename_i l' s'' hl
    simp only [Option.some.injEq, Prod.mk.injEq] at h
    obtain ⟨rfl, rfl⟩ := h
    obtain ⟨st, pm, fl, q1, q2, q3, q4, q5, q6, q7, q8⟩ := arecs_trace ol _ _ _ _ _ _ _ _ hl
    obtain ⟨x1, x2, x3, _⟩ := arec_shape hx
    refine ⟨fun i => match i with | 0 => s | i + 1 => st i, fun i => match i with | 0 => p0 | i + 1 => pm i, fun i => match i with | 0 => f0 | i + 1 => fl i, by simp [q1], rfl, by simpa using q3, rfl, by simpa using q5, rfl, by simpa using q7, fun i y hy => ?_⟩
    cases i with
    | zero =>
      simp at hy; subst hy
      refine ⟨by simp [x1], x2, x3, by rw [x1]; exact hx, ?_, ?_, ?_, ?_⟩
      · simp only [x1]; rw [ht, q2]
      · simp only [q2]
      · simp only [q4]; rfl
      · simp only [q6]; rfl
    | succ i =>
      obtain ⟨r1, r2, r3, r4, r5, r6, r7, r8⟩ := q8 i y (by simpa using hy)
      rw [show i0 + 1 + i = i0 + (i + 1) by omega] at r4 r7 r8
      exact ⟨by simpa using r1, r2, r3, r4, r5, r6, r7, r8⟩

/-- What stands in a slot when the operations of L are done. -/
def val (ops : Array Oper) (l : List Rec) (t0 : Tr AV) (L : Nat → Bool) (d : Tmp) : Option AV :=
  match writer ops d with
  | some j => if L j then (l[j]?).map (·.a) else t0.get d
  | none => t0.get d

variable {l : List Rec} {s : St} {st : Nat → St} {pm : Nat → Nat} {fl : Nat → List (Nat × List AV)}

theorem Trace.val (T : Trace P call n ops an ls base own l s st pm fl) (hw : writersOk ops ops.toList 0 = true) : ∀ i, i ≤ ops.size → ∀ d, (st i).t.get d = YtelnkdgpghndgaaAbs.val ops l s.t (fun j => decide (j < i)) d
  | 0, _, d => by
    rw [T.first]
    unfold YtelnkdgpghndgaaAbs.val
    split <;> simp
  | i + 1, hi, d => by
    have ih := T.val hw i (by omega) d
    have hlt : i < l.length := by rw [T.len]; omega
    obtain ⟨r1, r2, r3, r4, r5, r6⟩ := T.at_ i l[i] (by simp [hlt])
    have hget : (st (i + 1)).t.get d = if l[i].o.dst = some d then some l[i].a else (st i).t.get d := by
      cases hd : l[i].o.dst with
      | none =>
        rw [hd] at r5
        simp only [put, Option.some.injEq] at r5
        rw [← r5]; simp
      | some d' =>
        rw [hd] at r5
        simp only [put] at r5
        split at r5
        · simp only [Option.some.injEq] at r5
          rw [← r5, Tr.get_set]
          by_cases q : d' = d
          · subst q; simp
          · rw [if_neg q, if_neg (by simpa using q)]
        · cases r5
    rw [hget, ih]
    unfold YtelnkdgpghndgaaAbs.val
    by_cases hd : l[i].o.dst = some d
    · rw [if_pos hd]
      have := writersOk_spec ops.toList 0 hw i l[i].o d (by simpa using r1) hd
      rw [Nat.zero_add] at this
      rw [this]
      simp [hlt]
    · rw [if_neg hd]
      split
      · rename_i j hj
        obtain ⟨o, ho, hod⟩ := writer_spec hj
        have hji : j ≠ i := by
          intro q; subst q
          rw [r1] at ho
          simp only [Option.some.injEq] at ho
          rw [← ho] at hod
          exact hd hod
        by_cases q : j < i
        · simp [q, show j < i + 1 by omega]
        · simp [q, show ¬ j < i + 1 by omega]
      · rfl

/-- Between effects the heap stays, and what the effects stand behind. -/
theorem Trace.heap (T : Trace P call n ops an ls base own l s st pm fl) (i : Nat) : ∀ d, i + d ≤ ops.size → (∀ e x, i ≤ e → e < i + d → l[e]? = some x → x.kind ≠ .eff) → (st (i + d)).h = (st i).h ∧ pm (i + d) = pm i
  | 0, _, _ => ⟨rfl, rfl⟩
  | d + 1, hd, h => by
    have hlt : i + d < l.length := by rw [T.len]; omega
    have hx : l[i + d]? = some l[i + d] := by simp [hlt]
    obtain ⟨r1, r2, r3, r4, r5, r6⟩ := T.at_ (i + d) _ hx
    have hne := h (i + d) _ (by omega) (by omega) hx
    have hh : l[i + d].h' = (st (i + d)).h := by
      obtain ⟨_, _, _, q⟩ := arec_shape r4
      rcases q with ⟨_, _, _, q⟩ | ⟨_, ⟨_, q, _⟩ | ⟨_, q, _⟩ | ⟨_, q, _⟩ | ⟨q, _⟩⟩
      · exact q
      · exact q
      · exact q
      · exact q
      · exact absurd q hne
    obtain ⟨g1, g2⟩ := T.heap i d (by omega) (fun e x h1 h2 => h e x h1 (by omega))
    rw [show i + (d + 1) = i + d + 1 by omega]
    refine ⟨by rw [r6, hh]; exact g1, ?_⟩
    rw [T.pmS _ _ hx]
    unfold nextPm
    split
    · rename_i q; exact absurd q hne
    · exact g2

/-- What the effects stand behind. -/
theorem Trace.pmIn (T : Trace P call n ops an ls base own l s st pm fl) : ∀ k, k ≤ ops.size → ∀ d, (pm k).testBit d = true → ∃ e x, e < k ∧ l[e]? = some x ∧ x.kind = .eff ∧ (an.getD e 0).testBit d = true
  | 0, _, d, h => by rw [T.pm0] at h; simp at h
  | k + 1, hk, d, h => by
    have hlt : k < l.length := by rw [T.len]; omega
    have hx : l[k]? = some l[k] := by simp [hlt]
    rw [T.pmS _ _ hx] at h
    unfold nextPm at h
    have ih := T.pmIn k (by omega) d
    split at h
    · rename_i hk'
      simp only [Nat.testBit_or, Bool.or_eq_true] at h
      rcases h with h | h
      · obtain ⟨e, x, q1, q2⟩ := ih h
        exact ⟨e, x, by omega, q2⟩
      · exact ⟨k, _, by omega, hx, hk', h⟩
    · obtain ⟨e, x, q1, q2⟩ := ih h
      exact ⟨e, x, by omega, q2⟩

/-- The blocks that were made late till now. -/
theorem Trace.flIn (T : Trace P call n ops an ls base own l s st pm fl) : ∀ k, k ≤ ops.size → ∀ d cs, (d, cs) ∈ fl k ↔ d < k ∧ ∃ x, l[d]? = some x ∧ x.kind = .late ∧ x.cs = cs
  | 0, _, d, cs => by rw [T.fl0]; simp
  | k + 1, hk, d, cs => by
    have hlt : k < l.length := by rw [T.len]; omega
    have hx : l[k]? = some l[k] := by simp [hlt]
    rw [T.flS _ _ hx]
    have ih := T.flIn k (by omega) d cs
    unfold nextFl
    split
    · rename_i hk'
      rw [List.mem_append, ih]
      constructor
      · rintro (⟨q1, q2⟩ | q)
        · exact ⟨by omega, q2⟩
        · simp only [List.mem_singleton, Prod.mk.injEq] at q
          obtain ⟨rfl, rfl⟩ := q
          exact ⟨by omega, _, hx, hk', rfl⟩
      · rintro ⟨q1, x, q2, q3, q4⟩
        by_cases hd : d = k
        · subst hd
          rw [hx] at q2; cases q2
          exact .inr (by simp [q4])
        · exact .inl ⟨by omega, x, q2, q3, q4⟩
    · rename_i hk'
      rw [ih]
      constructor
      · rintro ⟨q1, q2⟩; exact ⟨by omega, q2⟩
      · rintro ⟨q1, x, q2, q3, q4⟩
        by_cases hd : d = k
        · subst hd
          rw [hx] at q2; cases q2
          exact absurd q3 hk'
        · exact ⟨by omega, x, q2, q3, q4⟩
theorem Trace.flNodup (T : Trace P call n ops an ls base own l s st pm fl) : ∀ k, k ≤ ops.size → ((fl k).map (·.1)).Nodup
  | 0, _ => by rw [T.fl0]; simp
  | k + 1, hk => by
    have hlt : k < l.length := by rw [T.len]; omega
    have hx : l[k]? = some l[k] := by simp [hlt]
    rw [T.flS _ _ hx]
    have ih := T.flNodup k (by omega)
    unfold nextFl
    split
    · rw [List.map_append, List.nodup_append]
      refine ⟨ih, by simp, fun a ha b hb => ?_⟩
      simp only [List.map_cons, List.map_nil, List.mem_singleton] at hb
      rw [hb]
      obtain ⟨⟨d, cs⟩, hp, rfl⟩ := List.mem_map.1 ha
      have := ((T.flIn k (by omega) d cs).1 hp).1
      simp only; omega
    · exact ih

theorem rowOk_spec {an : List Nat} {i : Nat} {x : Rec} : ∀ (l : List Rec) (k : Nat), rowOk P an i x l k = true → ∀ j y, l[j]? = some y → pairOk P an i x (k + j) y = true
  | [], _, _, j, y, h => by simp at h
  | z :: l, k, hb, j, y, h => by
    simp only [rowOk, Bool.and_eq_true] at hb
    cases j with
    | zero => simp at h; subst h; exact hb.1
    | succ j =>
      have := rowOk_spec l (k + 1) hb.2 j y (by simpa using h)
      rw [show k + 1 + j = k + (j + 1) by omega] at this
      exact this
theorem allOk_spec {an : List Nat} {all : List Rec} : ∀ (l : List Rec) (k : Nat), allOk P an all l k = true → ∀ i x, l[i]? = some x → ∀ j y, all[j]? = some y → pairOk P an (k + i) x j y = true
  | [], _, _, i, x, h => by simp at h
  | z :: l, k, hb, i, x, h => by
    simp only [allOk, Bool.and_eq_true] at hb
    intro j y hj
    cases i with
    | zero =>
      simp at h; subst h
      have := rowOk_spec all 0 hb.1 j y hj
      simpa using this
    | succ i =>
      have := allOk_spec l (k + 1) hb.2 i x (by simpa using h) j y hj
      rw [show k + 1 + i = k + (i + 1) by omega] at this
      exact this
theorem alay_none {h h' : Heap} {b i : Nat} {vs : List AV} (hl : alay h b i vs = some h') {c : Nat} (hc : h.get c = none) : h'.get c = none := by
  unfold alay at hl
  split at hl
  · rename_i cs hg
    split at hl
    · cases hl
      rw [Heap.get_set]
      split
      · rename_i q; subst q; rw [hg] at hc; cases hc
      · exact hc
    · cases hl
  · cases hl
theorem append_none {P : Program} {h h' : Heap} {st xt : TypeId} {s x a : AV} (e : aappend P h st xt s x = some (a, h')) {c : Nat} (hc : h.get c = none) (hn : c < h.next) : h'.get c = none := by
  have new : ∀ (g : Heap) (o : AO), g.next = h.next → g.get c = none → (g.new o).get c = none := fun g o h1 h2 => by
    rw [Heap.get_new, if_neg (by omega)]; exact h2
  have kil : ∀ b : Nat, (h.kill b).get c = none := fun b => by
    rw [Heap.get_kill]; split
    · rfl
    · exact hc
  unfold aappend at e
  repeat' (first
    | (split at e)
    | (simp only [Option.some.injEq, Prod.mk.injEq] at e; obtain ⟨rfl, rfl⟩ := e)
    | (simp only at e; split at e))
  all_goals first
    | cases e
    | exact hc
    | exact new h _ rfl hc
    | exact new (h.kill _) _ rfl (kil _)
    | exact alay_none ‹_› hc
theorem store_none {P : Program} {call : CallO} {t : Tr AV} {h h' : Heap} {o : Oper} {a : AV} (hs : isStore o = true) (e : aeff P call t h o = some (a, h')) {c : Nat} (hc : h.get c = none) (hn : c < h.next) : h'.get c = none := by
  unfold isStore at hs
  split at hs
  · rename_i ty x v ho
    have e1 : aalloc P t o = none := by unfold aalloc; rw [ho]
    unfold aeff at e
    rw [e1, ho] at e
    simp only at e
    split at e
    · rename_i b i vs n _ _ _
      split at e
      · split at e
        · rename_i h2 hl
          simp only [Option.some.injEq, Prod.mk.injEq] at e
          obtain ⟨_, rfl⟩ := e
          exact alay_none hl hc
        · cases e
      · cases e
    · cases e
  · rename_i c' ho
    have e1 : aalloc P t o = none := by unfold aalloc; rw [ho]
    split at hs
    · rename_i hb
      unfold aeff at e
      rw [e1, ho] at e
      simp only [hb] at e
      split at e
      · exact append_none e hc hn
      · cases e
    · cases hs
  · cases hs
theorem freeOk_spec {base pm : Nat} {h : Heap} : ∀ (ls : List Nat), freeOk base pm h ls = true → ∀ d, memN d ls = true → pm.testBit d = false → h.get (base + d) = none
  | [], _, d, hd, _ => by simp [memN] at hd
  | q :: ls, hb, d, hd, hpm => by
    simp only [freeOk, Bool.and_eq_true, Bool.or_eq_true] at hb
    simp only [memN, Bool.or_eq_true] at hd
    rcases hd with hd | hd
    · have := Nat.eq_of_beq_eq_true hd
      subst this
      rcases hb.1 with h1 | h1
      · rw [hpm] at h1; cases h1
      · split at h1
        · assumption
        · cases h1
    · exact freeOk_spec ls hb.2 d hd hpm

theorem Flt.adopt {F : Env} {m : Mp} {h : Heap} {w : World} {b b' : Nat} {c c' : List AV} {x : MB} (f : Flt F m h w b c x) (hd : ∀ z, m b' = some z → z.B ≠ x.B) : Flt F m (h.at_ b' (.cells c' false)) w b c x := by
  refine ⟨f.at_, f.lt, f.keep, f.len, f.cells, f.room, fun d y hw hy => ?_⟩
  obtain ⟨o, q1, q2⟩ := hw
  rw [Heap.get_at] at q1
  by_cases k : b' = d
  · subst k; exact hd y hy
  · rw [if_neg k] at q1; exact f.apart d y ⟨o, q1, q2⟩ hy

/-- Blocks that were made late are taken into the heap. -/
theorem adopt_list {F : Env} {w0 : World} {m : Mp} {w : World} {base : Nat} {want : Nat → Bool} : ∀ (fl : List (Nat × List AV)) (h : Heap), HR F w0 m h w → (fl.map (·.1)).Nodup →
    (∀ p ∈ fl, want p.1 = true → h.get (base + p.1) = none ∧ base + p.1 < h.next ∧ ∃ y, Flt F m h w (base + p.1) p.2 y) →
    (∀ p ∈ fl, ∀ q ∈ fl, p.1 ≠ q.1 → want p.1 = true → want q.1 = true → ∀ y z, m (base + p.1) = some y → m (base + q.1) = some z → y.B ≠ z.B) →
    HR F w0 m (insFl base want fl h) w ∧ (insFl base want fl h).next = h.next ∧ (∀ b, (∀ p ∈ fl, want p.1 = true → base + p.1 ≠ b) → (insFl base want fl h).get b = h.get b) ∧
      (∀ b c y, Flt F m h w b c y → (∀ p ∈ fl, want p.1 = true → ∀ z, m (base + p.1) = some z → z.B ≠ y.B) → Flt F m (insFl base want fl h) w b c y)
  | [], h, H, _, _, _ => ⟨H, rfl, fun _ _ => rfl, fun b c y f _ => f⟩
  | (d, cs) :: fl, h, H, hnd, hf, hdis => by
    simp only [List.map_cons, List.nodup_cons] at hnd
    cases hw : want d with
    | false =>
      obtain ⟨r1, r2, r3, r4⟩ := adopt_list (want := want) fl h H hnd.2 (fun p hp => hf p (by simp [hp])) (fun p hp q hq => hdis p (by simp [hp]) q (by simp [hq]))
      simp only [insFl, hw]
      exact ⟨r1, r2, fun b hb => r3 b (fun p hp => hb p (by simp [hp])), fun b c y f hb => r4 b c y f (fun p hp => hb p (by simp [hp]))⟩
    | true =>
      obtain ⟨g1, g2, y0, f0⟩ := hf (d, cs) (by simp) hw
      have H' := H.adopt f0 g2 g1
      have hne : ∀ p ∈ fl, p.1 ≠ d := fun p hp q => hnd.1 (List.mem_map.2 ⟨p, hp, q⟩)
      obtain ⟨r1, r2, r3, r4⟩ := adopt_list (want := want) fl (h.at_ (base + d) (.cells cs false)) H' hnd.2 (fun p hp hwp => by
        obtain ⟨k1, k2, y, f⟩ := hf p (by simp [hp]) hwp
        have := hne p hp
        refine ⟨by rw [Heap.get_at, if_neg (by omega)]; exact k1, k2, y, f.adopt fun z hz => ?_⟩
        exact hdis (d, cs) (by simp) p (by simp [hp]) (Ne.symm this) hw hwp z y hz f.at_) (fun p hp q hq => hdis p (by simp [hp]) q (by simp [hq]))
      simp only [insFl, hw]
      refine ⟨r1, r2, fun b hb => ?_, fun b c y f hb => r4 b c y (f.adopt (hb (d, cs) (by simp) hw)) (fun p hp => hb p (by simp [hp]))⟩
      rw [r3 b (fun p hp => hb p (by simp [hp])), Heap.get_at, if_neg (hb (d, cs) (by simp) hw)]
theorem ordered_spec (hb : backOk ops.toList 0 = true) {i j : Nat} (h : ordered (ancs ops) i j = true) : (i < j ∧ ∀ L, DC ops L → L j → L i) ∨ (j < i ∧ ∀ L, DC ops L → L i → L j) := by
  simp only [ordered, Bool.or_eq_true] at h
  rcases h with h | h
  · exact .inl (ancs_spec hb h)
  · exact .inr (ancs_spec hb h)

def lis (listed : Array Bool) (i : Nat) : Bool := listed.getD i false

theorem nextOk_spec {base r : Nat} {h : Heap} (e : nextOk base r h = true) : ∀ d, d < r → base + d < h.next := by
  intro d hd
  unfold nextOk at e
  split at e
  · omega
  · have := Nat.le_of_ble_eq_true e
    omega
theorem memN_resv {i : Nat} {ls : List Nat} (h : memN i ls = true) (n : Nat) : resv ls n = n := by
  cases ls with
  | nil => simp [memN] at h
  | cons => rfl

theorem srcOk_spec {an : List Nat} {i j e : Nat} (h : srcOk an i j an 0 = true) (he : (an.getD e 0).testBit j = true) : e = i ∨ (an.getD e 0).testBit i = true := by
  have key : ∀ (l : List Nat) (k : Nat), srcOk an i j l k = true → ∀ q a, l[q]? = some a → a.testBit j = true → k + q = i ∨ a.testBit i = true := by
    intro l
    induction l with
    | nil => intro k _ q a hq; simp at hq
    | cons x l ih =>
      intro k hk q a hq ha
      simp only [srcOk, Bool.and_eq_true, Bool.or_eq_true, Bool.not_eq_true'] at hk
      cases q with
      | zero =>
        simp at hq; subst hq
        rcases hk.1 with (h | h) | h
        · rw [ha] at h; cases h
        · exact .inl (by have := Nat.eq_of_beq_eq_true h; omega)
        · exact .inr h
      | succ q =>
        have := ih (k + 1) hk.2 q a (by simpa using hq) ha
        rw [show k + 1 + q = k + (q + 1) by omega] at this
        exact this
  by_cases hlt : e < an.length
  · have := key an 0 h e an[e] (by simp [hlt]) (by rw [List.getD_eq_getElem?_getD] at he; simpa [hlt] using he)
    rw [Nat.zero_add] at this
    rw [List.getD_eq_getElem?_getD]; simpa [hlt] using this
  · rw [List.getD_eq_getElem?_getD, List.getElem?_eq_none (by omega)] at he
    simp at he

/-- It was made late, it is done, and no effect has stood behind it yet. -/
def Fl (l : List Rec) (listed : Array Bool) (pm : Nat) (d : Nat) (x : Rec) : Prop := l[d]? = some x ∧ x.kind = .late ∧ lis listed d = true ∧ pm.testBit d = false

/-- A block that no block of the heap stands for now: one that was made late, or one that a late append will append to. -/
def FlA (own : List (Nat × Nat × List AV)) (base : Nat) (l : List Rec) (listed : Array Bool) (pm : Nat) (b : Nat) (c : List AV) : Prop :=
  (∃ d x, Fl l listed pm d x ∧ b = base + d ∧ c = x.cs) ∨ (∃ i, (i, b, c) ∈ own ∧ lis listed i = false)

/-- The blocks that late appends append to: of one number each. -/
structure OwnOk (own : List (Nat × Nat × List AV)) (base : Nat) : Prop where
  lt : ∀ p ∈ own, p.2.1 < base
  idx : ∀ p ∈ own, ∀ q ∈ own, p.1 = q.1 → p = q
  blk : ∀ p ∈ own, ∀ q ∈ own, p.2.1 = q.2.1 → p = q

/-- What holds when some of a region's operations are done, in whatever order. -/
structure Inv (P : Program) (F : Env) (w0 : World) (m : Mp) (n : Nat) (ops : Array Oper) (ls : List Nat) (base : Nat) (own : List (Nat × Nat × List AV)) (l : List Rec) (s : St) (st : Nat → St) (pm : Nat → Nat) (listed : Array Bool) (a : Act) (w : World) (m' : Mp) (k : Nat) : Prop where
  le : Le m m'
  size : a.tmps.size = n
  defers : a.defers = []
  lsize : listed.size = ops.size
  dc : DC ops (fun i => lis listed i = true)
  slots : ∀ d v, val ops l s.t (lis listed) d = some v → d < n ∧ VR m' v (a.tmps.getD d undef)
  kle : k ≤ ops.size
  effs : ∀ e x, l[e]? = some x → x.kind = .eff → (lis listed e = true ↔ e < k)
  heap : HR F w0 m' (st k).h w
  flo : ∀ b c, FlA own base l listed (pm k) b c → ∃ y, Flt F m' (st k).h w b c y
  dist : ∀ b c b' c', FlA own base l listed (pm k) b c → FlA own base l listed (pm k) b' c' → b ≠ b' → ∀ y y', m' b = some y → m' b' = some y' → y.B ≠ y'.B
  und : ∀ d, d < resv ls ops.size → (∀ x, l[d]? = some x → x.kind = .late → lis listed d = false) → m' (base + d) = none
  abs : ∀ d, d < resv ls ops.size → (∀ x, l[d]? = some x → x.kind = .late → (pm k).testBit d = false) → (st k).h.get (base + d) = none
  nxt : ∀ d, d < resv ls ops.size → base + d < (st k).h.next

theorem lis_set {listed : Array Bool} {i : Nat} (hi : i < listed.size) (j : Nat) : lis (listed.setIfInBounds i true) j = (decide (j = i) || lis listed j) := by
  unfold lis
  by_cases h : j = i
  · subst h
    simp [Array.getD, hi]
  · have : i ≠ j := fun q => h q.symm
    simp only [Array.getD_eq_getD_getElem?, Array.getElem?_setIfInBounds, if_neg this, h, decide_false, Bool.false_or]

theorem wpAny_draw {F : Env} {w0 : World} (hcall : ∀ F w0, CallsOK P F w0 call) {Q : Exit → Act → World → Prop} {l : List Rec} {s s' : St} {st : Nat → St} {pm : Nat → Nat} {fl : Nat → List (Nat × List AV)}
    (T : Trace P call n ops (ancs ops) ls base own l s st pm fl) (hlast : st ops.size = s') (hst : staticOk ops = true) (hbase : ∀ b, F.res b → b < base) (hO : OwnOk own base)
    (hall : allOk P (ancs ops) l l 0 = true) {m : Mp} (hQ : ∀ m' a' w', Le m m' → SR F w0 m' n ⟨s'.t, insFl base (fun d => !(pm ops.size).testBit d) (fl ops.size) s'.h⟩ a' w' → Q .normal a' w') :
    ∀ (fuel : Nat) (listed : Array Bool) (a : Act) (w : World) (m' : Mp) (k : Nat), ((List.range ops.size).filter fun i => !lis listed i).length ≤ fuel → Inv P F w0 m n ops ls base own l s st pm listed a w m' k → wpAny P .any ops Q fuel listed a w := by
  simp only [staticOk, Bool.and_eq_true] at hst
  obtain ⟨⟨hb, hw⟩, hlook⟩ := hst
  have hlate : ∀ d x, l[d]? = some x → x.kind = .late → d < resv ls ops.size ∧ d < ops.size := by
    intro d x hx hxk
    obtain ⟨g1, _, _, g4, _⟩ := T.at_ d x hx
    have hd := (Array.getElem?_eq_some_iff.1 g1).1
    obtain ⟨_, _, _, g⟩ := arec_shape g4
    rcases g with ⟨_, g, _⟩ | ⟨_, ⟨_, _, g, _⟩ | ⟨g, _⟩ | ⟨g, _⟩ | ⟨g, _⟩⟩
    · rw [hxk] at g; cases g
    · rw [memN_resv g]; exact ⟨hd, hd⟩
    · rw [hxk] at g; cases g
    · rw [hxk] at g; cases g
    · rw [hxk] at g; cases g
  -- all is done where nothing is ready
  have fin : ∀ (listed : Array Bool) (a : Act) (w : World) (m' : Mp) (k : Nat), Inv P F w0 m n ops ls base own l s st pm listed a w m' k → Region.ready .any ops listed = [] → Q .normal a w := by
    intro listed a w m' k I hr
    have hdone : ∀ i, i < ops.size → lis listed i = true := by
      intro i
      induction i using Nat.strongRecOn with
      | _ i ih =>
        intro hi
        cases hli : lis listed i with
        | true => rfl
        | false =>
          have hmem : i ∈ Region.ready .any ops listed := by
            unfold Region.ready
            rw [List.mem_filter]
            refine ⟨List.mem_range.2 hi, ?_⟩
            have h1 : listed.getD i true = false := by
              unfold lis at hli
              have : i < listed.size := by rw [I.lsize]; exact hi
              simp only [Array.getD, this, dite_true] at hli ⊢
              exact hli
            have ho : ops[i]? = some ops[i] := by simp [hi]
            rw [h1, ho]
            simp only [Bool.not_false, Option.map_some, Option.getD_some, Bool.true_and]
            rw [Array.all_eq_true']
            intro e he
            cases hbe : Region.binds .any e with
            | false => rfl
            | true =>
              have := backOk_spec ops.toList 0 hb i ops[i] (by simp [hi]) e (by simpa using he) hbe
              have := ih e.on (by omega) (by omega)
              simpa [lis] using this
          rw [hr] at hmem
          cases hmem
    refine hQ m' a w I.le ⟨⟨I.size, fun i v hv => ?_⟩, I.defers, ?_⟩
    · refine I.slots i v ?_
      have := T.val hw ops.size (Nat.le_refl _) i
      rw [hlast] at this
      rw [this] at hv
      unfold val at hv ⊢
      split
      · rename_i j hj
        rw [hj] at hv
        obtain ⟨o, ho, _⟩ := writer_spec hj
        have hlt : j < ops.size := (Array.getElem?_eq_some_iff.1 ho).1
        rw [hdone j hlt]
        simpa [hlt] using hv
      · rename_i hj
        rw [hj] at hv
        exact hv
    · rw [← hlast]
      have hend := T.heap k (ops.size - k) (by have := I.kle; omega) (fun e x h1 h2 hx hk => by
        have := (I.effs e x hx hk).1 (hdone e (by omega))
        omega)
      rw [show k + (ops.size - k) = ops.size by have := I.kle; omega] at hend
      rw [hend.1, hend.2]
      have hmem : ∀ p ∈ fl ops.size, (!(pm k).testBit p.1) = true → p.1 < resv ls ops.size ∧ ∃ x, Fl l listed (pm k) p.1 x ∧ x.cs = p.2 := by
        rintro ⟨d, cs⟩ hp hwp
        obtain ⟨h1, x, h2, h3, h4⟩ := (T.flIn ops.size (Nat.le_refl _) d cs).1 hp
        exact ⟨(hlate d x h2 h3).1, x, ⟨h2, h3, hdone d h1, by simpa using hwp⟩, h4⟩
      refine (adopt_list (fl ops.size) (st k).h I.heap (T.flNodup ops.size (Nat.le_refl _)) (fun p hp hwp => ?_) (fun p hp q hq hne hwp hwq y z hy hz => ?_)).1
      · obtain ⟨h1, x, h2, h3⟩ := hmem p hp hwp
        obtain ⟨y, f⟩ := I.flo _ _ (.inl ⟨_, x, h2, rfl, rfl⟩)
        rw [h3] at f
        exact ⟨I.abs _ h1 (fun _ _ _ => h2.2.2.2), I.nxt _ h1, y, f⟩
      · obtain ⟨_, x, h2, _⟩ := hmem p hp hwp
        obtain ⟨_, x', h2', _⟩ := hmem q hq hwq
        exact I.dist _ _ _ _ (.inl ⟨_, x, h2, rfl, rfl⟩) (.inl ⟨_, x', h2', rfl, rfl⟩) (by omega) y z hy hz
  intro fuel
  induction fuel with
  | zero =>
    intro listed a w m' k hf I
    have hr : Region.ready .any ops listed = [] := by
      cases hq : Region.ready .any ops listed with
      | nil => rfl
      | cons i r =>
        have hi : i ∈ Region.ready .any ops listed := by rw [hq]; simp
        rw [mem_ready] at hi
        obtain ⟨h0, o, ho, _⟩ := hi
        have hlt : i < ops.size := (Array.getElem?_eq_some_iff.1 ho).1
        have : i ∈ (List.range ops.size).filter fun i => !lis listed i := by
          rw [List.mem_filter]
          refine ⟨List.mem_range.2 hlt, ?_⟩
          have hls : i < listed.size := by rw [I.lsize]; exact hlt
          simp only [Array.getD, hls, dite_true] at h0
          simp only [lis, Array.getD, hls, dite_true]
          rw [h0]; rfl
        rw [List.eq_nil_of_length_eq_zero (Nat.le_zero.1 hf)] at this
        cases this
    exact ⟨hr, fin listed a w m' k I hr⟩
  | succ fuel ih =>
    intro listed a w m' k hf I
    refine ⟨fin listed a w m' k I, fun i hi => ?_⟩
    rw [mem_ready] at hi
    obtain ⟨h0, o, ho, hpre⟩ := hi
    have hlt : i < ops.size := (Array.getElem?_eq_some_iff.1 ho).1
    have hls : i < listed.size := by rw [I.lsize]; exact hlt
    have hnl : lis listed i = false := by
      simp only [Array.getD, hls, dite_true] at h0
      simp only [lis, Array.getD, hls, dite_true]
      exact h0
    have hll : i < l.length := by rw [T.len]; exact hlt
    obtain ⟨r1, r2, r3, r4, r5, r6⟩ := T.at_ i l[i] (by simp [hll])
    rw [ho] at r1
    simp only [Option.some.injEq] at r1
    have hset := lis_set hls
    -- what is done, and this one
    have dc2 : DC ops (fun j => lis listed j = true ∨ j = i) := by
      intro j o' ho' hj e he hbe
      rcases hj with hj | rfl
      · exact .inl (I.dc j o' ho' hj e he hbe)
      · rw [ho] at ho'; cases ho'
        exact .inl (hpre e (by simpa using he) hbe)
    have dc' : DC ops (fun j => lis (listed.setIfInBounds i true) j = true) := by
      intro j o' ho' hj e he hbe
      simp only [hset, Bool.or_eq_true, decide_eq_true_eq] at hj ⊢
      have := dc2 j o' ho' (hj.elim .inr .inl) e he hbe
      exact this.elim .inr .inl
    have anc : ∀ j, ordered (ancs ops) i j = true → (i < j ∧ lis listed j = false) ∨ (j < i ∧ lis listed j = true) := by
      intro j hij
      rcases ordered_spec hb hij with ⟨h1, h2⟩ | ⟨h1, h2⟩
      · refine .inl ⟨h1, ?_⟩
        cases hj : lis listed j with
        | false => rfl
        | true =>
          have := h2 _ I.dc hj
          simp only [hnl] at this
          cases this
      · have := h2 _ dc2 (.inr rfl)
        rcases this with h | h
        · exact .inr ⟨h1, h⟩
        · omega
    -- the slots that it looks at
    have hslot : ∀ sl, sl ∈ o.looksAt ops → ∀ v, (st i).t.get sl = some v → sl < n ∧ VR m' v (a.tmps.getD sl undef) := by
      intro sl hsl v hv
      refine I.slots sl v ?_
      rw [T.val hw i (by omega)] at hv
      unfold val at hv ⊢
      split
      · rename_i j hj
        rw [hj] at hv
        simp only at hv
        rcases looksOk_spec ops.toList 0 hlook i o sl j (by simpa using ho) hsl hj with q | q
        · rw [Nat.zero_add] at q; subst q
          rw [hnl]
          simpa using hv
        · rw [Nat.zero_add] at q
          rcases anc j q with ⟨q1, q2⟩ | ⟨q1, q2⟩
          · rw [q2]
            simpa [show ¬ j < i by omega] using hv
          · rw [q2]
            simpa [q1] using hv
      · rename_i hj
        rw [hj] at hv
        exact hv
    have hE : OR m' (st i).t a.eval o := by
      intro y hy
      cases y with
      | tmp sl =>
        simp only [ev, Act.eval]
        split
        · rename_i v hv
          refine (hslot sl ?_ v hv).2
          unfold Oper.looksAt
          refine List.mem_append.2 (.inl (List.mem_filterMap.2 ⟨.tmp sl, by simpa using hy, rfl⟩))
        · simp [VR]
      | const v => exact VR.ofV m' v
      | global g => simp [ev, VR]
      | func f => simp only [ev, Act.eval, VR]; exact ⟨[], rfl, VRs.nil⟩
    have hwant : ∀ b, awant ops (st i).t o = some b → Region.wanted o (yielded ops a.tmps) = b := fun b hb' =>
      awant_sound hb' I.size fun j w' d hg hd v hv => hslot d (by
        unfold Oper.looksAt
        refine List.mem_append.2 (.inr ?_)
        rw [hg]
        simp only [hd]
        simp) v hv
    -- the invariant behind it
    have hnew : ∀ m'' v w'' k', Le m' m'' → VR m'' l[i].a v → k' ≤ ops.size → (∀ e x, l[e]? = some x → x.kind = .eff → (lis (listed.setIfInBounds i true) e = true ↔ e < k')) → HR F w0 m'' (st k').h w'' →
        (∀ b c, FlA own base l (listed.setIfInBounds i true) (pm k') b c → ∃ y, Flt F m'' (st k').h w'' b c y) →
        (∀ b c b' c', FlA own base l (listed.setIfInBounds i true) (pm k') b c → FlA own base l (listed.setIfInBounds i true) (pm k') b' c' → b ≠ b' → ∀ y y', m'' b = some y → m'' b' = some y' → y.B ≠ y'.B) →
        (∀ d, d < resv ls ops.size → (∀ x, l[d]? = some x → x.kind = .late → lis (listed.setIfInBounds i true) d = false) → m'' (base + d) = none) →
        (∀ d, d < resv ls ops.size → (∀ x, l[d]? = some x → x.kind = .late → (pm k').testBit d = false) → (st k').h.get (base + d) = none) →
        (∀ d, d < resv ls ops.size → base + d < (st k').h.next) →
        wpAny P .any ops Q fuel (listed.setIfInBounds i true) (a.put o.dst v) w'' := by
      intro m'' v w'' k' hm hv hk' heff hH hflo hdist hund habs hnxt
      refine ih _ _ _ m'' k' ?_ ⟨I.le.trans hm, ?_, by rw [put_defers]; exact I.defers, by simp [I.lsize], dc', ?_, hk', heff, hH, hflo, hdist, hund, habs, hnxt⟩
      · have : ((List.range ops.size).filter fun j => !lis (listed.setIfInBounds i true) j) = ((List.range ops.size).filter fun j => !lis listed j).filter fun j => decide (j ≠ i) := by
          rw [List.filter_filter]
          refine List.filter_congr fun j _ => ?_
          rw [hset]
          by_cases q : j = i
          · simp [q]
          · simp [q]
        have hlen : ((List.range ops.size).filter fun j => !lis (listed.setIfInBounds i true) j).length < ((List.range ops.size).filter fun j => !lis listed j).length := by
          rw [this, List.length_filter_lt_length_iff_exists]
          exact ⟨i, by rw [List.mem_filter]; exact ⟨List.mem_range.2 hlt, by rw [hnl]; rfl⟩, by simp⟩
        omega
      · cases o.dst <;> simp [Act.put, I.size]
      · intro d u hd
        unfold val at hd
        have hdst : ∀ d', o.dst = some d' → writer ops d' = some i := fun d' hd' => by
          have := writersOk_spec ops.toList 0 hw i o d' (by simpa using ho) hd'
          rwa [Nat.zero_add] at this
        have other : o.dst ≠ some d → val ops l s.t (lis listed) d = some u → d < n ∧ VR m'' u ((a.put o.dst v).tmps.getD d undef) := by
          intro hne hval
          obtain ⟨q1, q2⟩ := I.slots d u hval
          refine ⟨q1, ?_⟩
          have : (a.put o.dst v).tmps.getD d undef = a.tmps.getD d undef := by
            cases hod : o.dst with
            | none => rfl
            | some d' =>
              have hdd : d' ≠ d := fun q => hne (by rw [hod, q])
              simp only [Act.put, Array.getD_eq_getD_getElem?, Array.getElem?_setIfInBounds, if_neg hdd]
          rw [this]
          exact q2.mono hm
        split at hd
        · rename_i j hj
          by_cases hji : j = i
          · subst hji
            obtain ⟨o', ho', hod⟩ := writer_spec hj
            rw [ho] at ho'; cases ho'
            rw [hset] at hd
            simp only [decide_true, Bool.true_or, if_true] at hd
            have hu : u = l[j].a := by simpa [hll] using hd.symm
            subst hu
            rw [← r1, hod] at r5
            simp only [put] at r5
            split at r5
            · rename_i hdn
              have hdn : d < n := by simpa [Nat.blt_eq] using hdn
              refine ⟨hdn, ?_⟩
              rw [hod]
              have : d < a.tmps.size := by rw [I.size]; exact hdn
              simp only [Act.put, Array.getD_eq_getD_getElem?, Array.getElem?_setIfInBounds, if_true, this]
              exact hv
            · cases r5
          · refine other (fun q => ?_) ?_
            · have := hdst d q
              rw [hj] at this
              exact hji (Option.some.inj this)
            · unfold val
              rw [hj]
              rw [hset] at hd
              simpa [hji] using hd
        · rename_i hj
          refine other (fun q => ?_) ?_
          · have := hdst d q
            rw [hj] at this; cases this
          · unfold val
            rw [hj]
            exact hd
    -- where it is no effect
    have hnoeff : l[i].kind ≠ .eff → ∀ e x, l[e]? = some x → x.kind = .eff → (lis (listed.setIfInBounds i true) e = true ↔ e < k) := by
      intro hk e x hx hxk
      have hei : e ≠ i := by
        intro q; subst q
        have : l[e]? = some l[e] := by simp [hll]
        rw [this] at hx; cases hx
        exact hk hxk
      rw [hset]
      simpa [hei] using I.effs e x hx hxk
    have hli : l[i]? = some l[i] := by simp [hll]
    -- where it makes no block late
    have hold : l[i].kind ≠ .late → ∀ d x, l[d]? = some x → x.kind = .late → lis (listed.setIfInBounds i true) d = lis listed d := by
      intro hk d x hx hxk
      have : d ≠ i := fun q => by subst q; rw [hli] at hx; cases hx; exact hk hxk
      rw [hset]; simp [this]
    have hplain : l[i].kind ≠ .late → l[i].kind ≠ .eff → ∀ v w'', VR m' l[i].a v → HR F w0 m' (st k).h w'' → w'' = w → wpAny P .any ops Q fuel (listed.setIfInBounds i true) (a.put o.dst v) w'' := by
      intro hk1 hk2 v w'' hv hH hw'
      subst hw'
      have hFl : ∀ b c, FlA own base l (listed.setIfInBounds i true) (pm k) b c → FlA own base l listed (pm k) b c := fun b c q => by
        rcases q with ⟨d, x, ⟨f1, f2, f3, f4⟩, g1, g2⟩ | ⟨q, g1, g2⟩
        · exact .inl ⟨d, x, ⟨f1, f2, by rw [← hold hk1 d x f1 f2]; exact f3, f4⟩, g1, g2⟩
        · exact .inr ⟨q, g1, by rw [hset, Bool.or_eq_false_iff] at g2; exact g2.2⟩
      exact hnew m' v w'' k (Le.refl _) hv I.kle (hnoeff hk2) hH (fun b c f => I.flo b c (hFl b c f)) (fun b c b' c' f f' => I.dist b c b' c' (hFl b c f) (hFl b' c' f'))
        (fun d hd h => I.und d hd fun x hx hxk => by rw [← hold hk1 d x hx hxk]; exact h x hx hxk) I.abs I.nxt
    -- what is not done stands behind no effect
    have hpmun : ∀ d, lis listed d = false → (pm k).testBit d = false := by
      intro d hd
      cases hq : (pm k).testBit d with
      | false => rfl
      | true =>
        obtain ⟨e, x, g1, g2, g3, g4⟩ := T.pmIn k I.kle d hq
        have h1 := (I.effs e x g2 g3).2 g1
        have := (ancs_spec hb g4).2 _ I.dc h1
        rw [hd] at this; cases this
    unfold wpOp
    rw [ho]
    simp only
    rw [← r1] at r4
    obtain ⟨_, _, _, q⟩ := arec_shape r4
    rcases q with ⟨q1, q2, q3, _⟩ | ⟨q1, q2⟩
    · rw [if_neg (by rw [hwant _ q1]; simp)]
      exact hplain (by rw [q2]; decide) (by rw [q2]; decide) undef w (by rw [q3]; exact VR.undef) I.heap rfl
    · rw [if_pos (hwant _ q1)]
      refine .inl ?_
      unfold Oper.wp
      rcases q2 with ⟨q2, qh, qls, q3⟩ | ⟨q2, _, q3⟩ | ⟨q2, _, q3⟩ | ⟨q2, q3, qfree, qnext⟩
      · -- a block that is made late
        have hpi := hpmun i hnl
        have hir := (hlate i _ hli q2).1
        have hg := I.abs i hir (fun _ _ _ => hpi)
        have hmi := I.und i hir (fun _ _ _ => hnl)
        have hownI : ∀ b c, ownFind i own = some (b, c) → FlA own base l listed (pm k) b c := fun b c hf => .inr ⟨i, ownFind_spec hf, hnl⟩
        obtain ⟨v, w', z, h1, M⟩ := alate_sound (P := P) I.heap hE (fun j cs hj hij hsrc => by
          obtain ⟨e1, x, e2, e3, e4⟩ := (T.flIn i (by omega) j cs).1 hj
          have hlj : lis listed j = true := by
            rcases (ancs_spec hb hij).2 _ dc2 (.inr rfl) with h | h
            · exact h
            · omega
          have hpj : (pm k).testBit j = false := by
            cases hq : (pm k).testBit j with
            | false => rfl
            | true =>
              obtain ⟨e, y, g1, g2, g3, g4⟩ := T.pmIn k I.kle j hq
              have hle := (I.effs e y g2 g3).2 g1
              rcases srcOk_spec hsrc g4 with q | q
              · subst q; rw [hnl] at hle; cases hle
              · have := (ancs_spec hb q).2 _ I.dc hle
                simp only [hnl] at this
                cases this
          rw [← e4]
          exact I.flo _ _ (.inl ⟨j, x, ⟨e2, e3, hlj, hpj⟩, rfl, rfl⟩)) (fun b c hf => I.flo b c (hownI b c hf)) q3
        -- those that float, but for its own
        have hFl : ∀ b c, b ≠ base + i → FlA own base l (listed.setIfInBounds i true) (pm k) b c → FlA own base l listed (pm k) b c ∧ ∀ b' c', ownFind i own = some (b', c') → b ≠ b' := fun b c hbi q => by
          rcases q with ⟨d, x, ⟨f1, f2, f3, f4⟩, g1, g2⟩ | ⟨q, g1, g2⟩
          · have hdi : d ≠ i := fun q => hbi (by rw [g1, q])
            refine ⟨.inl ⟨d, x, ⟨f1, f2, by rw [hset] at f3; simpa [hdi] using f3, f4⟩, g1, g2⟩, fun b' c' hf q => ?_⟩
            have := hO.lt _ (ownFind_spec hf)
            simp only at this; omega
          · rw [hset, Bool.or_eq_false_iff, decide_eq_false_iff_not] at g2
            refine ⟨.inr ⟨q, g1, g2.2⟩, fun b' c' hf hbb => ?_⟩
            have := hO.blk _ g1 _ (ownFind_spec hf) hbb
            simp only [Prod.mk.injEq] at this
            exact g2.1 this.1
        have hold1 : ∀ y : MB, (∀ b c x, ownFind i own = some (b, c) → m' b = some x → y.B ≠ x.B) → some y.B ≠ ((ownFind i own).bind fun p => (m' p.1).map (·.B)) := by
          intro y hy q
          cases ho' : ownFind i own with
          | none => rw [ho'] at q; cases q
          | some p =>
            obtain ⟨b, c⟩ := p
            rw [ho'] at q
            simp only [Option.bind_some] at q
            cases hm' : m' b with
            | none => rw [hm'] at q; cases q
            | some x =>
              rw [hm'] at q
              simp only [Option.map_some, Option.some.injEq] at q
              exact hy b c x ho' hm' q
        obtain ⟨f1, f2, f3⟩ := I.heap.made M (I.nxt i hir) hg hmi (fun q => by have := hbase _ q; omega) (fun d y hd hy => hold1 y fun b c x hf hx => by
          obtain ⟨x', g⟩ := I.flo b c (hownI b c hf)
          rw [g.at_] at hx; cases hx
          exact g.apart d y hd hy)
        have hkeep : ∀ b c, b ≠ base + i → FlA own base l (listed.setIfInBounds i true) (pm k) b c → ∃ y, Flt F (m'.put (base + i) z) (st k).h w' b c y ∧ m' b = some y ∧ y.B ≠ z.B := fun b c hbi q => by
          obtain ⟨g1, g2⟩ := hFl b c hbi q
          obtain ⟨y, g⟩ := I.flo b c g1
          obtain ⟨g3, g4⟩ := g.made M hg hmi (hold1 y fun b' c' x hf hx => I.dist b c b' c' g1 (hownI b' c' hf) (g2 b' c' hf) y x g.at_ hx)
          exact ⟨y, g3, g.at_, g4⟩
        have hnew1 : ∀ c, FlA own base l (listed.setIfInBounds i true) (pm k) (base + i) c → c = l[i].cs := fun c q => by
          rcases q with ⟨d, x, e1, g1, g2⟩ | ⟨q, g1, g2⟩
          · have hdi : d = i := by omega
            have e2 := e1.1
            rw [hdi, hli] at e2
            simp only [Option.some.injEq] at e2
            rw [g2, e2]
          · have := hO.lt _ g1
            simp only at this; omega
        rw [h1]
        have hsame : ∀ d, d ≠ i → (m'.put (base + i) z) (base + d) = m' (base + d) := fun d hd => Mp.put_ne _ _ (by omega)
        refine hnew _ v _ k f1 (M.val _ (Mp.put_same _ _ _)) I.kle (hnoeff (by rw [q2]; decide)) f2 (fun b c f => ?_) (fun b c b' c' f f' hne y y' hy hy' => ?_) (fun d hd h => ?_) I.abs I.nxt
        · by_cases hd : b = base + i
          · subst hd
            rw [hnew1 c f]
            exact ⟨_, f3⟩
          · obtain ⟨y, g, _⟩ := hkeep b c hd f
            exact ⟨y, g⟩
        · by_cases hd : b = base + i
          · subst hd
            rw [Mp.put_same] at hy
            cases hy
            obtain ⟨y2, _, g2, g3⟩ := hkeep b' c' (Ne.symm hne) f'
            rw [Mp.put_ne _ _ (Ne.symm hne), g2] at hy'
            cases hy'
            exact Ne.symm g3
          · obtain ⟨y1, _, g1, g3⟩ := hkeep b c hd f
            rw [Mp.put_ne _ _ hd, g1] at hy
            cases hy
            by_cases hd' : b' = base + i
            · subst hd'
              rw [Mp.put_same] at hy'
              cases hy'
              exact g3
            · rw [Mp.put_ne _ _ hd'] at hy'
              exact I.dist b c b' c' (hFl b c hd f).1 (hFl b' c' hd' f').1 hne _ _ g1 hy'
        · have hd' : d ≠ i := by
            intro q; subst q
            have := h _ hli q2
            rw [hset] at this
            simp at this
          rw [hsame d hd']
          refine I.und d hd fun x hx hxk => ?_
          have := h x hx hxk
          rw [hset] at this
          simpa [hd'] using this
      · obtain ⟨v, h1, h2⟩ := apure_sound hE q3
        rw [h2 w]
        exact hplain (by rw [q2]; decide) (by rw [q2]; decide) v w h1 I.heap rfl
      · -- reads
        have hread : aread P (st i).t (st k).h o = some l[i].a := by
          have pairs := fun j y hy => allOk_spec l 0 hall i l[i] (by simp [hll]) j y hy
          have bad : ∀ e x, l[e]? = some x → x.kind = .eff → ((i < e ∧ lis listed e = true) ∨ (e < i ∧ lis listed e = false)) → aread P (st i).t x.h o = some l[i].a ∧ aread P (st i).t x.h' o = some l[i].a := by
            intro e x hx hxk hcase
            have hp := pairs e x hx
            rw [Nat.zero_add] at hp
            unfold pairOk at hp
            rw [q2, hxk] at hp
            simp only [Bool.or_eq_true, Bool.and_eq_true] at hp
            rcases hp with hp | ⟨hp1, hp2⟩
            · rcases anc e hp with ⟨g1, g2⟩ | ⟨g1, g2⟩
              · rcases hcase with ⟨f1, f2⟩ | ⟨f1, f2⟩
                · rw [g2] at f2; cases f2
                · omega
              · rcases hcase with ⟨f1, f2⟩ | ⟨f1, f2⟩
                · omega
                · rw [g2] at f2; cases f2
            · rw [r2, ← r1] at hp1 hp2
              constructor
              · split at hp1
                · rename_i b hb'
                  rw [hb', sameAV_eq _ _ hp1]
                · cases hp1
              · split at hp2
                · rename_i b hb'
                  rw [hb', sameAV_eq _ _ hp2]
                · cases hp2
          rcases Nat.lt_or_ge k i with hki | hki
          · -- effects between k and i?
            by_cases hex : ∃ e, k ≤ e ∧ e < i ∧ ∃ x, l[e]? = some x ∧ x.kind = .eff
            · obtain ⟨e, ⟨h1, h2, x, hx, hxk⟩, hmin⟩ := exists_least hex
              have hle : lis listed e = false := by
                cases hq : lis listed e with
                | false => rfl
                | true => have := (I.effs e x hx hxk).1 hq; omega
              have := T.heap k (e - k) (by omega) (fun e' x' g1 g2 hx' hxk' => by
                have := hmin e' ⟨g1, by omega, x', hx', hxk'⟩
                omega)
              rw [show k + (e - k) = e by omega] at this
              rw [← this.1, ← (T.at_ e x hx).2.2.1]
              exact (bad e x hx hxk (.inr ⟨h2, hle⟩)).1
            · have := T.heap k (i - k) (by omega) (fun e x h1 h2 hx hxk => hex ⟨e, h1, by omega, x, hx, hxk⟩)
              rw [show k + (i - k) = i by omega] at this
              rw [← this.1]
              exact q3
          · by_cases hex : ∃ e, i ≤ e ∧ e < k ∧ ∃ x, l[e]? = some x ∧ x.kind = .eff
            · obtain ⟨d, ⟨e, h1, h2, x, hx, hxk⟩, hmin⟩ := exists_least (p := fun d => ∃ e, i ≤ e ∧ e + d + 1 = k ∧ ∃ x, l[e]? = some x ∧ x.kind = .eff) (by
                obtain ⟨e, h1, h2, h3⟩ := hex
                exact ⟨k - e - 1, e, h1, by omega, h3⟩)
              have hle : lis listed e = true := (I.effs e x hx hxk).2 (by omega)
              have hie : i ≠ e := fun q => by rw [q] at hnl; rw [hle] at hnl; cases hnl
              have := T.heap (e + 1) d (by have := I.kle; omega) (fun e' x' g1 g2 hx' hxk' => by
                have := hmin (k - e' - 1) ⟨e', by omega, by omega, x', hx', hxk'⟩
                omega)
              rw [show e + 1 + d = k by omega] at this
              rw [this.1, (T.at_ e x hx).2.2.2.2.2]
              exact (bad e x hx hxk (.inl ⟨by omega, hle⟩)).2
            · have := T.heap i (k - i) (by have := I.kle; omega) (fun e x h1 h2 hx hxk => hex ⟨e, h1, by omega, x, hx, hxk⟩)
              rw [show i + (k - i) = k by omega] at this
              rw [this.1]
              exact q3
        obtain ⟨v, h1, h2⟩ := aread_sound I.heap hE hread
        rw [h2]
        exact hplain (by rw [q2]; decide) (by rw [q2]; decide) v w h1 I.heap rfl
      · -- effects
        have hki : ∀ e x, l[e]? = some x → x.kind = .eff → e < i → lis listed e = true := by
          intro e x hx hxk hei
          have hp := allOk_spec l 0 hall i l[i] (by simp [hll]) e x hx
          rw [Nat.zero_add] at hp
          unfold pairOk at hp
          rw [q2, hxk] at hp
          simp only [Bool.or_eq_true] at hp
          rcases hp with hp | hp
          · have := Nat.eq_of_beq_eq_true hp; omega
          · rcases anc e hp with ⟨g1, g2⟩ | ⟨g1, g2⟩
            · omega
            · exact g2
        have hik : k ≤ i := by
          have := (I.effs i l[i] (by simp [hll]) q2)
          rw [hnl] at this
          have h3 : ¬ i < k := fun q => by have := this.2 q; cases this
          omega
        obtain ⟨hh, hpm⟩ : (st i).h = (st k).h ∧ pm i = pm k := by
          have := T.heap k (i - k) (by omega) (fun e x h1 h2 hx hxk => by
            have := (I.effs e x hx hxk).1 (hki e x hx hxk (by omega))
            omega)
          rw [show k + (i - k) = i by omega] at this
          exact this
        have hnlate : l[i].kind ≠ .late := by rw [q2]; decide
        have hpm' : pm (i + 1) = pm k ||| (ancs ops).getD i 0 := by
          rw [T.pmS _ _ hli]; unfold nextPm; rw [q2, hpm]
        rw [hh, hpm] at q3
        rw [hpm] at qfree
        -- the blocks that it stands behind
        have hmem : ∀ p ∈ fl i, (((ancs ops).getD i 0).testBit p.1 && !(pm k).testBit p.1) = true → p.1 < resv ls ops.size ∧ ∃ x, Fl l listed (pm k) p.1 x ∧ x.cs = p.2 := by
          rintro ⟨d, cs⟩ hp hwp
          simp only [Bool.and_eq_true, Bool.not_eq_true'] at hwp
          obtain ⟨h1, x, h2, h3, h4⟩ := (T.flIn i (by omega) d cs).1 hp
          refine ⟨(hlate d x h2 h3).1, x, ⟨h2, h3, ?_, hwp.2⟩, h4⟩
          rcases (ancs_spec hb hwp.1).2 _ dc2 (.inr rfl) with h | h
          · exact h
          · omega
        obtain ⟨A1, A2, A3, A4⟩ := adopt_list (fl i) (st k).h I.heap (T.flNodup i (by omega)) (want := fun d => ((ancs ops).getD i 0).testBit d && !(pm k).testBit d) (fun p hp hwp => by
            obtain ⟨h1, x, h2, h3⟩ := hmem p hp hwp
            obtain ⟨y, f⟩ := I.flo _ _ (.inl ⟨_, x, h2, rfl, rfl⟩)
            rw [h3] at f
            exact ⟨I.abs _ h1 (fun _ _ _ => h2.2.2.2), I.nxt _ h1, y, f⟩) (fun p hp q hq hne hwp hwq y z hy hz => by
            obtain ⟨_, x, h2, _⟩ := hmem p hp hwp
            obtain ⟨_, x', h2', _⟩ := hmem q hq hwq
            exact I.dist _ _ _ _ (.inl ⟨_, x, h2, rfl, rfl⟩) (.inl ⟨_, x', h2', rfl, rfl⟩) (by omega) y z hy hz)
        -- those that it leaves alone
        have hrest : ∀ b c, FlA own base l (listed.setIfInBounds i true) (pm (i + 1)) b c → FlA own base l listed (pm k) b c ∧ ∀ p ∈ fl i, (((ancs ops).getD i 0).testBit p.1 && !(pm k).testBit p.1) = true → base + p.1 ≠ b := by
          rintro b c (⟨d, x, ⟨g1, g2, g3, g4⟩, e1, e2⟩ | ⟨q, g1, g2⟩)
          · rw [hpm', Nat.testBit_or, Bool.or_eq_false_iff] at g4
            refine ⟨.inl ⟨d, x, ⟨g1, g2, by rw [← hold hnlate d x g1 g2]; exact g3, g4.1⟩, e1, e2⟩, fun p _ hwp q => ?_⟩
            have : p.1 = d := by omega
            rw [this, g4.2] at hwp
            simp at hwp
          · rw [hset, Bool.or_eq_false_iff] at g2
            refine ⟨.inr ⟨q, g1, g2.2⟩, fun p _ _ e => ?_⟩
            have := hO.lt _ g1
            simp only at this; omega
        have hfloat : ∀ b c, FlA own base l (listed.setIfInBounds i true) (pm (i + 1)) b c → ∃ y, Flt F m' (insFl base (fun d => ((ancs ops).getD i 0).testBit d && !(pm k).testBit d) (fl i) (st k).h) w b c y := by
          intro b c f
          obtain ⟨f1, f2⟩ := hrest b c f
          obtain ⟨y, g⟩ := I.flo b c f1
          refine ⟨y, A4 _ _ _ g fun p hp hwp z hz => ?_⟩
          obtain ⟨_, x', h2, _⟩ := hmem p hp hwp
          exact I.dist _ _ _ _ (.inl ⟨_, x', h2, rfl, rfl⟩) f1 (f2 p hp hwp) z y hz g.at_
        let G : Env := ⟨fun B => F.keep B ∨ ∃ b c y, FlA own base l (listed.setIfInBounds i true) (pm (i + 1)) b c ∧ m' b = some y ∧ B = y.B,
          fun b => F.res b ∨ ∃ d, d < resv ls ops.size ∧ b = base + d ∧ ∀ x, l[d]? = some x → x.kind = .late → lis listed d = false, F.rob, fun B h => .inl (F.rk B h)⟩
        have H2 : HR G w m' (insFl base (fun d => ((ancs ops).getD i 0).testBit d && !(pm k).testBit d) (fl i) (st k).h) w := by
          refine A1.env (Kept.refl _ _) (fun B hB => ?_) (fun B hB => hB) (fun d y hd hy hB => ?_) (fun b hr => ?_)
          · rcases hB with hB | ⟨b, c, y, f, hy, rfl⟩
            · exact A1.dom B hB
            · obtain ⟨z, g⟩ := hfloat b c f
              have := g.at_.symm.trans hy
              cases this
              exact g.lt
          · rcases hB with hB | ⟨b', c', z, f, hz, hB⟩
            · exact (A1.lt hd hy).2 hB
            · obtain ⟨z', g⟩ := hfloat b' c' f
              have := g.at_.symm.trans hz
              cases this
              exact g.apart d y hd hy hB
          · rcases hr with hr | ⟨d, hd, rfl, hdl⟩
            · exact A1.res b hr
            · refine ⟨by rw [A2]; exact I.nxt d hd, ?_, I.und d hd hdl⟩
              rw [A3 _ (fun p hp hwp q => ?_)]
              · exact I.abs d hd fun x hx hxk => hpmun d (hdl x hx hxk)
              · obtain ⟨_, x', h2, _⟩ := hmem p hp hwp
                have hpd : p.1 = d := by omega
                rw [hpd] at h2
                have := hdl x' h2.1 h2.2.1
                rw [h2.2.2.1] at this; cases this
        refine aeff_sound H2 (hcall G w) hE q3 fun m'' v w'' hm hv hH => ?_
        have hHF : HR F w0 m'' l[i].h' w'' := hH.env (I.heap.below.trans (hH.below.mono fun B hB => .inl hB)) (fun B hB => hH.dom B (.inl hB)) (fun B hB => hB) (fun d y hd hy hB => (hH.lt hd hy).2 (.inl hB)) (fun b hr => hH.res b (.inl hr))
        refine hnew m'' v w'' (i + 1) hm hv (by omega) (fun e x hx hxk => ?_) (by rw [r6]; exact hHF) (fun b c f => ?_) (fun b c b' c' f f' hne y y' hy hy' => ?_) (fun d hd h => ?_) (fun d hd h => ?_) (by rw [r6]; exact nextOk_spec qnext)
        · rw [hset]
          simp only [Bool.or_eq_true, decide_eq_true_eq]
          constructor
          · rintro (rfl | h)
            · omega
            · have := (I.effs e x hx hxk).1 h; omega
          · intro h
            by_cases hei : e = i
            · exact .inl hei
            · exact .inr (hki e x hx hxk (by omega))
        · obtain ⟨y, g⟩ := hfloat b c f
          rw [r6]
          exact ⟨y, g.kept (G := G) hm (show _ ∨ _ from .inr ⟨b, c, y, f, g.at_, rfl⟩) hH.below hH⟩
        · obtain ⟨z, g⟩ := hfloat b c f
          obtain ⟨z', g'⟩ := hfloat b' c' f'
          have e1 := (hm _ _ g.at_).symm.trans hy
          have e2 := (hm _ _ g'.at_).symm.trans hy'
          cases e1; cases e2
          exact I.dist b c b' c' (hrest b c f).1 (hrest b' c' f').1 hne _ _ g.at_ g'.at_
        · exact (hH.res (base + d) (.inr ⟨d, hd, rfl, fun x hx hxk => by rw [← hold hnlate d x hx hxk]; exact h x hx hxk⟩)).2.2
        · rw [r6]
          by_cases hdl : ∀ x, l[d]? = some x → x.kind = .late → lis listed d = false
          · exact (hH.res (base + d) (.inr ⟨d, hd, rfl, hdl⟩)).2.1
          · obtain ⟨x, hx⟩ := Classical.not_forall.1 hdl
            obtain ⟨hx, hx'⟩ := Classical.not_imp.1 hx
            obtain ⟨hxk, _⟩ := Classical.not_imp.1 hx'
            have := h x hx hxk
            rw [hpm'] at this
            simp only [Bool.or_eq_true] at qfree
            rcases qfree with qst | qfree
            · rw [Nat.testBit_or, Bool.or_eq_false_iff] at this
              refine store_none qst q3 ?_ (by rw [A2]; exact I.nxt d hd)
              rw [A3 _ (fun p hp hwp q => ?_)]
              · exact I.abs d hd fun x' hx' hxk' => this.1
              · have hpd : p.1 = d := by omega
                rw [hpd, this.2] at hwp
                simp at hwp
            refine freeOk_spec ls qfree d ?_ this
            obtain ⟨g1, _, _, g4, _⟩ := T.at_ d x hx
            obtain ⟨_, _, _, g⟩ := arec_shape g4
            rcases g with ⟨_, g, _⟩ | ⟨_, ⟨_, _, g, _⟩ | ⟨g, _⟩ | ⟨g, _⟩ | ⟨g, _⟩⟩
            · rw [hxk] at g; cases g
            · exact g
            · rw [hxk] at g; cases g
            · rw [hxk] at g; cases g
            · rw [hxk] at g; cases g

theorem HR.sub {F : Env} {w0 : World} {m : Mp} {h h' : Heap} {w : World} (H : HR F w0 m h w) (hn : h'.next = h.next) (hs : ∀ d o, h'.get d = some o → h.get d = some o) : HR F w0 m h' w := by
  have hnone : ∀ d, h.get d = none → h'.get d = none := fun d hd => by
    cases q : h'.get d with
    | none => rfl
    | some o => rw [hs d o q] at hd; cases hd
  refine ⟨H.below, H.dom, fun d c ro hd => H.cells d c ro (hs _ _ hd), fun d es cl hd => H.maps d es cl (hs _ _ hd), fun d1 d2 x1 x2 h1 h2 e1 e2 hB => ?_, fun d hd => ?_, fun d hd => ?_⟩
  · obtain ⟨o1, q1, r1⟩ := h1
    obtain ⟨o2, q2, r2⟩ := h2
    exact H.inj d1 d2 x1 x2 ⟨o1, hs _ _ q1, r1⟩ ⟨o2, hs _ _ q2, r2⟩ e1 e2 hB
  · obtain ⟨q1, q2⟩ := H.fresh d (by omega)
    exact ⟨hnone d q1, q2⟩
  · obtain ⟨q1, q2, q3⟩ := H.res d hd
    exact ⟨by omega, hnone d q2, q3⟩
theorem takeOwn_spec : ∀ (ps : List (Nat × Nat)) (h h' : Heap) (own : List (Nat × Nat × List AV)), takeOwn ps h = some (own, h') → h'.next = h.next ∧ (∀ d o, h'.get d = some o → h.get d = some o) ∧
    (∀ p ∈ own, h.get p.2.1 = some (.cells p.2.2 false) ∧ h'.get p.2.1 = none ∧ p.1 ∈ ps.map (·.1)) ∧ (∀ p ∈ own, ∀ q ∈ own, p.2.1 = q.2.1 → p = q) ∧ ((ps.map (·.1)).Nodup → ∀ p ∈ own, ∀ q ∈ own, p.1 = q.1 → p = q)
  | [], h, h', own, e => by
    simp only [takeOwn, Option.some.injEq, Prod.mk.injEq] at e
    obtain ⟨rfl, rfl⟩ := e
    exact ⟨rfl, fun _ _ q => q, (fun p hp => by cases hp), (fun p hp => by cases hp), fun _ p hp => by cases hp⟩
  | (i, b) :: ps, h, h', own, e => by
    simp only [takeOwn] at e
    split at e
    · rename_i c hb
      split at e
      · rename_i own' h2 hr
        simp only [Option.some.injEq, Prod.mk.injEq] at e
        obtain ⟨rfl, rfl⟩ := e
        obtain ⟨g1, g2, g3, g4, g5⟩ := takeOwn_spec ps (h.kill b) h2 own' hr
        have hkill : ∀ d o, (h.kill b).get d = some o → h.get d = some o ∧ d ≠ b := fun d o q => by
          rw [Heap.get_kill] at q
          by_cases k : b = d
          · rw [if_pos k] at q; cases q
          · rw [if_neg k] at q; exact ⟨q, fun z => k z.symm⟩
        have hbn : h2.get b = none := by
          cases q : h2.get b with
          | none => rfl
          | some o => exact absurd rfl (hkill b o (g2 b o q)).2
        refine ⟨g1, fun d o q => (hkill d o (g2 d o q)).1, fun p hp => ?_, fun p hp q hq hpq => ?_, fun hnd p hp q hq hpq => ?_⟩
        · rcases List.mem_cons.1 hp with rfl | hp
          · exact ⟨hb, hbn, by simp⟩
          · obtain ⟨k1, k2, k3⟩ := g3 p hp
            exact ⟨(hkill _ _ k1).1, k2, by simp only [List.map_cons, List.mem_cons]; exact .inr k3⟩
        · rcases List.mem_cons.1 hp with rfl | hp <;> rcases List.mem_cons.1 hq with rfl | hq
          · rfl
          · exact absurd hpq.symm (hkill _ _ (g3 q hq).1).2
          · exact absurd hpq (hkill _ _ (g3 p hp).1).2
          · exact g4 p hp q hq hpq
        · simp only [List.map_cons, List.nodup_cons] at hnd
          rcases List.mem_cons.1 hp with rfl | hp <;> rcases List.mem_cons.1 hq with rfl | hq
          · rfl
          · simp only at hpq
            exact absurd (by rw [hpq]; exact (g3 q hq).2.2) hnd.1
          · simp only at hpq
            exact absurd (by rw [← hpq]; exact (g3 p hp).2.2) hnd.1
          · exact g5 hnd.2 p hp q hq hpq
      · cases e
    · cases e
theorem ownsGo_idx {ls : List Nat} {t : Tr AV} : ∀ (l : List Oper) (k : Nat), (∀ p ∈ ownsGo ls t l k, k ≤ p.1) ∧ ((ownsGo ls t l k).map (·.1)).Nodup
  | [], k => ⟨fun p hp => by simp [ownsGo] at hp, by simp [ownsGo]⟩
  | o :: l, k => by
    obtain ⟨g1, g2⟩ := ownsGo_idx (ls := ls) (t := t) l (k + 1)
    have plain : (∀ p ∈ ownsGo ls t l (k + 1), k ≤ p.1) ∧ ((ownsGo ls t l (k + 1)).map (·.1)).Nodup := ⟨fun p hp => by have := g1 p hp; omega, g2⟩
    simp only [ownsGo]
    split
    · split
      · refine ⟨fun p hp => ?_, ?_⟩
        · rcases List.mem_cons.1 hp with rfl | hp
          · exact Nat.le_refl _
          · have := g1 p hp; omega
        · simp only [List.map_cons, List.nodup_cons]
          refine ⟨fun q => ?_, g2⟩
          obtain ⟨p, hp, hpk⟩ := List.mem_map.1 q
          have := g1 p hp
          omega
      · exact plain
    · exact plain

theorem adraw_sound {F : Env} {w0 : World} (hcall : ∀ F w0, CallsOK P F w0 call) (hmix : P.follows .mixedOrders = true) {id : Nat} {Q : Exit → Act → World → Prop} {s s' : St} {m : Mp} {a : Act} {w : World}
    (e : adraw P call n ops s = some s') (S : SR F w0 m n s a w) (hQ : ∀ m' a' w', Le m m' → SR F w0 m' n s' a' w' → Q .normal a' w') : (Code.region id ops true).wp P Q a w := by
  unfold adraw at e
  split at e
  · cases e
  rename_i hst
  split at e
  · cases e
  rename_i own h0 hown
  split at e
  · cases e
  rename_i l s'' pm' fl' hl
  split at e
  · rename_i hall
    simp only [Option.some.injEq] at e; subst e
    obtain ⟨st, pm, fl, q1, q2, q3, q4, q5, q6, q7, q8⟩ := arecs_trace ops.toList 0 0 [] _ s'' pm' fl' l hl
    rw [Array.length_toList] at q1 q3 q5 q7
    have T : Trace P call n ops (ancs ops) (lates P ops (ancs ops) ops.toList 0) s.h.next own l ⟨s.t, (h0.bump (resv (lates P ops (ancs ops) ops.toList 0) ops.size))⟩ st pm fl := ⟨q1, q2, q4, q6, fun i x hx => by
      obtain ⟨g1, g2, g3, g4, g5, g6, _, _⟩ := q8 i x hx
      rw [Nat.zero_add] at g4
      exact ⟨by simpa using g1, g2, g3, g4, g5, g6⟩, fun i x hx => by
      obtain ⟨_, _, _, _, _, _, g, _⟩ := q8 i x hx
      rw [Nat.zero_add] at g
      exact g, fun i x hx => by
      obtain ⟨_, _, _, _, _, _, _, g⟩ := q8 i x hx
      rw [Nat.zero_add] at g
      exact g⟩
    refine wp_region_any hmix ?_
    have hlis : ∀ j, lis (Array.replicate ops.size false) j = false := by
      intro j
      unfold lis
      simp [Array.getD_eq_getD_getElem?, Array.getElem?_replicate]
      split <;> rfl
    have H0 := S.h.drew
    obtain ⟨hn0, hsub, hO, hflt⟩ : h0.next = s.h.next ∧ (∀ d o, h0.get d = some o → s.h.get d = some o) ∧ OwnOk own s.h.next ∧ ∀ p ∈ own, s.h.get p.2.1 = some (.cells p.2.2 false) ∧ h0.get p.2.1 = none := by
      unfold aown at hown
      split at hown
      · simp only [Option.some.injEq, Prod.mk.injEq] at hown
        obtain ⟨rfl, rfl⟩ := hown
        exact ⟨rfl, fun _ _ q => q, ⟨(fun p hp => by cases hp), (fun p hp => by cases hp), (fun p hp => by cases hp)⟩, (fun p hp => by cases hp)⟩
      · obtain ⟨g1, g2, g3, g4, g5⟩ := takeOwn_spec _ _ _ _ hown
        refine ⟨g1, g2, ⟨fun p hp => ?_, g5 (ownsGo_idx _ _).2, g4⟩, fun p hp => ⟨(g3 p hp).1, (g3 p hp).2.1⟩⟩
        refine Nat.lt_of_not_le fun q => ?_
        have := (S.h.fresh _ q).1
        rw [(g3 p hp).1] at this
        cases this
    have hwr : ∀ p ∈ own, Wr s.h p.2.1 := fun p hp => ⟨_, (hflt p hp).1, fun c q => by cases q⟩
    have gb : ∀ b o, (h0.bump (resv (lates P ops (ancs ops) ops.toList 0) ops.size)).get b = some o → h0.get b = some o := fun b o q => by
      rw [Heap.get_bump] at q
      split at q
      · cases q
      · exact q
    have gn : ∀ b, h0.get b = none → (h0.bump (resv (lates P ops (ancs ops) ops.toList 0) ops.size)).get b = none := fun b q => by
      rw [Heap.get_bump, q]
      split <;> rfl
    have hH : HR F w0 m (h0.bump (resv (lates P ops (ancs ops) ops.toList 0) ops.size)) w.drew := by
      have H := H0.sub hn0 hsub
      exact ⟨H.below, H.dom, fun b c ro g => H.cells b c ro (gb _ _ g), fun b es cl g => H.maps b es cl (gb _ _ g), fun b b' x x' g g' => H.inj b b' x x' (by obtain ⟨o, g1, g2⟩ := g; exact ⟨o, gb _ _ g1, g2⟩) (by obtain ⟨o, g1, g2⟩ := g'; exact ⟨o, gb _ _ g1, g2⟩), fun b hb => by
        obtain ⟨g1, g2⟩ := H.fresh b (show h0.next ≤ b by have : h0.next + resv (lates P ops (ancs ops) ops.toList 0) ops.size ≤ b := hb; omega)
        exact ⟨gn b g1, g2⟩, fun b hb => by
        obtain ⟨g1, g2, g3⟩ := H.res b hb
        exact ⟨by show b < h0.next + _; omega, gn b g2, g3⟩⟩
    refine wpAny_draw hcall T q3 hst (fun b hb => (S.h.res b hb).1) hO hall (m := m) (fun m' a' w' hm S' => hQ m' a' w' hm (by rw [q5, q7] at S'; exact S')) ops.size _ a w.drew m 0 ?_
      ⟨Le.refl m, S.t.1, S.d, by simp, fun i o _ hi => (by simp only [hlis] at hi; cases hi), fun d v hv => ?_, Nat.zero_le _, fun e x _ _ => by simp [hlis], by rw [T.first]; exact hH,
        fun b c f => ?_, fun b c b' c' f f' hne y y' hy hy' hB => ?_, fun d hd _ => (S.h.fresh _ (by omega)).2,
        fun d hd _ => ?_, by rw [T.first]; exact fun d hd => by show _ < h0.next + _; omega⟩
    · exact Nat.le_trans (List.length_filter_le _ _) (by simp)
    · refine S.t.2 d v ?_
      unfold val at hv
      split at hv
      · simpa [hlis] using hv
      · exact hv
    · rw [T.first]
      rcases f with ⟨d, x, f, _⟩ | ⟨q, hq, _⟩
      · have := f.2.2.1; rw [hlis] at this; cases this
      · obtain ⟨g1, g2⟩ := hflt _ hq
        obtain ⟨x, k1, k2, k3, k4, k5, k6⟩ := H0.cells _ _ _ g1
        refine ⟨x, k1, k2, (k6 rfl).1, k3, k4, (k6 rfl).2, fun d y hd hy hB => ?_⟩
        obtain ⟨o, e1, e2⟩ := hd
        have e1 : h0.get d = some o := gb d o e1
        have := H0.inj d _ y x ⟨o, hsub _ _ e1, e2⟩ (hwr _ hq) hy k1 hB
        subst this
        rw [g2] at e1; cases e1
    · rcases f with ⟨d, x, f, _⟩ | ⟨q, hq, _⟩
      · have := f.2.2.1; rw [hlis] at this; cases this
      · rcases f' with ⟨d, x, f', _⟩ | ⟨q', hq', _⟩
        · have := f'.2.2.1; rw [hlis] at this; cases this
        · exact hne (H0.inj _ _ y y' (hwr _ hq) (hwr _ hq') hy hy' hB)
    · rw [T.first]
      cases q : h0.get (s.h.next + d) with
      | none => exact gn _ q
      | some o => have := hsub _ _ q; rw [(S.h.fresh _ (by omega)).1] at this; cases this
  · cases e
end

end Go.YtelnkdgpghndgaaAbs
/- Code, functions and calls: what the abstract machine reckons is what the model does. -/
namespace Go.YtelnkdgpghndgaaAbs
open Go Go.RowKit

noncomputable def aregion (P : Program) (call : CallO) (n : Nat) (ops : Array Oper) (d : Bool) (s : St) : Option St :=
  match d with
  | true => adraw P call n ops s
  | false => aops P call n ops ops.toList s

noncomputable def acode (P : Program) (call : CallO) (n k : Nat) : Code → St → Option (Ex × St)
  | .skip, s => some (.normal, s)
  | .region _ ops d, s => match aregion P call n ops d s with
    | some s' => some (.normal, s')
    | none => none
  | .seq a b, s => match acode P call n k a s with
    | some (.normal, s') => acode P call n k b s'
    | r => r
  | .cond c a b, s => match ev s.t c with
    | .bool true => acode P call n k a s
    | .bool false => acode P call n k b s
    | _ => none
  | .block id c, s => match acode P call n k c s with
    | some (.exit j, s') => match Nat.beq j id with
      | true => some (.normal, s')
      | false => some (.exit j, s')
    | r => r
  | .loop c, s => aloop (acode P call n k c) k s
  | .exit id, s => some (.exit id, s)
  | .label _, s => some (.normal, s)
  | .ret, s => some (.ret, s)
  | .scope c, s => acode P call n k c s
  | _, _ => none

def ares (P : Program) (s : St) : List ResultVar → Option (List AV)
  | [] => some []
  | .tmp t :: r => match ares P s r with
    | some l => some (ev s.t (.tmp t) :: l)
    | none => none
  | .cell a ty :: r => match ev s.t (.tmp a) with
    | .ptr b i => match aload P s.h ty b i, ares P s r with
      | some v, some l => some (v :: l)
      | _, _ => none
    | _ => none

def aresult : List AV → AV
  | [v] => v
  | l => .tup l

def argsTr : List AV → Nat → Tr AV → Tr AV
  | [], _, t => t
  | a :: r, i, t => argsTr r (i + 1) (t.set i (some a))

noncomputable def afunc (P : Program) (call : CallO) (k : Nat) (fn : Func) (args : List AV) (h : Heap) : Option (AV × Heap) :=
  match fn.body with
  | none => none
  | some c => match Nat.ble args.length fn.ntmps with
    | false => none
    | true => match acode P call fn.ntmps k c ⟨argsTr args 0 .lf, h⟩ with
      | some (.exit _, _) => none
      | some (_, s) => match ares P s fn.results.toList with
        | some l => some (aresult l, s.h)
        | none => none
      | none => none

noncomputable def acall (P : Program) : Nat → CallO
  | 0 => fun _ _ _ => none
  | k + 1 => fun f args h => match P.funcs[f]? with
    | none => none
    | some fn => afunc P (acall P k) k fn args h

def Ex.to : Ex → Exit
  | .normal => .normal
  | .exit id => .exit id
  | .ret => .ret

section
variable {P : Program} {call : CallO} {n k : Nat} {F : Env} {w0 : World}

theorem acode_sound (hcall : ∀ F w0, CallsOK P F w0 call) (hmix : P.follows .mixedOrders = true) : ∀ (c : Code) (s s' : St) (e : Ex) (m : Mp) (a : Act) (w : World) (Q : Exit → Act → World → Prop),
    acode P call n k c s = some (e, s') → SR F w0 m n s a w → (∀ m' a' w', Le m m' → SR F w0 m' n s' a' w' → Q e.to a' w') → c.wp P Q a w := by
  intro c
  induction c with
  | skip =>
    intro s s' e m a w Q h S hQ
    simp only [acode, Option.some.injEq, Prod.mk.injEq] at h
    obtain ⟨rfl, rfl⟩ := h
    exact wp_skip (hQ m a w (Le.refl m) S)
  | region id ops d =>
    intro s s' e m a w Q h S hQ
    simp only [acode] at h
    split at h
    · rename_i s1 hr
      simp only [Option.some.injEq, Prod.mk.injEq] at h
      obtain ⟨rfl, rfl⟩ := h
      cases d with
      | true => exact adraw_sound hcall hmix hr S hQ
      | false =>
        refine wp_region ?_
        have := aops_sound (hcall F w0) ops.toList 0 s s1 m a w (fun i o hi => by simpa using hi) hr S hQ
        rw [List.range_eq_range']
        simpa using this
    · cases h
  | seq x y ihx ihy =>
    intro s s' e m a w Q h S hQ
    simp only [acode] at h
    refine wp_seq ?_
    split at h
    · rename_i s1 hx
      exact ihx s s1 .normal m a w _ hx S fun m1 a1 w1 hm S1 => ihy s1 s' e m1 a1 w1 Q h S1 fun m2 a2 w2 hm2 S2 => hQ m2 a2 w2 (hm.trans hm2) S2
    · rename_i hne
      refine ihx s s' e m a w _ h S fun m1 a1 w1 hm S1 => ?_
      cases e with
      | normal => exact absurd h (hne s')
      | exit id => exact hQ m1 a1 w1 hm S1
      | ret => exact hQ m1 a1 w1 hm S1
  | cond c x y ihx ihy =>
    intro s s' e m a w Q h S hQ
    simp only [acode] at h
    have hc := S.t.ev c
    split at h
    · rename_i hb
      rw [hb] at hc; simp only [VR] at hc
      exact wp_cond_true hc (ihx s s' e m a w Q h S hQ)
    · rename_i hb
      rw [hb] at hc; simp only [VR] at hc
      exact wp_cond_false hc (ihy s s' e m a w Q h S hQ)
    · cases h
  | block id c ih =>
    intro s s' e m a w Q h S hQ
    simp only [acode] at h
    refine wp_block ?_
    split at h
    · rename_i j s1 hc
      split at h
      · rename_i hj
        simp only [Option.some.injEq, Prod.mk.injEq] at h
        obtain ⟨rfl, rfl⟩ := h
        refine ih s s1 (.exit j) m a w _ hc S fun m1 a1 w1 hm S1 => ?_
        simp only [Ex.to, Exit.inBlock, Nat.eq_of_beq_eq_true hj, if_true]
        exact hQ m1 a1 w1 hm S1
      · rename_i hj
        simp only [Option.some.injEq, Prod.mk.injEq] at h
        obtain ⟨rfl, rfl⟩ := h
        refine ih s s1 (.exit j) m a w _ hc S fun m1 a1 w1 hm S1 => ?_
        simp only [Ex.to, Exit.inBlock, Nat.ne_of_beq_eq_false hj, if_false]
        exact hQ m1 a1 w1 hm S1
    · rename_i hne
      refine ih s s' e m a w _ h S fun m1 a1 w1 hm S1 => ?_
      cases e with
      | normal => exact hQ m1 a1 w1 hm S1
      | exit j => exact absurd h (hne j s')
      | ret => exact hQ m1 a1 w1 hm S1
  | loop c ih =>
    intro s s' e m a w Q h S hQ
    simp only [acode] at h
    refine wp_loop_ghost (fun j a w => ∃ s1 m1, aloop (acode P call n k c) j s1 = some (e, s') ∧ Le m m1 ∧ SR F w0 m1 n s1 a w) k ⟨s, m, h, Le.refl m, S⟩ ?_
    rintro j a1 w1 ⟨s1, m1, hl, hm, S1⟩
    cases j with
    | zero => simp [aloop] at hl
    | succ j =>
      simp only [aloop] at hl
      split at hl
      · rename_i s2 hc
        exact ih s1 s2 .normal m1 a1 w1 _ hc S1 fun m2 a2 w2 hm2 S2 => ⟨j, Nat.lt_succ_self j, s2, m2, hl, hm.trans hm2, S2⟩
      · rename_i hne
        refine ih s1 s' e m1 a1 w1 _ hl S1 fun m2 a2 w2 hm2 S2 => ?_
        cases e with
        | normal => exact absurd hl (hne s')
        | exit id => exact hQ m2 a2 w2 (hm.trans hm2) S2
        | ret => exact hQ m2 a2 w2 (hm.trans hm2) S2
  | exit id =>
    intro s s' e m a w Q h S hQ
    simp only [acode, Option.some.injEq, Prod.mk.injEq] at h
    obtain ⟨rfl, rfl⟩ := h
    exact wp_exit (hQ m a w (Le.refl m) S)
  | label l =>
    intro s s' e m a w Q h S hQ
    simp only [acode, Option.some.injEq, Prod.mk.injEq] at h
    obtain ⟨rfl, rfl⟩ := h
    exact wp_label (hQ m a w (Le.refl m) S)
  | ret =>
    intro s s' e m a w Q h S hQ
    simp only [acode, Option.some.injEq, Prod.mk.injEq] at h
    obtain ⟨rfl, rfl⟩ := h
    exact wp_ret (hQ m a w (Le.refl m) S)
  | scope c ih =>
    intro s s' e m a w Q h S hQ
    simp only [acode] at h
    refine wp_scope_straight (ih s s' e m a w _ h S fun m1 a1 w1 hm S1 => ?_)
    cases e with
    | normal => exact hQ m1 a1 w1 hm S1
    | exit id => exact hQ m1 a1 w1 hm S1
    | ret => exact hQ m1 a1 w1 hm S1
  | _ =>
    intro s s' e m a w Q h S hQ
    simp [acode] at h

theorem argsTr_get : ∀ (l : List AV) (i : Nat) (t : Tr AV) (d : Nat), (argsTr l i t).get d = if i ≤ d ∧ d < i + l.length then l[d - i]? else t.get d
  | [], i, t, d => by simp [argsTr]; intro h1 h2; omega
  | a :: l, i, t, d => by
    rw [argsTr, argsTr_get l (i + 1), Tr.get_set]
    by_cases h : i + 1 ≤ d ∧ d < i + 1 + l.length
    · rw [if_pos h, if_pos (by simp only [List.length_cons]; omega), show d - i = (d - (i + 1)) + 1 by omega]
      simp
    · rw [if_neg h]
      by_cases hd : i = d
      · subst hd
        rw [if_pos rfl, if_pos (by simp only [List.length_cons]; omega)]
        simp
      · rw [if_neg hd, if_neg (by simp only [List.length_cons]; omega)]

/-- One result. -/
def resOne (tmps : Array Value) : ResultVar → Sem Value
  | .tmp t => pure (tmps.getD t undef)
  | .cell c t => do loadVar t (← asAddr (tmps.getD c undef))
theorem results_eq (fn : Func) (tmps : Array Value) : results fn tmps = (do
    let vs ← fn.results.mapM (resOne tmps)
    pure (if h : vs.size = 1 then vs[0] else .tuple vs)) := by
  unfold results
  congr 1

theorem ares_sound {m : Mp} {s : St} {a : Act} {w : World} (S : SR F w0 m n s a w) : ∀ (rs : List ResultVar) (l : List AV), ares P s rs = some l →
    ∃ vs, VRs m l vs ∧ (rs.mapM (resOne a.tmps)).run P w = .ok vs w
  | [], l, h => by
    simp only [ares, Option.some.injEq] at h; subst h
    exact ⟨[], VRs.nil, rfl⟩
  | .tmp t :: r, l, h => by
    simp only [ares] at h
    split at h
    · rename_i l' hl
      simp only [Option.some.injEq] at h; subst h
      obtain ⟨vs, q1, q2⟩ := ares_sound S r l' hl
      refine ⟨a.tmps.getD t undef :: vs, VRs.cons (S.t.ev (.tmp t)) q1, ?_⟩
      rw [List.mapM_cons]
      simp only [resOne, Sem.run_bind, Sem.run_pure, Result.andThen_ok]
      rw [q2]
      rfl
    · cases h
  | .cell c ty :: r, l, h => by
    simp only [ares] at h
    have hc := S.t.ev (.tmp c)
    split at h
    · rename_i b i hb
      split at h
      · rename_i v l' hv hl
        simp only [Option.some.injEq] at h; subst h
        obtain ⟨vs, q1, q2⟩ := ares_sound S r l' hl
        rw [hb] at hc
        simp only [VR] at hc
        obtain ⟨x, h1, h2⟩ := hc
        obtain ⟨u, g1, g2⟩ := aload_sound (P := P) S.h hv h1
        refine ⟨u :: vs, VRs.cons g1 q1, ?_⟩
        rw [List.mapM_cons]
        have h2' : a.tmps.getD c undef = .pointer (some ⟨x.B, x.δ + i, none⟩) := h2
        simp only [resOne, Sem.run_bind, h2', asAddr, Sem.run_pure, Result.andThen_ok, g2]
        rw [q2]
        rfl
      · cases h
    · cases h

theorem aresult_sound {m : Mp} {l : List AV} {vs : List Value} (h : VRs m l vs) : VR m (aresult l) (if h : (⟨vs⟩ : Array Value).size = 1 then (⟨vs⟩ : Array Value)[0] else .tuple ⟨vs⟩) := by
  have hl := h.length
  match l, vs, h, hl with
  | [], [], h, _ => simp only [aresult, VR]; exact ⟨[], by simp, h⟩
  | [a], [v], h, _ =>
    simp only [VRs] at h
    obtain ⟨v', r, he, q1, _⟩ := h
    cases he
    simpa [aresult] using q1
  | a :: b :: l, v :: u :: vs, h, _ => simp only [aresult, VR]; exact ⟨v :: u :: vs, by simp, h⟩

theorem afunc_ok (hcall : ∀ F w0, CallsOK P F w0 call) (hmix : P.follows .mixedOrders = true) {f : FuncId} {fn : Func} (hf : P.funcs[f]? = some fn) {args : List AV} {h h' : Heap} {u : AV} (e : afunc P call k fn args h = some (u, h'))
    {m : Mp} {w : World} {vals : List Value} (hv : VRs m args vals) (H : HR F w0 m h w) :
    Calls P f ⟨vals⟩ w fun e w' => ∃ m' v, e = .returned v ∧ Le m m' ∧ VR m' u v ∧ HR F w0 m' h' w' := by
  unfold afunc at e
  split at e
  · cases e
  rename_i c hb
  split at e
  · cases e
  rename_i hle
  have hle' := Nat.le_of_ble_eq_true hle
  have hlen := hv.length
  have fin : ∀ (ex : Ex) (s : St), acode P call fn.ntmps k c ⟨argsTr args 0 .lf, h⟩ = some (ex, s) → (ex = .normal ∨ ex = .ret) → (match ares P s fn.results.toList with
        | some l => some (aresult l, s.h)
        | none => none) = some (u, h') → Calls P f ⟨vals⟩ w fun e w' => ∃ m' v, e = .returned v ∧ Le m m' ∧ VR m' u v ∧ HR F w0 m' h' w' := by
    intro ex s hc hex he
    refine calls_of_wp hf hb ?_
    refine acode_sound hcall hmix c _ s ex m _ w _ hc ⟨⟨?_, fun i b hi => ?_⟩, rfl, H⟩ fun m' a' w' hm S => ?_
    · simp; omega
    · rw [argsTr_get] at hi
      split at hi
      · rename_i hc
        have hiv : i < vals.length := by omega
        refine ⟨by omega, ?_⟩
        obtain ⟨v, q1, q2⟩ := hv.get i b (by simpa using hi)
        have : (({ toList := vals } : Array Value) ++ Array.replicate (fn.ntmps - ({ toList := vals } : Array Value).size) undef).getD i undef = v := by
          rw [Array.getD_eq_getD_getElem?, Array.getElem?_append_left (by simpa using hiv)]
          simp [q1]
        rw [this]; exact q2
      · simp [Tr.get_lf] at hi
    · split at he
      · rename_i l hl
        simp only [Option.some.injEq, Prod.mk.injEq] at he
        obtain ⟨rfl, rfl⟩ := he
        obtain ⟨vs, q1, q2⟩ := ares_sound (P := P) S _ l hl
        have key : a'.defers = [] ∧ ∃ v, (results fn a'.tmps).run P w' = .ok v w' ∧ ∃ m'' v', (Ending.returned v = .returned v') ∧ Le m m'' ∧ VR m'' (aresult l) v' ∧ HR F w0 m'' s.h w' := by
          refine ⟨S.d, _, ?_, m', _, rfl, hm, aresult_sound q1, S.h⟩
          rw [results_eq, Array.mapM_eq_mapM_toList]
          simp only [Sem.run_bind, Sem.run_map]
          rw [q2]
          rfl
        rcases hex with rfl | rfl
        · exact key
        · exact key
      · cases he
  split at e
  · cases e
  · rename_i ex s hne hc
    refine fin ex s hc ?_ e
    cases ex with
    | normal => exact .inl rfl
    | ret => exact .inr rfl
    | exit id => exact absurd rfl (hne id)
  · cases e

theorem acall_ok (hmix : P.follows .mixedOrders = true) : ∀ k (F : Env) (w0 : World), CallsOK P F w0 (acall P k)
  | 0, F, w0 => fun f args h u h' m w vals e _ _ => by simp [acall] at e
  | k + 1, F, w0 => fun f args h u h' m w vals e hv H => by
    simp only [acall] at e
    split at e
    · cases e
    · rename_i fn hf
      exact afunc_ok (acall_ok hmix k) hmix hf e hv H
end

/-- A world with no block of the abstract machine's. -/
theorem HR.start (w : World) : HR ⟨fun k => k < w.heap.size, fun _ => False, fun _ => False, fun _ h => h.elim⟩ w (fun _ => none) Heap.none w :=
  ⟨Kept.refl _ _, fun _ h => h, fun b c ro h => (by simp [Heap.none, Heap.get, Tr.get_lf] at h), fun b es cl h => (by simp [Heap.none, Heap.get, Tr.get_lf] at h),
    fun b b' x x' _ _ h => (by cases h), fun b _ => ⟨rfl, rfl⟩, fun b h => h.elim⟩

/-- A function without arguments: what the abstract machine reckons of it, it returns. -/
theorem closed_call {P : Program} (hmix : P.follows .mixedOrders = true) {k : Nat} {f : FuncId} {b : Bool} (e : ((acall P k f [] Heap.none).map fun r => sameAV r.1 (.bool b)) = some true) (w : World) :
    Calls P f #[] w fun e w' => e = .returned (.bool b) ∧ Below w.heap.size w w' := by
  simp only [Option.map_eq_some_iff] at e
  obtain ⟨⟨u, h'⟩, e1, e2⟩ := e
  have hu := sameAV_eq _ _ e2
  simp only at hu
  subst hu
  refine (acall_ok hmix k _ _ f [] Heap.none _ h' _ w [] e1 VRs.nil (HR.start w)).mono fun e w' he => ?_
  obtain ⟨m', v, rfl, _, h2, h3⟩ := he
  simp only [VR] at h2
  subst h2
  exact ⟨rfl, ⟨h3.below.os, h3.below.tape, h3.below.output, h3.below.size, h3.below.block⟩⟩

end Go.YtelnkdgpghndgaaAbs
/- From 'what was there stays' to what a law's row asks behind the call. -/
namespace Go.YtelnkdgpghndgaaAbs
open Go Go.RowKit Go.WideShapes Go.ChangeShapes

/-- A law answers one bool; its arguments read as they did; nothing that was there has turned. -/
theorem law_post {H : Type} {enc : TypeId × Value → H} {P : Program} {f : Func} {s : ChangeSpec} {apart fresh handsOn again : Bool} {W W' : World} {args : Array Value} {v : Value} {ds : List (DataW H)} {ps : List MemPlace}
    (hW : DataW.Whole enc P f.params.toList s.vars apart W args.toList ds [] ps) (hs : s.vars = []) (hb : Below W.heap.size W W')
    (hres : ∀ (b : Nat) (sp : Nat → Bool) (hd : Bool), DataW.TrodAll enc P W' b sp hd f.resultTypes.toList (v.resultList f.resultTypes.size) (s.fn H (ds ++ [])).results [])
    (hargs : ∀ sp : Nat → Bool, (∀ p ∈ ps, sp p.block = true) → DataW.TrodAll enc P W' 0 sp true f.params.toList args.toList (s.fn H (ds ++ [])).args ps)
    (hvars : (s.fn H (ds ++ [])).vars = [])
    (hok : ∀ (j : Nat) (t : TypeId) (r : Value), f.resultTypes[j]? = some t → (v.resultList f.resultTypes.size)[j]? = some r → Value.okWide P W' .any 0 t r) :
    s.post enc P f apart fresh handsOn again W args v W' := by
  have below : ∀ q ∈ ps, q.block < W.heap.size := fun q hq => hW.lt q hq
  have seen : ∀ q ∈ ps, (fun b => decide (b < W.heap.size)) q.block = true := fun q hq => by simpa using below q hq
  have none : ∀ sp : Nat → Bool, DataW.TrodVars enc P W' sp s.vars (s.fn H (ds ++ [])).vars [] := fun sp => by rw [hs, hvars]; exact rfl
  have same := hargs (fun b => decide (b < W.heap.size)) seen
  refine ⟨ds, [], ps, [], ps, [], hW, hres _ (fun _ => false) _, same, none (fun b => decide (b < W.heap.size)), World.keptBut_mono (fun q hq => ⟨hq, .inr (.inl hq)⟩) (hb.frame (· ∈ ps)), fun _ => ?_⟩
  obtain ⟨_, _, _, _, _, free, uniq⟩ := hW
  refine ⟨hok, _, _, ([] ++ ps) ++ [], ⟨[] ++ ps, [], trodAll_append (hargs _ (fun _ _ => rfl)) (hres _ _ _), none _, rfl, ?_, ?_⟩, fun q hq _ => by simpa using hq⟩
  · intro b off hq
    have hin : MemPlace.cell b off ∈ ps := by simpa using hq
    rw [hb.frozen (below _ hin)]
    exact free b off hin
  · intro ha
    simpa using uniq ha

end Go.YtelnkdgpghndgaaAbs
