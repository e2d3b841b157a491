/- A region that draws its order comes to what the order of the text comes to. -/
import Derived.Test.YtangdhaihhgjkaaAbsK
namespace Go.YtangdhaihhgjkaaAbs
open Go Go.RowKit

/-- What is done holds what stands ahead of it. -/
def DC (ops : Array Oper) (L : Nat → Prop) : Prop := ∀ i o, ops[i]? = some o → L i → ∀ e ∈ o.after.toList, Region.binds .any e = true → L e.on

theorem ancMask_spec {acc : List Nat} {o : Oper} {j : Nat} (h : (ancMask acc o).testBit j = true) : ∃ e ∈ o.after.toList, Region.binds .any e = true ∧ (j = e.on ∨ (acc.getD e.on 0).testBit j = true) := by
  unfold ancMask at h
  have key : ∀ (l : List Edge) (s : Nat), (l.foldl (fun s e => if Region.binds .any e then s ||| (2 ^ e.on ||| acc.getD e.on 0) else s) s).testBit j = true →
      s.testBit j = true ∨ ∃ e ∈ l, Region.binds .any e = true ∧ (j = e.on ∨ (acc.getD e.on 0).testBit j = true) := by
    intro l
    induction l with
    | nil => intro s h; exact .inl h
    | cons e l ih =>
      intro s h
      rw [List.foldl_cons] at h
      rcases ih _ h with h | ⟨e', he', h'⟩
      · split at h
        · rename_i hb
          simp only [Nat.testBit_or, Nat.testBit_two_pow, Bool.or_eq_true, decide_eq_true_eq] at h
          rcases h with h | h | h
          · exact .inl h
          · exact .inr ⟨e, by simp, hb, .inl h.symm⟩
          · exact .inr ⟨e, by simp, hb, .inr h⟩
        · exact .inl h
      · exact .inr ⟨e', by simp [he'], h'⟩
  rcases key _ _ h with h | h
  · simp at h
  · exact h

theorem backOk_spec : ∀ (l : List Oper) (k : Nat), backOk l k = true → ∀ i o, l[i]? = some o → ∀ e ∈ o.after.toList, Region.binds .any e = true → e.on < k + i
  | [], _, _, i, o, h, _, _, _ => by simp at h
  | x :: l, k, hb, i, o, h, e, he, hbe => by
    simp only [backOk, Bool.and_eq_true] at hb
    cases i with
    | zero =>
      simp at h; subst h
      have := List.all_eq_true.1 hb.1 e he
      simp [hbe] at this
      omega
    | succ i =>
      have := backOk_spec l (k + 1) hb.2 i o (by simpa using h) e he hbe
      omega

theorem ancs_spec {ops : Array Oper} (hb : backOk ops.toList 0 = true) {i j : Nat} (h : ((ancs ops).getD i 0).testBit j = true) : j < i ∧ ∀ L, DC ops L → L i → L j := by
  have key : ∀ (l : List Oper) (k : Nat) (acc : List Nat), (∀ q o, l[q]? = some o → ops[k + q]? = some o) → acc.length = k →
      (∀ i j, i < k → (acc.getD i 0).testBit j = true → j < i ∧ ∀ L, DC ops L → L i → L j) →
      ∀ i j, ((ancsGo l acc).getD i 0).testBit j = true → j < i ∧ ∀ L, DC ops L → L i → L j := by
    intro l
    induction l with
    | nil =>
      intro k acc _ hk hacc i j h
      simp only [ancsGo] at h
      by_cases hi : i < k
      · exact hacc i j hi h
      · rw [List.getD_eq_getElem?_getD, List.getElem?_eq_none (by omega)] at h
        simp at h
    | cons o l ih =>
      intro k acc hl hk hacc i j h
      simp only [ancsGo] at h
      refine ih (k + 1) (acc ++ [ancMask acc o]) (fun q o' hq => by rw [show k + 1 + q = k + (q + 1) by omega]; exact hl (q + 1) o' (by simpa using hq)) (by simp [hk]) ?_ i j h
      intro i j hi hij
      by_cases hik : i < k
      · rw [List.getD_eq_getElem?_getD, List.getElem?_append_left (by omega), ← List.getD_eq_getElem?_getD] at hij
        exact hacc i j hik hij
      · have hik' : i = k := by omega
        subst hik'
        rw [List.getD_eq_getElem?_getD, List.getElem?_append_right (by omega), hk] at hij
        simp only [Nat.sub_self, List.getElem?_cons_zero, Option.getD_some] at hij
        have ho := hl 0 o (by simp)
        simp only [Nat.add_zero] at ho
        obtain ⟨e, he, hbe, hje⟩ := ancMask_spec hij
        have hon : e.on < i := by
          have := backOk_spec ops.toList 0 hb i o (by simpa using ho) e he hbe
          omega
        rcases hje with rfl | hje
        · exact ⟨hon, fun L hL hLi => hL i o ho hLi e he hbe⟩
        · obtain ⟨q1, q2⟩ := hacc e.on j hon hje
          exact ⟨by omega, fun L hL hLi => q2 L hL (hL i o ho hLi e he hbe)⟩
  exact key ops.toList 0 [] (fun q o hq => by simpa using hq) rfl (fun i j hi => by omega) i j h

theorem writersOk_spec {ops : Array Oper} : ∀ (l : List Oper) (k : Nat), writersOk ops l k = true → ∀ i o d, l[i]? = some o → o.dst = some d → writer ops d = some (k + i)
  | [], _, _, i, o, d, h, _ => by simp at h
  | x :: l, k, hb, i, o, d, h, hd => by
    simp only [writersOk, Bool.and_eq_true] at hb
    cases i with
    | zero =>
      simp at h; subst h
      have := hb.1
      rw [hd] at this
      simp only at this
      split at this
      · rename_i j hj
        rw [hj, Nat.eq_of_beq_eq_true this]; rfl
      · cases this
    | succ i =>
      rw [writersOk_spec l (k + 1) hb.2 i o d (by simpa using h) hd]
      congr 1; omega

theorem writer_spec {ops : Array Oper} {d : Tmp} {j : Nat} (h : writer ops d = some j) : ∃ o, ops[j]? = some o ∧ o.dst = some d := by
  unfold writer at h
  rw [List.findIdx?_eq_some_iff_getElem] at h
  obtain ⟨hlt, h1, _⟩ := h
  refine ⟨ops.toList[j], by simp, ?_⟩
  split at h1
  · rename_i d' hd
    rw [hd, Nat.eq_of_beq_eq_true h1]
  · cases h1

theorem looksOk_spec {ops : Array Oper} {an : List Nat} : ∀ (l : List Oper) (k : Nat), looksOk ops an l k = true → ∀ i o s j, l[i]? = some o → s ∈ o.looksAt ops → writer ops s = some j → j = k + i ∨ ordered an (k + i) j = true
  | [], _, _, i, o, s, j, h, _, _ => by simp at h
  | x :: l, k, hb, i, o, s, j, h, hs, hw => by
    simp only [looksOk, Bool.and_eq_true] at hb
    cases i with
    | zero =>
      simp at h; subst h
      have := List.all_eq_true.1 hb.1 s hs
      rw [hw] at this
      simp only [Bool.or_eq_true] at this
      rcases this with h | h
      · exact .inl (Nat.eq_of_beq_eq_true h)
      · exact .inr h
    | succ i =>
      have := looksOk_spec l (k + 1) hb.2 i o s j (by simpa using h) hs hw
      rw [show k + 1 + i = k + (i + 1) by omega] at this
      exact this

section
variable {P : Program} {call : CallO} {n : Nat} {ops : Array Oper}

/-- The run in the order of the text: the states between the operations. -/
structure Trace (P : Program) (call : CallO) (n : Nat) (ops : Array Oper) (l : List Rec) (s s' : St) (st : Nat → St) : Prop where
  len : l.length = ops.size
  first : st 0 = s
  last : st ops.size = s'
  at_ : ∀ i x, l[i]? = some x → ops[i]? = some x.o ∧ x.t = (st i).t ∧ x.h = (st i).h ∧ arec P call ops x.o (st i) = some x ∧ put n (st i).t x.o.dst x.a = some (st (i + 1)).t ∧ (st (i + 1)).h = x.h'

theorem arecs_trace : ∀ (ol : List Oper) (s s' : St) (l : List Rec), arecs P call n ops ol s = some (l, s') → ∃ st : Nat → St, l.length = ol.length ∧ st 0 = s ∧ st ol.length = s' ∧
    ∀ i x, l[i]? = some x → ol[i]? = some x.o ∧ x.t = (st i).t ∧ x.h = (st i).h ∧ arec P call ops x.o (st i) = some x ∧ put n (st i).t x.o.dst x.a = some (st (i + 1)).t ∧ (st (i + 1)).h = x.h'
  | [], s, s', l, h => by
    simp only [arecs, Option.some.injEq, Prod.mk.injEq] at h
    obtain ⟨rfl, rfl⟩ := h
    exact ⟨fun _ => s, rfl, rfl, rfl, fun i x hx => by simp at hx⟩
  | o :: ol, s, s', l, h => by
    simp only [arecs] at h
    split at h
    · cases h
    rename_i x hx
    split at h
    · cases h
    rename_i t ht
    split at h
    · cases h
    rename_i l' s'' hl
    simp only [Option.some.injEq, Prod.mk.injEq] at h
    obtain ⟨rfl, rfl⟩ := h
    obtain ⟨st, q1, q2, q3, q4⟩ := arecs_trace ol _ _ _ hl
    have hxo : x.o = o ∧ x.t = s.t ∧ x.h = s.h := by
      unfold arec at hx
      split at hx
      · cases hx
      · simp only [Option.some.injEq] at hx; subst hx; exact ⟨rfl, rfl, rfl⟩
      · split at hx
        · simp only [Option.some.injEq] at hx; subst hx; exact ⟨rfl, rfl, rfl⟩
        · split at hx
          · simp only [Option.some.injEq] at hx; subst hx; exact ⟨rfl, rfl, rfl⟩
          · split at hx
            · simp only [Option.some.injEq] at hx; subst hx; exact ⟨rfl, rfl, rfl⟩
            · cases hx
    refine ⟨fun i => match i with | 0 => s | i + 1 => st i, by simp [q1], rfl, by simpa using q3, fun i y hy => ?_⟩
    cases i with
    | zero =>
      simp at hy; subst hy
      refine ⟨by simp [hxo.1], hxo.2.1, hxo.2.2, by rw [hxo.1]; exact hx, ?_, ?_⟩
      · simp only [hxo.1]; rw [ht, q2]
      · simp only [q2]
    | succ i =>
      obtain ⟨r1, r2, r3, r4, r5, r6⟩ := q4 i y (by simpa using hy)
      exact ⟨by simpa using r1, r2, r3, r4, r5, r6⟩

/-- What stands in a slot when the operations of L are done. -/
def val (ops : Array Oper) (l : List Rec) (t0 : Tr AV) (L : Nat → Bool) (d : Tmp) : Option AV :=
  match writer ops d with
  | some j => if L j then (l[j]?).map (·.a) else t0.get d
  | none => t0.get d

theorem Trace.val {l : List Rec} {s s' : St} {st : Nat → St} (T : Trace P call n ops l s s' st) (hw : writersOk ops ops.toList 0 = true) : ∀ i, i ≤ ops.size → ∀ d, (st i).t.get d = YtangdhaihhgjkaaAbs.val ops l s.t (fun j => decide (j < i)) d
  | 0, _, d => by
    rw [T.first]
    unfold YtangdhaihhgjkaaAbs.val
    split <;> simp
  | i + 1, hi, d => by
    have ih := T.val hw i (by omega) d
    have hlt : i < l.length := by rw [T.len]; omega
    obtain ⟨r1, r2, r3, r4, r5, r6⟩ := T.at_ i l[i] (by simp [hlt])
    have hget : (st (i + 1)).t.get d = if l[i].o.dst = some d then some l[i].a else (st i).t.get d := by
      cases hd : l[i].o.dst with
      | none =>
        rw [hd] at r5
        simp only [put, Option.some.injEq] at r5
        rw [← r5]; simp
      | some d' =>
        rw [hd] at r5
        simp only [put] at r5
        split at r5
        · simp only [Option.some.injEq] at r5
          rw [← r5, Tr.get_set]
          by_cases q : d' = d
          · subst q; simp
          · rw [if_neg q, if_neg (by simpa using q)]
        · cases r5
    rw [hget, ih]
    unfold YtangdhaihhgjkaaAbs.val
    by_cases hd : l[i].o.dst = some d
    · rw [if_pos hd]
      have := writersOk_spec ops.toList 0 hw i l[i].o d (by simpa using r1) hd
      rw [Nat.zero_add] at this
      rw [this]
      simp [hlt]
    · rw [if_neg hd]
      split
      · rename_i j hj
        obtain ⟨o, ho, hod⟩ := writer_spec hj
        have hji : j ≠ i := by
          intro q; subst q
          rw [r1] at ho
          simp only [Option.some.injEq] at ho
          rw [← ho] at hod
          exact hd hod
        by_cases q : j < i
        · simp [q, show j < i + 1 by omega]
        · simp [q, show ¬ j < i + 1 by omega]
      · rfl

theorem Rec.same {x : Rec} {o : Oper} {s : St} (h : arec P call ops o s = some x) (hk : x.kind ≠ .eff) : x.h' = s.h := by
  unfold arec at h
  split at h
  · cases h
  · simp only [Option.some.injEq] at h; subst h; rfl
  · split at h
    · simp only [Option.some.injEq] at h; subst h; rfl
    · split at h
      · simp only [Option.some.injEq] at h; subst h; rfl
      · split at h
        · simp only [Option.some.injEq] at h; subst h; exact absurd rfl hk
        · cases h

/-- Between effects the heap stays. -/
theorem Trace.heap {l : List Rec} {s s' : St} {st : Nat → St} (T : Trace P call n ops l s s' st) (i : Nat) : ∀ d, i + d ≤ ops.size → (∀ e x, i ≤ e → e < i + d → l[e]? = some x → x.kind ≠ .eff) → (st (i + d)).h = (st i).h
  | 0, _, _ => rfl
  | d + 1, hd, h => by
    have hlt : i + d < l.length := by rw [T.len]; omega
    obtain ⟨r1, r2, r3, r4, r5, r6⟩ := T.at_ (i + d) l[i + d] (by simp [hlt])
    have := Rec.same r4 (h (i + d) _ (by omega) (by omega) (by simp [hlt]))
    rw [show i + (d + 1) = i + d + 1 by omega, r6, this]
    exact T.heap i d (by omega) (fun e x h1 h2 => h e x h1 (by omega))

theorem rowOk_spec {an : List Nat} {i : Nat} {x : Rec} : ∀ (l : List Rec) (k : Nat), rowOk P an i x l k = true → ∀ j y, l[j]? = some y → pairOk P an i x (k + j) y = true
  | [], _, _, j, y, h => by simp at h
  | z :: l, k, hb, j, y, h => by
    simp only [rowOk, Bool.and_eq_true] at hb
    cases j with
    | zero => simp at h; subst h; exact hb.1
    | succ j =>
      have := rowOk_spec l (k + 1) hb.2 j y (by simpa using h)
      rw [show k + 1 + j = k + (j + 1) by omega] at this
      exact this
theorem allOk_spec {an : List Nat} {all : List Rec} : ∀ (l : List Rec) (k : Nat), allOk P an all l k = true → ∀ i x, l[i]? = some x → ∀ j y, all[j]? = some y → pairOk P an (k + i) x j y = true
  | [], _, _, i, x, h => by simp at h
  | z :: l, k, hb, i, x, h => by
    simp only [allOk, Bool.and_eq_true] at hb
    intro j y hj
    cases i with
    | zero =>
      simp at h; subst h
      have := rowOk_spec all 0 hb.1 j y hj
      simpa using this
    | succ i =>
      have := allOk_spec l (k + 1) hb.2 i x (by simpa using h) j y hj
      rw [show k + 1 + i = k + (i + 1) by omega] at this
      exact this

theorem ordered_spec (hb : backOk ops.toList 0 = true) {i j : Nat} (h : ordered (ancs ops) i j = true) : (i < j ∧ ∀ L, DC ops L → L j → L i) ∨ (j < i ∧ ∀ L, DC ops L → L i → L j) := by
  simp only [ordered, Bool.or_eq_true] at h
  rcases h with h | h
  · exact .inl (ancs_spec hb h)
  · exact .inr (ancs_spec hb h)

theorem arec_cases {o : Oper} {s : St} {x : Rec} (h : arec P call ops o s = some x) :
    (awant ops s.t o = some false ∧ x.kind = .skip ∧ x.a = .tup []) ∨ (awant ops s.t o = some true ∧ ((x.kind = .quiet ∧ apure P s.t o = some x.a) ∨ (x.kind = .read ∧ aread P s.t s.h o = some x.a) ∨
      (x.kind = .eff ∧ aeff P call s.t s.h o = some (x.a, x.h')))) := by
  unfold arec at h
  split at h
  · cases h
  · rename_i hw
    simp only [Option.some.injEq] at h; subst h
    exact .inl ⟨hw, rfl, rfl⟩
  · rename_i hw
    split at h
    · rename_i a ha
      simp only [Option.some.injEq] at h; subst h
      exact .inr ⟨hw, .inl ⟨rfl, ha⟩⟩
    · split at h
      · rename_i a ha
        simp only [Option.some.injEq] at h; subst h
        exact .inr ⟨hw, .inr (.inl ⟨rfl, ha⟩)⟩
      · split at h
        · rename_i a h' ha
          simp only [Option.some.injEq] at h; subst h
          exact .inr ⟨hw, .inr (.inr ⟨rfl, ha⟩)⟩
        · cases h

def lis (listed : Array Bool) (i : Nat) : Bool := listed.getD i false

/-- What holds when some of a region's operations are done, in whatever order. -/
structure Inv (P : Program) (F : Env) (w0 : World) (m : Mp) (n : Nat) (ops : Array Oper) (l : List Rec) (s : St) (st : Nat → St) (listed : Array Bool) (a : Act) (w : World) (m' : Mp) (k : Nat) : Prop where
  le : Le m m'
  size : a.tmps.size = n
  defers : a.defers = []
  lsize : listed.size = ops.size
  dc : DC ops (fun i => lis listed i = true)
  slots : ∀ d v, val ops l s.t (lis listed) d = some v → d < n ∧ VR m' v (a.tmps.getD d undef)
  kle : k ≤ ops.size
  effs : ∀ e x, l[e]? = some x → x.kind = .eff → (lis listed e = true ↔ e < k)
  heap : HR F w0 m' (st k).h w

theorem lis_set {listed : Array Bool} {i : Nat} (hi : i < listed.size) (j : Nat) : lis (listed.setIfInBounds i true) j = (decide (j = i) || lis listed j) := by
  unfold lis
  by_cases h : j = i
  · subst h
    simp [Array.getD, hi]
  · have : i ≠ j := fun q => h q.symm
    simp only [Array.getD_eq_getD_getElem?, Array.getElem?_setIfInBounds, if_neg this, h, decide_false, Bool.false_or]

theorem wpAny_draw {F : Env} {w0 : World} (hcall : CallsOK P F w0 call) {Q : Exit → Act → World → Prop} {l : List Rec} {s s' : St} {st : Nat → St} (T : Trace P call n ops l s s' st) (hst : staticOk ops = true)
    (hall : allOk P (ancs ops) l l 0 = true) {m : Mp} (hQ : ∀ m' a' w', Le m m' → SR F w0 m' n s' a' w' → Q .normal a' w') :
    ∀ (fuel : Nat) (listed : Array Bool) (a : Act) (w : World) (m' : Mp) (k : Nat), ((List.range ops.size).filter fun i => !lis listed i).length ≤ fuel → Inv P F w0 m n ops l s st listed a w m' k → wpAny P .any ops Q fuel listed a w := by
  simp only [staticOk, Bool.and_eq_true] at hst
  obtain ⟨⟨hb, hw⟩, hlook⟩ := hst
  -- all is done where nothing is ready
  have fin : ∀ (listed : Array Bool) (a : Act) (w : World) (m' : Mp) (k : Nat), Inv P F w0 m n ops l s st listed a w m' k → Region.ready .any ops listed = [] → Q .normal a w := by
    intro listed a w m' k I hr
    have hdone : ∀ i, i < ops.size → lis listed i = true := by
      intro i
      induction i using Nat.strongRecOn with
      | _ i ih =>
        intro hi
        cases hli : lis listed i with
        | true => rfl
        | false =>
          have hmem : i ∈ Region.ready .any ops listed := by
            unfold Region.ready
            rw [List.mem_filter]
            refine ⟨List.mem_range.2 hi, ?_⟩
            have h1 : listed.getD i true = false := by
              unfold lis at hli
              have : i < listed.size := by rw [I.lsize]; exact hi
              simp only [Array.getD, this, dite_true] at hli ⊢
              exact hli
            have ho : ops[i]? = some ops[i] := by simp [hi]
            rw [h1, ho]
            simp only [Bool.not_false, Option.map_some, Option.getD_some, Bool.true_and]
            rw [Array.all_eq_true']
            intro e he
            cases hbe : Region.binds .any e with
            | false => rfl
            | true =>
              have := backOk_spec ops.toList 0 hb i ops[i] (by simp [hi]) e (by simpa using he) hbe
              have := ih e.on (by omega) (by omega)
              simpa [lis] using this
          rw [hr] at hmem
          cases hmem
    refine hQ m' a w I.le ⟨⟨I.size, fun i v hv => ?_⟩, I.defers, ?_⟩
    · refine I.slots i v ?_
      have := T.val hw ops.size (Nat.le_refl _) i
      rw [T.last] at this
      rw [this] at hv
      unfold val at hv ⊢
      split
      · rename_i j hj
        rw [hj] at hv
        obtain ⟨o, ho, _⟩ := writer_spec hj
        have hlt : j < ops.size := (Array.getElem?_eq_some_iff.1 ho).1
        rw [hdone j hlt]
        simpa [hlt] using hv
      · rename_i hj
        rw [hj] at hv
        exact hv
    · rw [← T.last]
      have := T.heap k (ops.size - k) (by have := I.kle; omega) (fun e x h1 h2 hx hk => by
        have := (I.effs e x hx hk).1 (hdone e (by omega))
        omega)
      rw [show k + (ops.size - k) = ops.size by have := I.kle; omega] at this
      rw [this]
      exact I.heap
  intro fuel
  induction fuel with
  | zero =>
    intro listed a w m' k hf I
    have hr : Region.ready .any ops listed = [] := by
      cases hq : Region.ready .any ops listed with
      | nil => rfl
      | cons i r =>
        have hi : i ∈ Region.ready .any ops listed := by rw [hq]; simp
        rw [mem_ready] at hi
        obtain ⟨h0, o, ho, _⟩ := hi
        have hlt : i < ops.size := (Array.getElem?_eq_some_iff.1 ho).1
        have : i ∈ (List.range ops.size).filter fun i => !lis listed i := by
          rw [List.mem_filter]
          refine ⟨List.mem_range.2 hlt, ?_⟩
          have hls : i < listed.size := by rw [I.lsize]; exact hlt
          simp only [Array.getD, hls, dite_true] at h0
          simp only [lis, Array.getD, hls, dite_true]
          rw [h0]; rfl
        rw [List.eq_nil_of_length_eq_zero (Nat.le_zero.1 hf)] at this
        cases this
    exact ⟨hr, fin listed a w m' k I hr⟩
  | succ fuel ih =>
    intro listed a w m' k hf I
    refine ⟨fin listed a w m' k I, fun i hi => ?_⟩
    rw [mem_ready] at hi
    obtain ⟨h0, o, ho, hpre⟩ := hi
    have hlt : i < ops.size := (Array.getElem?_eq_some_iff.1 ho).1
    have hls : i < listed.size := by rw [I.lsize]; exact hlt
    have hnl : lis listed i = false := by
      simp only [Array.getD, hls, dite_true] at h0
      simp only [lis, Array.getD, hls, dite_true]
      exact h0
    have hll : i < l.length := by rw [T.len]; exact hlt
    obtain ⟨r1, r2, r3, r4, r5, r6⟩ := T.at_ i l[i] (by simp [hll])
    rw [ho] at r1
    simp only [Option.some.injEq] at r1
    have hset := lis_set hls
    -- what is done, and this one
    have dc2 : DC ops (fun j => lis listed j = true ∨ j = i) := by
      intro j o' ho' hj e he hbe
      rcases hj with hj | rfl
      · exact .inl (I.dc j o' ho' hj e he hbe)
      · rw [ho] at ho'; cases ho'
        exact .inl (hpre e (by simpa using he) hbe)
    have dc' : DC ops (fun j => lis (listed.setIfInBounds i true) j = true) := by
      intro j o' ho' hj e he hbe
      simp only [hset, Bool.or_eq_true, decide_eq_true_eq] at hj ⊢
      have := dc2 j o' ho' (hj.elim .inr .inl) e he hbe
      exact this.elim .inr .inl
    have anc : ∀ j, ordered (ancs ops) i j = true → (i < j ∧ lis listed j = false) ∨ (j < i ∧ lis listed j = true) := by
      intro j hij
      rcases ordered_spec hb hij with ⟨h1, h2⟩ | ⟨h1, h2⟩
      · refine .inl ⟨h1, ?_⟩
        cases hj : lis listed j with
        | false => rfl
        | true =>
          have := h2 _ I.dc hj
          simp only [hnl] at this
          cases this
      · have := h2 _ dc2 (.inr rfl)
        rcases this with h | h
        · exact .inr ⟨h1, h⟩
        · omega
    -- the slots that it looks at
    have hslot : ∀ sl, sl ∈ o.looksAt ops → ∀ v, (st i).t.get sl = some v → sl < n ∧ VR m' v (a.tmps.getD sl undef) := by
      intro sl hsl v hv
      refine I.slots sl v ?_
      rw [T.val hw i (by omega)] at hv
      unfold val at hv ⊢
      split
      · rename_i j hj
        rw [hj] at hv
        simp only at hv
        rcases looksOk_spec ops.toList 0 hlook i o sl j (by simpa using ho) hsl hj with q | q
        · rw [Nat.zero_add] at q; subst q
          rw [hnl]
          simpa using hv
        · rw [Nat.zero_add] at q
          rcases anc j q with ⟨q1, q2⟩ | ⟨q1, q2⟩
          · rw [q2]
            simpa [show ¬ j < i by omega] using hv
          · rw [q2]
            simpa [q1] using hv
      · rename_i hj
        rw [hj] at hv
        exact hv
    have hE : OR m' (st i).t a.eval o := by
      intro y hy
      cases y with
      | tmp sl =>
        simp only [ev, Act.eval]
        split
        · rename_i v hv
          refine (hslot sl ?_ v hv).2
          unfold Oper.looksAt
          refine List.mem_append.2 (.inl (List.mem_filterMap.2 ⟨.tmp sl, by simpa using hy, rfl⟩))
        · simp [VR]
      | const v => exact VR.ofV m' v
      | global g => simp [ev, VR]
      | func f => simp only [ev, Act.eval, VR]; exact ⟨[], rfl, VRs.nil⟩
    have hwant : ∀ b, awant ops (st i).t o = some b → Region.wanted o (yielded ops a.tmps) = b := fun b hb' =>
      awant_sound hb' I.size fun j w' d hg hd v hv => hslot d (by
        unfold Oper.looksAt
        refine List.mem_append.2 (.inr ?_)
        rw [hg]
        simp only [hd]
        simp) v hv
    -- the invariant behind it
    have hnew : ∀ m'' v w'' k', Le m' m'' → VR m'' l[i].a v → k' ≤ ops.size → (∀ e x, l[e]? = some x → x.kind = .eff → (lis (listed.setIfInBounds i true) e = true ↔ e < k')) → HR F w0 m'' (st k').h w'' →
        wpAny P .any ops Q fuel (listed.setIfInBounds i true) (a.put o.dst v) w'' := by
      intro m'' v w'' k' hm hv hk' heff hH
      refine ih _ _ _ m'' k' ?_ ⟨I.le.trans hm, ?_, by rw [put_defers]; exact I.defers, by simp [I.lsize], dc', ?_, hk', heff, hH⟩
      · have : ((List.range ops.size).filter fun j => !lis (listed.setIfInBounds i true) j) = ((List.range ops.size).filter fun j => !lis listed j).filter fun j => decide (j ≠ i) := by
          rw [List.filter_filter]
          refine List.filter_congr fun j _ => ?_
          rw [hset]
          by_cases q : j = i
          · simp [q]
          · simp [q]
        have hlen : ((List.range ops.size).filter fun j => !lis (listed.setIfInBounds i true) j).length < ((List.range ops.size).filter fun j => !lis listed j).length := by
          rw [this, List.length_filter_lt_length_iff_exists]
          exact ⟨i, by rw [List.mem_filter]; exact ⟨List.mem_range.2 hlt, by rw [hnl]; rfl⟩, by simp⟩
        omega
      · cases o.dst <;> simp [Act.put, I.size]
      · intro d u hd
        unfold val at hd
        have hdst : ∀ d', o.dst = some d' → writer ops d' = some i := fun d' hd' => by
          have := writersOk_spec ops.toList 0 hw i o d' (by simpa using ho) hd'
          rwa [Nat.zero_add] at this
        have other : o.dst ≠ some d → val ops l s.t (lis listed) d = some u → d < n ∧ VR m'' u ((a.put o.dst v).tmps.getD d undef) := by
          intro hne hval
          obtain ⟨q1, q2⟩ := I.slots d u hval
          refine ⟨q1, ?_⟩
          have : (a.put o.dst v).tmps.getD d undef = a.tmps.getD d undef := by
            cases hod : o.dst with
            | none => rfl
            | some d' =>
              have hdd : d' ≠ d := fun q => hne (by rw [hod, q])
              simp only [Act.put, Array.getD_eq_getD_getElem?, Array.getElem?_setIfInBounds, if_neg hdd]
          rw [this]
          exact q2.mono hm
        split at hd
        · rename_i j hj
          by_cases hji : j = i
          · subst hji
            obtain ⟨o', ho', hod⟩ := writer_spec hj
            rw [ho] at ho'; cases ho'
            rw [hset] at hd
            simp only [decide_true, Bool.true_or, if_true] at hd
            have hu : u = l[j].a := by simpa [hll] using hd.symm
            subst hu
            rw [← r1, hod] at r5
            simp only [put] at r5
            split at r5
            · rename_i hdn
              have hdn : d < n := by simpa [Nat.blt_eq] using hdn
              refine ⟨hdn, ?_⟩
              rw [hod]
              have : d < a.tmps.size := by rw [I.size]; exact hdn
              simp only [Act.put, Array.getD_eq_getD_getElem?, Array.getElem?_setIfInBounds, if_true, this]
              exact hv
            · cases r5
          · refine other (fun q => ?_) ?_
            · have := hdst d q
              rw [hj] at this
              exact hji (Option.some.inj this)
            · unfold val
              rw [hj]
              rw [hset] at hd
              simpa [hji] using hd
        · rename_i hj
          refine other (fun q => ?_) ?_
          · have := hdst d q
            rw [hj] at this; cases this
          · unfold val
            rw [hj]
            exact hd
    -- where it is no effect
    have hnoeff : l[i].kind ≠ .eff → ∀ e x, l[e]? = some x → x.kind = .eff → (lis (listed.setIfInBounds i true) e = true ↔ e < k) := by
      intro hk e x hx hxk
      have hei : e ≠ i := by
        intro q; subst q
        have : l[e]? = some l[e] := by simp [hll]
        rw [this] at hx; cases hx
        exact hk hxk
      rw [hset]
      simpa [hei] using I.effs e x hx hxk
    unfold wpOp
    rw [ho]
    simp only
    rw [← r1] at r4
    rcases arec_cases r4 with ⟨q1, q2, q3⟩ | ⟨q1, q2⟩
    · rw [if_neg (by rw [hwant _ q1]; simp)]
      exact hnew m' undef w k (Le.refl _) (by rw [q3]; exact VR.undef) I.kle (hnoeff (by rw [q2]; decide)) I.heap
    · rw [if_pos (hwant _ q1)]
      refine .inl ?_
      unfold Oper.wp
      rcases q2 with ⟨q2, q3⟩ | ⟨q2, q3⟩ | ⟨q2, q3⟩
      · obtain ⟨v, h1, h2⟩ := apure_sound hE q3
        rw [h2 w]
        exact hnew m' v w k (Le.refl _) h1 I.kle (hnoeff (by rw [q2]; decide)) I.heap
      · -- reads
        have hread : aread P (st i).t (st k).h o = some l[i].a := by
          have pairs := fun j y hy => allOk_spec l 0 hall i l[i] (by simp [hll]) j y hy
          have bad : ∀ e x, l[e]? = some x → x.kind = .eff → ((i < e ∧ lis listed e = true) ∨ (e < i ∧ lis listed e = false)) → aread P (st i).t x.h o = some l[i].a ∧ aread P (st i).t x.h' o = some l[i].a := by
            intro e x hx hxk hcase
            have hp := pairs e x hx
            rw [Nat.zero_add] at hp
            unfold pairOk at hp
            rw [q2, hxk] at hp
            simp only [Bool.or_eq_true, Bool.and_eq_true] at hp
            rcases hp with hp | ⟨hp1, hp2⟩
            · rcases anc e hp with ⟨g1, g2⟩ | ⟨g1, g2⟩
              · rcases hcase with ⟨f1, f2⟩ | ⟨f1, f2⟩
                · rw [g2] at f2; cases f2
                · omega
              · rcases hcase with ⟨f1, f2⟩ | ⟨f1, f2⟩
                · omega
                · rw [g2] at f2; cases f2
            · rw [r2, ← r1] at hp1 hp2
              constructor
              · split at hp1
                · rename_i b hb'
                  rw [hb', sameAV_eq _ _ hp1]
                · cases hp1
              · split at hp2
                · rename_i b hb'
                  rw [hb', sameAV_eq _ _ hp2]
                · cases hp2
          rcases Nat.lt_or_ge k i with hki | hki
          · -- effects between k and i?
            by_cases hex : ∃ e, k ≤ e ∧ e < i ∧ ∃ x, l[e]? = some x ∧ x.kind = .eff
            · obtain ⟨e, ⟨h1, h2, x, hx, hxk⟩, hmin⟩ := exists_least hex
              have hle : lis listed e = false := by
                cases hq : lis listed e with
                | false => rfl
                | true => have := (I.effs e x hx hxk).1 hq; omega
              have := T.heap k (e - k) (by omega) (fun e' x' g1 g2 hx' hxk' => by
                have := hmin e' ⟨g1, by omega, x', hx', hxk'⟩
                omega)
              rw [show k + (e - k) = e by omega] at this
              rw [← this, ← (T.at_ e x hx).2.2.1]
              exact (bad e x hx hxk (.inr ⟨h2, hle⟩)).1
            · have := T.heap k (i - k) (by omega) (fun e x h1 h2 hx hxk => hex ⟨e, h1, by omega, x, hx, hxk⟩)
              rw [show k + (i - k) = i by omega] at this
              rw [← this]
              exact q3
          · by_cases hex : ∃ e, i ≤ e ∧ e < k ∧ ∃ x, l[e]? = some x ∧ x.kind = .eff
            · obtain ⟨d, ⟨e, h1, h2, x, hx, hxk⟩, hmin⟩ := exists_least (p := fun d => ∃ e, i ≤ e ∧ e + d + 1 = k ∧ ∃ x, l[e]? = some x ∧ x.kind = .eff) (by
                obtain ⟨e, h1, h2, h3⟩ := hex
                exact ⟨k - e - 1, e, h1, by omega, h3⟩)
              have hle : lis listed e = true := (I.effs e x hx hxk).2 (by omega)
              have hie : i ≠ e := fun q => by rw [q] at hnl; rw [hle] at hnl; cases hnl
              have := T.heap (e + 1) d (by have := I.kle; omega) (fun e' x' g1 g2 hx' hxk' => by
                have := hmin (k - e' - 1) ⟨e', by omega, by omega, x', hx', hxk'⟩
                omega)
              rw [show e + 1 + d = k by omega] at this
              rw [this, (T.at_ e x hx).2.2.2.2.2]
              exact (bad e x hx hxk (.inl ⟨by omega, hle⟩)).2
            · have := T.heap i (k - i) (by have := I.kle; omega) (fun e x h1 h2 hx hxk => hex ⟨e, h1, by omega, x, hx, hxk⟩)
              rw [show i + (k - i) = k by omega] at this
              rw [this]
              exact q3
        obtain ⟨v, h1, h2⟩ := aread_sound I.heap hE hread
        rw [h2]
        exact hnew m' v w k (Le.refl _) h1 I.kle (hnoeff (by rw [q2]; decide)) I.heap
      · -- effects
        have hki : ∀ e x, l[e]? = some x → x.kind = .eff → e < i → lis listed e = true := by
          intro e x hx hxk hei
          have hp := allOk_spec l 0 hall i l[i] (by simp [hll]) e x hx
          rw [Nat.zero_add] at hp
          unfold pairOk at hp
          rw [q2, hxk] at hp
          simp only [Bool.or_eq_true] at hp
          rcases hp with hp | hp
          · have := Nat.eq_of_beq_eq_true hp; omega
          · rcases anc e hp with ⟨g1, g2⟩ | ⟨g1, g2⟩
            · omega
            · exact g2
        have hik : k ≤ i := by
          have := (I.effs i l[i] (by simp [hll]) q2)
          rw [hnl] at this
          have h3 : ¬ i < k := fun q => by have := this.2 q; cases this
          omega
        have hh : (st k).h = (st i).h := by
          have := T.heap k (i - k) (by omega) (fun e x h1 h2 hx hxk => by
            have := (I.effs e x hx hxk).1 (hki e x hx hxk (by omega))
            omega)
          rw [show k + (i - k) = i by omega] at this
          exact this.symm
        refine aeff_sound (by rw [← hh]; exact I.heap) hcall hE q3 fun m'' v w'' hm hv hH => ?_
        refine hnew m'' v w'' (i + 1) hm hv (by omega) (fun e x hx hxk => ?_) (by rw [r6]; exact hH)
        rw [hset]
        simp only [Bool.or_eq_true, decide_eq_true_eq]
        constructor
        · rintro (rfl | h)
          · omega
          · have := (I.effs e x hx hxk).1 h; omega
        · intro h
          by_cases hei : e = i
          · exact .inl hei
          · exact .inr (hki e x hx hxk (by omega))

theorem adraw_sound {F : Env} {w0 : World} (hcall : CallsOK P F w0 call) (hmix : P.follows .mixedOrders = true) {id : Nat} {Q : Exit → Act → World → Prop} {s s' : St} {m : Mp} {a : Act} {w : World}
    (e : adraw P call n ops s = some s') (S : SR F w0 m n s a w) (hQ : ∀ m' a' w', Le m m' → SR F w0 m' n s' a' w' → Q .normal a' w') : (Code.region id ops true).wp P Q a w := by
  unfold adraw at e
  split at e
  · cases e
  rename_i hst
  split at e
  · cases e
  rename_i l s'' hl
  split at e
  · rename_i hall
    simp only [Option.some.injEq] at e; subst e
    obtain ⟨st, q1, q2, q3, q4⟩ := arecs_trace ops.toList s s'' l hl
    have T : Trace P call n ops l s s'' st := ⟨by rw [q1]; simp, q2, by simpa using q3, fun i x hx => by
      obtain ⟨g1, g2⟩ := q4 i x hx
      exact ⟨by simpa using g1, g2⟩⟩
    refine wp_region_any hmix ?_
    have hlis : ∀ j, lis (Array.replicate ops.size false) j = false := by
      intro j
      unfold lis
      simp [Array.getD_eq_getD_getElem?, Array.getElem?_replicate]
      split <;> rfl
    refine wpAny_draw hcall T hst hall hQ ops.size _ a w.drew m 0 ?_ ⟨Le.refl m, S.t.1, S.d, by simp, fun i o _ hi => (by simp only [hlis] at hi; cases hi), fun d v hv => ?_, Nat.zero_le _, fun e x _ _ => by simp [hlis], by rw [T.first]; exact S.h.drew⟩
    · exact Nat.le_trans (List.length_filter_le _ _) (by simp)
    · refine S.t.2 d v ?_
      unfold val at hv
      split at hv
      · simpa [hlis] using hv
      · exact hv
  · cases e
end

end Go.YtangdhaihhgjkaaAbs
