/- Late appends to slices that are one's own. -/
import Derived.Test.YtcgafaecdjbmiaaAbsO
namespace Go.YtcgafaecdjbmiaaAbs
open Go Go.RowKit
set_option linter.unusedSimpArgs false
set_option linter.unusedVariables false

theorem nbeq_ne {a b : Nat} (h : a ≠ b) : Nat.beq a b = false := by rw [nbeq_dec]; exact decide_eq_false h
def own1 (i : Nat) : AV → List (Nat × Nat)
  | .sl b _ _ _ _ _ => [(i, b)]
  | _ => []
theorem ownsGo_skip {ls : List Nat} {t : Tr AV} {o : Oper} {r : List Oper} {i : Nat} (h : isApp o = false) : ownsGo ls t (o :: r) i = ownsGo ls t r (i + 1) := by
  have : ownOf t o = none := by
    obtain ⟨d, op, ty, pos, af, g⟩ := o
    cases op with
    | call c =>
      obtain ⟨callee, args, argTypes⟩ := c
      cases callee with
      | builtin b =>
        cases b <;> first
          | rfl
          | exact Bool.noConfusion h
      | _ => rfl
    | _ => rfl
  simp only [ownsGo, this]
  split <;> rfl
theorem ownsGo_nil {ls : List Nat} {t : Tr AV} {i : Nat} : ownsGo ls t [] i = [] := rfl
theorem ownsGo_app {ls : List Nat} {t : Tr AV} {d : Option Tmp} {s x : Operand} {st xt ty : TypeId} {pos : String} {af : Array Edge} {g : Option (Nat × Bool)} {r : List Oper} {i : Nat} :
    ownsGo ls t (⟨d, .call ⟨.builtin .append, List.toArray [s, x], List.toArray [st, xt]⟩, ty, pos, af, g⟩ :: r) i = if memN i ls = true then own1 i (ev t s) ++ ownsGo ls t r (i + 1) else ownsGo ls t r (i + 1) := by
  have : ownOf t ⟨d, .call ⟨.builtin .append, List.toArray [s, x], List.toArray [st, xt]⟩, ty, pos, af, g⟩ = match ev t s with
    | .sl b _ _ _ _ _ => some b
    | _ => none := by
    show (match some (ev t s) with | some (.sl b _ _ _ _ _) => some b | _ => none) = _
    cases ev t s <;> rfl
  simp only [ownsGo, this]
  cases memN i ls with
  | false => simp
  | true =>
    simp only [if_true]
    cases ev t s <;> rfl
section
variable {P : Program} {t : Tr AV} {an : List Nat} {base i : Nat} {own : List (Nat × Nat × List AV)} {fl : List (Nat × List AV)} {d : Option Tmp} {ty : TypeId} {pos : String} {af : Array Edge} {g : Option (Nat × Bool)}
theorem alate_app {s x : Operand} {st xt : TypeId} : alate P t an base i own fl ⟨d, .call ⟨.builtin .append, List.toArray [s, x], List.toArray [st, xt]⟩, ty, pos, af, g⟩ = aapp P an base i (ownFind i own) fl st xt (ev t s) (ev t x) := rfl
theorem alate_build {u : TypeId} {len : Nat} {parts : Array (Nat × Operand)} : alate P t an base i own fl ⟨d, .buildSlice u len parts, ty, pos, af, g⟩ = (aalloc P t ⟨d, .buildSlice u len parts, ty, pos, af, g⟩).map fun p => (p.1, p.2 (base + i)) := by
  unfold alate
  cases aalloc P t ⟨d, .buildSlice u len parts, ty, pos, af, g⟩ <;> rfl
theorem alate_alloc {u : TypeId} : alate P t an base i own fl ⟨d, .alloc u, ty, pos, af, g⟩ = (aalloc P t ⟨d, .alloc u, ty, pos, af, g⟩).map fun p => (p.1, p.2 (base + i)) := by
  unfold alate
  cases aalloc P t ⟨d, .alloc u, ty, pos, af, g⟩ <;> rfl
/-- []byte(s) -/
theorem alate_conv {src dst e : TypeId} {x : Operand} {s : ByteArray} (h1 : P.underlying src = some .string) (h2 : P.underlying dst = some (.slice e)) (h3 : P.underlying e = some (.int .u8)) (hx : ev t x = .str s) :
    alate P t an base i own fl ⟨d, .convert src dst x, ty, pos, af, g⟩ = some (s.data.toList.map (fun b : UInt8 => AV.int .u8 b.toNat), .sl (base + i) 0 s.size s.size 1 false) := by
  show (match P.underlying src, P.underlying dst, ev t x with
      | some .string, some (.slice e), .str s => match P.underlying e with
        | some (.int .u8) => some (s.data.toList.map (fun b : UInt8 => AV.int .u8 b.toNat), AV.sl (base + i) 0 s.size s.size 1 false)
        | _ => none
      | _, _, _ => none) = _
  rw [h1, h2, hx]
  simp only [h3]
end
theorem flFind_add {base j b : Nat} {a : List AV} {r : List (Nat × List AV)} : flFind base (base + b) ((j, a) :: r) = if j = b then some (j, a) else flFind base (base + b) r := by
  simp only [flFind]
  by_cases h : j = b
  · subst h
    rw [if_pos rfl, show Nat.beq (base + j) (base + j) = true from Nat.beq_refl _]
  · rw [if_neg h, show Nat.beq (base + j) (base + b) = false from nbeq_ne (by omega)]
/-- An element is appended late. -/
theorem aapp_mine {P : Program} {st e : TypeId} {sz by_ n : Nat} (E : Elem P st e sz by_) {h : Heap} {v : AV} {l : List AV} (V : Mine sz n h v l) {a : List AV} (x3 : a.all AV.one = true) (x4 : a.length = sz) (hf : n < 1000000000)
    {an : List Nat} {base i j : Nat} {own : Option (Nat × List AV)} {fl : List (Nat × List AV)} (ho : ∀ b c, h.get b = some (.cells c false) → Has v b → own = some (b, c)) (hfl : flFind base (base + j) fl = some (j, a))
    (hsrc : ((an.getD i 0).testBit j && srcOk an i j an 0) = true) {ex : Bool} {k : Nat} : aapp P an base i own fl st st v (.sl (base + j) 0 1 k sz ex) = some (l ++ a, .sl (base + i) 0 (n + 1) (n + 1) sz false) := by
  obtain ⟨ei, zv, q1, q2, q3, q4, q5⟩ := E.info
  obtain ⟨p1, p2, p3⟩ := E.pos
  have hl := V.length
  have ea : acellsF an base i fl ei.size 1 (.sl (base + j) 0 1 k sz ex) = some a := by
    unfold acellsF
    simp only [hfl, hsrc, q3, true_and, List.drop_zero, Nat.one_mul, Nat.zero_add]
    rw [if_pos ⟨Nat.le_refl _, by omega⟩, ← x4, List.take_length]
  have hroom : (n + 1) * ei.bytes ≤ room := by
    unfold room
    have : (n + 1) * ei.bytes ≤ 1000000000 * 4096 := Nat.mul_le_mul (by omega) (by omega)
    omega
  unfold aapp
  rw [E.und]
  simp only [q1, q2]
  rw [if_neg (by rw [q3, q4, q5]; omega)]
  simp only [alen, ea]
  rw [if_neg (by rw [x3, x4, q3]; simp)]
  rcases V with ⟨rfl, rfl, rfl⟩ | ⟨b, off, cap, ex', c, rfl, _, r3, r4, r5, r6, r7, r8, r9⟩
  · simp only [Nat.zero_add] at hroom ⊢
    rw [if_pos hroom, q3]
    simp
  · rw [ho b c r4 rfl]
    simp only
    have hnc : n * sz ≤ cap * sz := Nat.mul_le_mul_right _ r7
    rw [if_neg (by
      rw [q3, r8]
      rintro (h | h | h | h)
      · exact h rfl
      · exact h rfl
      · omega
      · rw [r9] at h; cases h), if_pos hroom, r8]
/-- Two blocks are taken out. -/
theorem takeTwo {h : Heap} {sz1 n1 sz2 n2 : Nat} {v1 v2 : AV} {l1 l2 : List AV} (V1 : Mine sz1 n1 h v1 l1) (V2 : Mine sz2 n2 h v2 l2) (ap : ∀ d, Has v1 d → ¬ Has v2 d) {i j : Nat} (hij : i ≠ j) :
    ∃ own h0, takeOwn (own1 i v1 ++ own1 j v2) h = some (own, h0) ∧ h0.next = h.next ∧ (∀ d, ¬ Has v1 d → ¬ Has v2 d → h0.get d = h.get d) ∧
      (∀ b c, h.get b = some (.cells c false) → Has v1 b → ownFind i own = some (b, c)) ∧ (∀ b c, h.get b = some (.cells c false) → Has v2 b → ownFind j own = some (b, c)) := by
  have bji : Nat.beq j i = false := nbeq_ne (Ne.symm hij)
  rcases V1 with ⟨rfl, rfl, rfl⟩ | ⟨b1, off1, cap1, ex1, c1, rfl, _, _, r1, _⟩
  · rcases V2 with ⟨rfl, rfl, rfl⟩ | ⟨b2, off2, cap2, ex2, c2, rfl, _, _, s1, _⟩
    · exact ⟨[], h, rfl, rfl, fun _ _ _ => rfl, (fun b c _ q => by cases q), (fun b c _ q => by cases q)⟩
    · refine ⟨[(j, b2, c2)], h.kill b2, by simp [own1, takeOwn, s1], rfl, fun d _ hd => ?_, (fun b c _ q => by cases q), fun b c hb q => ?_⟩
      · rw [Heap.get_kill, if_neg (fun q => hd (by rw [← q]; rfl))]
      · cases q
        rw [s1] at hb; cases hb
        simp [ownFind]
  · rcases V2 with ⟨rfl, rfl, rfl⟩ | ⟨b2, off2, cap2, ex2, c2, rfl, _, _, s1, _⟩
    · refine ⟨[(i, b1, c1)], h.kill b1, by simp [own1, takeOwn, r1], rfl, fun d hd _ => ?_, fun b c hb q => ?_, (fun b c _ q => by cases q)⟩
      · rw [Heap.get_kill, if_neg (fun q => hd (by rw [← q]; rfl))]
      · cases q
        rw [r1] at hb; cases hb
        simp [ownFind]
    · have hne : ¬ b1 = b2 := fun q => ap b1 rfl (by rw [q]; rfl)
      refine ⟨[(i, b1, c1), (j, b2, c2)], (h.kill b1).kill b2, by simp [own1, takeOwn, r1, s1, Heap.get_kill, hne], rfl, fun d hd hd' => ?_, fun b c hb q => ?_, fun b c hb q => ?_⟩
      · rw [Heap.get_kill, if_neg (fun q => hd' (by rw [← q]; rfl)), Heap.get_kill, if_neg (fun q => hd (by rw [← q]; rfl))]
      · cases q
        rw [r1] at hb; cases hb
        simp [ownFind]
      · cases q
        rw [s1] at hb; cases hb
        simp [ownFind, hne, bji, Ne.symm hij]
/-- A block with all its cells, as a slice. -/
theorem Mine.whole {h : Heap} {b sz n : Nat} {c : List AV} (hg : h.get b = some (.cells c false)) (hb : b < h.next) (hl : c.length = n * sz) (ho : c.all AV.one = true) (ex : Bool) : Mine sz n h (.sl b 0 n n sz ex) c :=
  .inr ⟨b, 0, n, ex, c, rfl, .inl rfl, hb, hg, hl, by omega, Nat.le_refl _, by rw [List.drop_zero, ← hl, List.take_length], ho⟩
@[simp] theorem get_at_add (h : Heap) (base i c : Nat) (o : AO) : (h.at_ (base + i) o).get (base + c) = if i = c then some o else h.get (base + c) := by
  rw [Heap.get_at]
  by_cases q : i = c
  · rw [if_pos (by omega), if_pos q]
  · rw [if_neg (by omega), if_neg q]
theorem get_at_lt {h : Heap} {base i c : Nat} {o : AO} (hc : c < base) : (h.at_ (base + i) o).get c = h.get c := by
  rw [Heap.get_at, if_neg (by omega)]
/-- An element is cut out, into new memory. -/
theorem Mine.cutK {P : Program} {st e : TypeId} {sz by_ n : Nat} (E : Elem P st e sz by_) {h : Heap} {v : AV} {l : List AV} (V : Mine sz n h v l) {j : Nat} (hj : j < n) (hn : n < 1000000000) :
    ∃ s1 s2 w1 h1 w2 h2, aslice P st v none (some (.int .i64 (j : Nat))) none = some s1 ∧ aappend P (h.new (.cells [] false)) st st (.sl h.next 0 0 0 sz true) s1 = some (w1, h1) ∧
      aslice P st v (some (.int .i64 ((j : Int) + 1))) none none = some s2 ∧ aappend P h1 st st w1 s2 = some (w2, h2) ∧ Mine sz (n - 1) h2 w2 (l.take (j * sz) ++ l.drop ((j + 1) * sz)) ∧ Keep h.next nob h h2 ∧ (∀ d, Has w2 d → h.next ≤ d) ∧ Keep h.next nob h h1 := by
  obtain ⟨ei, zv, q1, q2, q3, q4, q5⟩ := E.info
  have hs : tsize P e = some sz := by unfold tsize; rw [q1, ← q3]; rfl
  have hl := V.length
  have hjs : (j + 1) * sz ≤ n * sz := Nat.mul_le_mul_right _ hj
  have hjs' : j * sz ≤ n * sz := Nat.mul_le_mul_right _ (by omega)
  have ok : okApp (P.underlying st) = true := by rw [E.und]; rfl
  have V0 : Mine sz 0 (h.new (.cells [] false)) (.sl h.next 0 0 0 sz true) [] := by
    have := Mine.new (sz := sz) (n := 0) (m := 0) h [] (by simp) (Nat.le_refl _) (by simp) true
    simpa using this
  obtain ⟨s1, a1, S1⟩ := V.sl.to (P := P) (ty := st) E.und hs (k := .i64) (j := j) (by omega)
  have k0 : Keep h.next nob h (h.new (.cells [] false)) := Keep.new (Nat.le_refl _) _
  have S1' := S1.ext k0
  have o1 : (l.take (j * sz)).all AV.one = true := List.all_eq_true.2 fun x hx => List.all_eq_true.1 V.one x (List.mem_of_mem_take hx)
  obtain ⟨w1, h1, b1, b2, b3, b4⟩ := V0.append E ok S1'.alen S1'.acells o1 S1'.length (by omega)
  have k1 : Keep h.next nob h h1 := ⟨Nat.le_trans k0.1 b4.1, fun d hd _ => by rw [b4.2 d (Nat.lt_of_lt_of_le hd k0.1) (fun q => by cases q; omega), k0.2 d hd id]⟩
  have new1 : ∀ d, Has w1 d → h.next ≤ d := fun d hd => by
    rcases b3 d hd with z | z
    · cases z; exact Nat.le_refl _
    · exact Nat.le_trans k0.1 z
  obtain ⟨s2, c1, S2⟩ := V.sl.from (P := P) (ty := st) E.und hs (k := .i64) (j := j + 1) (by omega)
  have S2' := S2.ext k1
  have o2 : (l.drop ((j + 1) * sz)).all AV.one = true := List.all_eq_true.2 fun x hx => List.all_eq_true.1 V.one x (List.mem_of_mem_drop hx)
  obtain ⟨w2, h2, d1, d2, d3, d4⟩ := b2.append E ok S2'.alen S2'.acells o2 S2'.length (by omega)
  refine ⟨s1, s2, w1, h1, w2, h2, a1, b1, by simpa using c1, d1, ?_, ⟨Nat.le_trans k1.1 d4.1, fun d hd _ => ?_⟩, fun d hd => ?_, k1⟩
  · rw [show n - 1 = 0 + j + (n - (j + 1)) by omega]
    simpa using d2
  · rw [d4.2 d (Nat.lt_of_lt_of_le hd k1.1) (fun q => by have := new1 d q; omega), k1.2 d hd id]
  · rcases d3 d hd with z | z
    · exact new1 d z
    · exact Nat.le_trans k1.1 z
theorem Mine.cut {P : Program} {st e : TypeId} {sz by_ n : Nat} (E : Elem P st e sz by_) {h : Heap} {v : AV} {l : List AV} (V : Mine sz n h v l) {j : Nat} (hj : j < n) (hn : n < 1000000000) :
    ∃ s1 s2 w1 h1 w2 h2, aslice P st v none (some (.int .i64 (j : Nat))) none = some s1 ∧ aappend P (h.new (.cells [] false)) st st (.sl h.next 0 0 0 sz true) s1 = some (w1, h1) ∧
      aslice P st v (some (.int .i64 ((j : Int) + 1))) none none = some s2 ∧ aappend P h1 st st w1 s2 = some (w2, h2) ∧ Mine sz (n - 1) h2 w2 (l.take (j * sz) ++ l.drop ((j + 1) * sz)) ∧ Keep h.next nob h h2 ∧ ∀ d, Has w2 d → h.next ≤ d := by
  obtain ⟨s1, s2, w1, h1, w2, h2, a1, a2, a3, a4, a5, a6, a7, _⟩ := V.cutK E hj hn
  exact ⟨s1, s2, w1, h1, w2, h2, a1, a2, a3, a4, a5, a6, a7⟩
/-- An element that stands in a block is appended. -/
theorem Mine.pushB {P : Program} {st e : TypeId} {sz by_ n : Nat} (E : Elem P st e sz by_) {h : Heap} {v : AV} {l : List AV} (V : Mine sz n h v l) {B : Nat} {a : List AV} {ro : Bool} (g : h.get B = some (.cells a ro)) (x3 : a.all AV.one = true) (x4 : a.length = sz) (hf : n < 1000000000) {ex : Bool} {k : Nat} :
    ∃ v' h', aappend P h st st v (.sl B 0 1 k sz ex) = some (v', h') ∧ Mine sz (n + 1) h' v' (l ++ a) ∧ From h v v' ∧ Keep h.next (Has v) h h' :=
  V.append E (xt := st) (by rw [E.und]; rfl) (x := .sl B 0 1 k sz ex) (k := 1) (new := a) rfl (by simp [acells, Heap.row, g, x4]; rw [← x4, List.take_length]) x3 (by simp [x4]) (by omega)
/-- Two appends one behind the other, each of an element that was made late. -/
theorem push2 {P : Program} {st1 e1 st2 e2 : TypeId} {sz1 by1 n1 sz2 by2 n2 : Nat} (E1 : Elem P st1 e1 sz1 by1) (E2 : Elem P st2 e2 sz2 by2) {h : Heap} {v1 v2 : AV} {l1 l2 : List AV} (V1 : Mine sz1 n1 h v1 l1) (V2 : Mine sz2 n2 h v2 l2) (ap : ∀ d, Has v1 d → ¬ Has v2 d)
    {a1 a2 : List AV} (x1 : a1.all AV.one = true) (y1 : a1.length = sz1) (x2 : a2.all AV.one = true) (y2 : a2.length = sz2) (f1 : n1 < 1000000000) (f2 : n2 < 1000000000) (r p q : Nat) (hp : p < r) (hq : q < r) :
    ∃ v1' h4 v2' h5, aappend P ((h.bump r).at_ (h.next + p) (.cells a1 false)) st1 st1 v1 (.sl (h.next + p) 0 1 1 sz1 true) = some (v1', h4) ∧ nextOk h.next r h4 = true ∧
      (∀ G : Nat → Prop, (∀ c, G c → c < h.next ∧ ¬ Has v1 c) → AgreeG G ((h.bump r).at_ (h.next + p) (.cells a1 false)) h4) ∧ Keep h.next (Has v1) h h4 ∧
      aappend P (h4.at_ (h.next + q) (.cells a2 false)) st2 st2 v2 (.sl (h.next + q) 0 1 1 sz2 true) = some (v2', h5) ∧ nextOk h.next r h5 = true ∧
      (∀ G : Nat → Prop, (∀ c, G c → c < h.next ∧ ¬ Has v2 c) → AgreeG G (h4.at_ (h.next + q) (.cells a2 false)) h5) ∧
      Mine sz1 (n1 + 1) h5 v1' (l1 ++ a1) ∧ Mine sz2 (n2 + 1) h5 v2' (l2 ++ a2) ∧ Keep h.next (fun d => Has v1 d ∨ Has v2 d) h h5 ∧ From h v1 v1' ∧ From h v2 v2' ∧ (∀ d, Has v1' d → ¬ Has v2' d) ∧ v1'.one = true ∧ v2'.one = true := by
  have kA : Keep h.next nob h ((h.bump r).at_ (h.next + p) (.cells a1 false)) := ⟨Nat.le_add_right _ _, fun c hc _ => by rw [get_at_lt hc]; rfl⟩
  have nA : ((h.bump r).at_ (h.next + p) (.cells a1 false)).next = h.next + r := rfl
  have gA : ((h.bump r).at_ (h.next + p) (.cells a1 false)).get (h.next + p) = some (.cells a1 false) := by rw [Heap.get_at, if_pos rfl]
  generalize (h.bump r).at_ (h.next + p) (.cells a1 false) = hA at *
  obtain ⟨v1', h4, e1, m1, fr1, k1⟩ := (V1.ext kA).pushB E1 gA x1 y1 f1 (ex := true) (k := 1)
  have n4 := k1.1
  have K4 : Keep h.next (Has v1) h h4 := ⟨by omega, fun d hd hn => by rw [k1.2 d (by omega) hn, kA.2 d hd id]⟩
  have kB : Keep (h.next + q) nob h4 (h4.at_ (h.next + q) (.cells a2 false)) := ⟨Nat.le_refl _, fun c hc _ => by rw [Heap.get_at, if_neg (by omega)]⟩
  have nB : (h4.at_ (h.next + q) (.cells a2 false)).next = h4.next := rfl
  have gB : (h4.at_ (h.next + q) (.cells a2 false)).get (h.next + q) = some (.cells a2 false) := by rw [Heap.get_at, if_pos rfl]
  have oB : ∀ c, c ≠ h.next + q → (h4.at_ (h.next + q) (.cells a2 false)).get c = h4.get c := fun c hc => by rw [Heap.get_at, if_neg (fun z => hc z.symm)]
  obtain ⟨hB, eB⟩ : ∃ hB, h4.at_ (h.next + q) (.cells a2 false) = hB := ⟨_, rfl⟩
  rw [eB] at kB nB gB oB
  have K4B : Keep h.next (Has v1) h hB := ⟨by omega, fun d hd hn => by rw [kB.2 d (by omega) id, K4.2 d hd hn]⟩
  have V2B : Mine sz2 n2 hB v2 l2 := V2.keep K4B fun d hd z => ap d z hd
  obtain ⟨v2', h5, e2, m2, fr2, k2⟩ := V2B.pushB E2 gB x2 y2 f2 (ex := true) (k := 1)
  have n5 := k2.1
  have fr1' : From h v1 v1' := fun c hc => by
    rcases fr1 c hc with z | z
    · exact .inl z
    · exact .inr (by omega)
  have fr2' : From h v2 v2' := fun c hc => by
    rcases fr2 c hc with z | z
    · exact .inl z
    · exact .inr (by omega)
  have hq' : ∀ c, Has v1' c → c ≠ h.next + q := fun c hc z => by
    rcases fr1 c hc with w | w
    · have := V1.lt w; omega
    · omega
  have m1B : Mine sz1 (n1 + 1) hB v1' (l1 ++ a1) := by
    refine m1.keep (F := fun c => c = h.next + q) ⟨by omega, fun c _ hc => oB c hc⟩ hq'
  have m15 : Mine sz1 (n1 + 1) h5 v1' (l1 ++ a1) := m1B.keep k2 fun d hd z => by
    rcases fr1' d hd with w | w
    · exact ap d w z
    · have := V2.lt z; omega
  rw [← eB] at e2 k2
  refine ⟨v1', h4, v2', h5, e1, ?_, fun G hG c hc => ?_, K4, e2, ?_, fun G hG c hc => ?_, m15, m2, ⟨by omega, fun d hd hn => ?_⟩, fr1', fr2', fun d hd z => ?_, m1.oneV, m2.oneV⟩
  · unfold nextOk
    split
    · rfl
    · exact Nat.ble_eq_true_of_le (by omega)
  · obtain ⟨c1, c2⟩ := hG c hc
    exact k1.2 c (by omega) c2
  · unfold nextOk
    split
    · rfl
    · exact Nat.ble_eq_true_of_le (by omega)
  · obtain ⟨c1, c2⟩ := hG c hc
    exact k2.2 c (by rw [eB]; omega) c2
  · rw [eB] at k2
    rw [k2.2 d (by omega) (fun z => hn (.inr z)), K4B.2 d hd (fun z => hn (.inl z))]
  · rcases fr2 d z with w | w
    · rcases fr1' d hd with y | y
      · exact ap d y w
      · have := V2.lt w; omega
    · have := m1.lt hd; omega
end Go.YtcgafaecdjbmiaaAbs
