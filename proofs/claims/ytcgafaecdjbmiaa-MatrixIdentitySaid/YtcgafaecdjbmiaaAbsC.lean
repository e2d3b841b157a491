/- How the abstract machine's values and heap stand to the model's. -/
import Derived.Test.YtcgafaecdjbmiaaAbsB
namespace Go.YtcgafaecdjbmiaaAbs
open Go Go.RowKit

/-- Where a block lies: its block in the model, its first cell, and how many cells there are. -/
structure MB where
  B : Nat
  δ : Nat
  ext : Nat
abbrev Mp := Nat → Option MB
def Le (m m' : Mp) : Prop := ∀ b x, m b = some x → m' b = some x
theorem Le.refl (m : Mp) : Le m m := fun _ _ h => h
theorem Le.trans {a b c : Mp} (h : Le a b) (k : Le b c) : Le a c := fun x y e => k x y (h x y e)

mutual
def VR (m : Mp) : AV → Value → Prop
  | .bad, _ => True
  | .bool b, v => v = .bool b
  | .int k n, v => v = .int k n
  | .str s, v => v = .string s
  | .nilp, v => v = .pointer none
  | .ptr b i, v => ∃ x, m b = some x ∧ v = .pointer (some ⟨x.B, x.δ + i, none⟩)
  | .nils, v => v = .slice none 0 0
  | .emp, v => ∃ a c, v = .slice (some a) 0 c
  | .sl b i len cap sz ex, v => ∃ x c, m b = some x ∧ v = .slice (some ⟨x.B, x.δ + i, none⟩) len c ∧ cap ≤ c ∧ len ≤ cap ∧ (ex = true → c = cap) ∧ i + c * sz ≤ x.ext
  | .nilm, v => v = .map none
  | .mp b, v => ∃ x, m b = some x ∧ v = .map (some x.B)
  | .nilf, v => v = .nilFunc
  | .fn f cs, v => ∃ vs, v = .func (.func f) #[] ⟨vs⟩ ∧ VRs m cs vs
  | .nili, v => v = .nilIface
  | .agg l, v => ∃ vs, v = .agg ⟨vs⟩ ∧ VRs m l vs
  | .tup l, v => ∃ vs, v = .tuple ⟨vs⟩ ∧ VRs m l vs
def VRs (m : Mp) : List AV → List Value → Prop
  | [], vs => vs = []
  | a :: l, vs => ∃ v r, vs = v :: r ∧ VR m a v ∧ VRs m l r
end

mutual
theorem VR.mono {m m' : Mp} (h : Le m m') : ∀ (a : AV) (v : Value), VR m a v → VR m' a v
  | .bad, _, _ => by simp [VR]
  | .bool _, _, q => by simpa [VR] using q
  | .int _ _, _, q => by simpa [VR] using q
  | .str _, _, q => by simpa [VR] using q
  | .nilp, _, q => by simpa [VR] using q
  | .ptr b i, v, q => by
    simp only [VR] at q ⊢
    obtain ⟨x, e, r⟩ := q
    exact ⟨x, h _ _ e, r⟩
  | .nils, _, q => by simpa [VR] using q
  | .emp, _, q => by simpa [VR] using q
  | .sl b i len cap sz ex, v, q => by
    simp only [VR] at q ⊢
    obtain ⟨x, c, e, r⟩ := q
    exact ⟨x, c, h _ _ e, r⟩
  | .nilm, _, q => by simpa [VR] using q
  | .mp b, v, q => by
    simp only [VR] at q ⊢
    obtain ⟨x, e, r⟩ := q
    exact ⟨x, h _ _ e, r⟩
  | .nilf, _, q => by simpa [VR] using q
  | .fn f cs, v, q => by
    simp only [VR] at q ⊢
    obtain ⟨vs, e, r⟩ := q
    exact ⟨vs, e, VRs.mono h cs vs r⟩
  | .nili, _, q => by simpa [VR] using q
  | .agg l, v, q => by
    simp only [VR] at q ⊢
    obtain ⟨vs, e, r⟩ := q
    exact ⟨vs, e, VRs.mono h l vs r⟩
  | .tup l, v, q => by
    simp only [VR] at q ⊢
    obtain ⟨vs, e, r⟩ := q
    exact ⟨vs, e, VRs.mono h l vs r⟩
theorem VRs.mono {m m' : Mp} (h : Le m m') : ∀ (l : List AV) (vs : List Value), VRs m l vs → VRs m' l vs
  | [], vs, q => by simpa [VRs] using q
  | a :: l, vs, q => by
    simp only [VRs] at q ⊢
    obtain ⟨v, r, e, q1, q2⟩ := q
    exact ⟨v, r, e, VR.mono h a v q1, VRs.mono h l r q2⟩
end

theorem VRs.nil {m : Mp} : VRs m [] [] := by simp [VRs]
theorem VRs.cons {m : Mp} {a : AV} {v : Value} {l : List AV} {vs : List Value} (h : VR m a v) (k : VRs m l vs) : VRs m (a :: l) (v :: vs) := by
  simp only [VRs]; exact ⟨v, vs, rfl, h, k⟩
theorem VRs.length {m : Mp} : ∀ {l : List AV} {vs : List Value}, VRs m l vs → vs.length = l.length
  | [], vs, h => by simp only [VRs] at h; subst h; rfl
  | a :: l, vs, h => by
    simp only [VRs] at h
    obtain ⟨v, r, rfl, _, q⟩ := h
    simp [VRs.length q]
theorem VRs.get {m : Mp} : ∀ {l : List AV} {vs : List Value}, VRs m l vs → ∀ (i : Nat) (a : AV), l[i]? = some a → ∃ v, vs[i]? = some v ∧ VR m a v
  | [], vs, h, i, a, e => by simp at e
  | b :: l, vs, h, i, a, e => by
    simp only [VRs] at h
    obtain ⟨v, r, rfl, q1, q2⟩ := h
    cases i with
    | zero => simp at e; subst e; exact ⟨v, by simp, q1⟩
    | succ i => simp at e; simpa using VRs.get q2 i a e
theorem VRs.of_get {m : Mp} : ∀ {l : List AV} {vs : List Value}, vs.length = l.length → (∀ (i : Nat) (a : AV) (v : Value), l[i]? = some a → vs[i]? = some v → VR m a v) → VRs m l vs
  | [], vs, h, _ => by simp at h; subst h; exact VRs.nil
  | b :: l, [], h, _ => by simp at h
  | b :: l, v :: vs, h, q => VRs.cons (q 0 b v (by simp) (by simp)) (VRs.of_get (by simpa using h) (fun i a w ha hw => q (i + 1) a w (by simpa using ha) (by simpa using hw)))
theorem VRs.append {m : Mp} : ∀ {l l' : List AV} {vs vs' : List Value}, VRs m l vs → VRs m l' vs' → VRs m (l ++ l') (vs ++ vs')
  | [], l', vs, vs', h, k => by simp only [VRs] at h; subst h; simpa using k
  | a :: l, l', vs, vs', h, k => by
    simp only [VRs] at h
    obtain ⟨v, r, rfl, q1, q2⟩ := h
    exact VRs.cons q1 (VRs.append q2 k)
theorem VRs.take {m : Mp} : ∀ {l : List AV} {vs : List Value} (n : Nat), VRs m l vs → VRs m (l.take n) (vs.take n)
  | [], vs, n, h => by simp only [VRs] at h; subst h; simpa using VRs.nil
  | a :: l, vs, 0, h => by simpa using VRs.nil
  | a :: l, vs, n + 1, h => by
    simp only [VRs] at h
    obtain ⟨v, r, rfl, q1, q2⟩ := h
    exact VRs.cons q1 (VRs.take n q2)
theorem VRs.drop {m : Mp} : ∀ {l : List AV} {vs : List Value} (n : Nat), VRs m l vs → VRs m (l.drop n) (vs.drop n)
  | [], vs, n, h => by simp only [VRs] at h; subst h; simpa using VRs.nil
  | a :: l, vs, 0, h => by simpa using h
  | a :: l, vs, n + 1, h => by
    simp only [VRs] at h
    obtain ⟨v, r, rfl, q1, q2⟩ := h
    simpa using VRs.drop n q2
theorem VRs.replicate {m : Mp} {a : AV} {v : Value} (h : VR m a v) : ∀ n, VRs m (List.replicate n a) (List.replicate n v)
  | 0 => VRs.nil
  | n + 1 => VRs.cons h (VRs.replicate h n)
theorem VRs.flat {m : Mp} {l : List AV} {vs : List Value} (h : VRs m l vs) : ∀ n, VRs m (List.replicate n l).flatten (List.replicate n vs).flatten
  | 0 => by simpa using VRs.nil
  | n + 1 => by simp only [List.replicate_succ, List.flatten_cons]; exact VRs.append h (VRs.flat h n)

mutual
theorem VR.ofV (m : Mp) : ∀ v : Value, VR m (ofV v) v
  | .bool _ => by simp [YtcgafaecdjbmiaaAbs.ofV, VR]
  | .int _ _ => by simp [YtcgafaecdjbmiaaAbs.ofV, VR]
  | .string _ => by simp [YtcgafaecdjbmiaaAbs.ofV, VR]
  | .pointer none => by simp [YtcgafaecdjbmiaaAbs.ofV, VR]
  | .pointer (some _) => by simp [YtcgafaecdjbmiaaAbs.ofV, VR]
  | .slice none 0 0 => by simp [YtcgafaecdjbmiaaAbs.ofV, VR]
  | .slice none 0 (_ + 1) => by simp [YtcgafaecdjbmiaaAbs.ofV, VR]
  | .slice none (_ + 1) _ => by simp [YtcgafaecdjbmiaaAbs.ofV, VR]
  | .slice (some _) _ _ => by simp [YtcgafaecdjbmiaaAbs.ofV, VR]
  | .map none => by simp [YtcgafaecdjbmiaaAbs.ofV, VR]
  | .map (some _) => by simp [YtcgafaecdjbmiaaAbs.ofV, VR]
  | .nilFunc => by simp [YtcgafaecdjbmiaaAbs.ofV, VR]
  | .nilIface => by simp [YtcgafaecdjbmiaaAbs.ofV, VR]
  | .agg ⟨cs⟩ => by simp only [YtcgafaecdjbmiaaAbs.ofV, VR]; exact ⟨cs, rfl, VRs.ofVs m cs⟩
  | .tuple ⟨cs⟩ => by simp only [YtcgafaecdjbmiaaAbs.ofV, VR]; exact ⟨cs, rfl, VRs.ofVs m cs⟩
  | .float _ _ => by simp [YtcgafaecdjbmiaaAbs.ofV, VR]
  | .complex _ _ _ => by simp [YtcgafaecdjbmiaaAbs.ofV, VR]
  | .chan _ => by simp [YtcgafaecdjbmiaaAbs.ofV, VR]
  | .func _ _ _ => by simp [YtcgafaecdjbmiaaAbs.ofV, VR]
  | .iface _ _ => by simp [YtcgafaecdjbmiaaAbs.ofV, VR]
theorem VRs.ofVs (m : Mp) : ∀ vs : List Value, VRs m (ofVs vs) vs
  | [] => by simp [YtcgafaecdjbmiaaAbs.ofVs, VRs]
  | v :: r => by simp only [YtcgafaecdjbmiaaAbs.ofVs]; exact VRs.cons (VR.ofV m v) (VRs.ofVs m r)
end

mutual
theorem VR.val {m : Mp} : ∀ (a : AV) (v u : Value), VR m a v → a.val? = some u → v = u
  | .bad, _, _, _, h => by simp [AV.val?] at h
  | .bool _, _, _, q, h => by simp [AV.val?] at h; simp [VR] at q; subst h; exact q
  | .int _ _, _, _, q, h => by simp [AV.val?] at h; simp [VR] at q; subst h; exact q
  | .str _, _, _, q, h => by simp [AV.val?] at h; simp [VR] at q; subst h; exact q
  | .nilp, _, _, q, h => by simp [AV.val?] at h; simp [VR] at q; subst h; exact q
  | .ptr _ _, _, _, _, h => by simp [AV.val?] at h
  | .nils, _, _, q, h => by simp [AV.val?] at h; simp [VR] at q; subst h; exact q
  | .emp, _, _, _, h => by simp [AV.val?] at h
  | .sl .., _, _, _, h => by simp [AV.val?] at h
  | .nilm, _, _, q, h => by simp [AV.val?] at h; simp [VR] at q; subst h; exact q
  | .mp _, _, _, _, h => by simp [AV.val?] at h
  | .nilf, _, _, q, h => by simp [AV.val?] at h; simp [VR] at q; subst h; exact q
  | .fn .., _, _, _, h => by simp [AV.val?] at h
  | .nili, _, _, q, h => by simp [AV.val?] at h; simp [VR] at q; subst h; exact q
  | .agg l, v, u, q, h => by
    simp only [AV.val?, Option.map_eq_some_iff] at h
    obtain ⟨us, h1, rfl⟩ := h
    simp only [VR] at q
    obtain ⟨vs, rfl, q⟩ := q
    rw [VRs.vals l vs us q h1]
  | .tup l, v, u, q, h => by
    simp only [AV.val?, Option.map_eq_some_iff] at h
    obtain ⟨us, h1, rfl⟩ := h
    simp only [VR] at q
    obtain ⟨vs, rfl, q⟩ := q
    rw [VRs.vals l vs us q h1]
theorem VRs.vals {m : Mp} : ∀ (l : List AV) (vs us : List Value), VRs m l vs → vals? l = some us → vs = us
  | [], vs, us, q, h => by simp [vals?] at h; simp [VRs] at q; subst h; exact q
  | a :: l, vs, us, q, h => by
    simp only [VRs] at q
    obtain ⟨v, r, rfl, q1, q2⟩ := q
    simp only [vals?] at h
    split at h
    · rename_i u us' h1 h2
      simp at h; subst h
      rw [VR.val a v u q1 h1, VRs.vals l r us' q2 h2]
    · cases h
end

/-- The value of a thing that stands in one cell stands in one cell. -/
theorem VR.one {m : Mp} {a : AV} {v : Value} (h : VR m a v) (k : a.one = true) : v.oneCell' = true := by
  cases a <;> simp only [AV.one, Bool.false_eq_true] at k <;> simp only [VR] at h <;> first
    | (subst h; rfl)
    | (obtain ⟨x, h1, rfl⟩ := h; rfl)
    | (obtain ⟨x, c, h1, rfl, h2⟩ := h; rfl)
    | (obtain ⟨x, c, rfl⟩ := h; rfl)
    | (obtain ⟨x, rfl, h1⟩ := h; rfl)
theorem VR.cells1 {v : Value} (h : v.oneCell' = true) : v.cells = #[v] := by
  cases v <;> first | rfl | (simp [Value.oneCell'] at h)
theorem VRs.one {m : Mp} : ∀ {l : List AV} {vs : List Value}, VRs m l vs → l.all AV.one = true → ∀ v ∈ vs, v.oneCell' = true
  | [], vs, h, _, v, hv => by simp only [VRs] at h; subst h; cases hv
  | a :: l, vs, h, k, v, hv => by
    simp only [VRs] at h
    obtain ⟨u, r, rfl, q1, q2⟩ := h
    simp only [List.all_cons, Bool.and_eq_true] at k
    cases hv with
    | head => exact q1.one k.1
    | tail _ hv => exact VRs.one q2 k.2 v hv
/-- A value's cells. -/
theorem VR.row {m : Mp} {a : AV} {v : Value} (h : VR m a v) {l : List AV} (k : a.row1 = some l) : VRs m l v.cells.toList ∧ l.all AV.one = true := by
  unfold AV.row1 at k
  split at k
  · rename_i hall
    simp at k; subst k
    refine ⟨?_, hall⟩
    have key : ∀ b : AV, b.row = [b] → VR m b v → b.row.all AV.one = true → VRs m b.row v.cells.toList := by
      intro b hb hv ha
      rw [hb] at ha ⊢
      have h1 : b.one = true := by simpa using ha
      rw [VR.cells1 (hv.one h1)]
      exact VRs.cons hv VRs.nil
    cases a <;> first
      | exact key _ rfl h hall
      | (simp only [VR] at h; obtain ⟨vs, rfl, h⟩ := h; exact h)
  · cases k
theorem VR.row' {m : Mp} {a : AV} {v : Value} (h : VR m a v) (k : a.row.all AV.one = true) : VRs m a.row v.cells.toList :=
  (h.row (l := a.row) (by unfold AV.row1; rw [k])).1

def ERs (m : Mp) : List (AV × AV × Nat) → List MapEntry → Prop
  | [], vs => vs = []
  | (k, a, s) :: l, vs => ∃ e r, vs = e :: r ∧ VR m k e.key ∧ VR m a e.val ∧ e.born = s ∧ ERs m l r
theorem ERs.mono {m m' : Mp} (h : Le m m') : ∀ (l : List (AV × AV × Nat)) (vs : List MapEntry), ERs m l vs → ERs m' l vs
  | [], vs, q => q
  | (k, a, s) :: l, vs, q => by
    obtain ⟨e, r, rfl, q1, q2, q3, q4⟩ := q
    exact ⟨e, r, rfl, q1.mono h, q2.mono h, q3, ERs.mono h l r q4⟩

/-- A block that may be written. -/
def Wr (h : Heap) (b : Nat) : Prop := ∃ o, h.get b = some o ∧ ∀ c, o ≠ .cells c true

/-- Blocks of the model that stay as they are; numbers of blocks that are kept free. -/
structure Env where
  keep : Nat → Prop
  res : Nat → Prop
  rob : Nat → Prop
  rk : ∀ k, rob k → keep k

/-- Blocks in F are as they were; so are the streams; no block has gone. -/
structure Kept (F : Env) (w w' : World) : Prop where
  os : w'.os = w.os
  tape : w'.tape = w.tape
  output : w'.output = w.output
  size : w.heap.size ≤ w'.heap.size
  block : ∀ k, F.keep k → w'.heap[k]? = w.heap[k]?
theorem Kept.refl (F : Env) (w : World) : Kept F w w := ⟨rfl, rfl, rfl, Nat.le_refl _, fun _ _ => rfl⟩
theorem Kept.trans {F : Env} {a b c : World} (h : Kept F a b) (k : Kept F b c) : Kept F a c :=
  ⟨k.os.trans h.os, k.tape.trans h.tape, k.output.trans h.output, Nat.le_trans h.size k.size, fun i hi => (k.block i hi).trans (h.block i hi)⟩
theorem Kept.mono {F G : Env} {w w' : World} (h : Kept G w w') (hF : ∀ k, F.keep k → G.keep k) : Kept F w w' := ⟨h.os, h.tape, h.output, h.size, fun k hk => h.block k (hF k hk)⟩
theorem Kept.drew {F : Env} {a w : World} (h : Kept F a w) : Kept F a w.drew := ⟨h.os, h.tape, h.output, h.size, h.block⟩
theorem Kept.alloc {F : Env} {a w : World} (h : Kept F a w) (hF : ∀ k, F.keep k → k < w.heap.size) (o : Obj) : Kept F a (w.alloc o) :=
  h.trans ⟨rfl, rfl, rfl, by simp, fun k hk => Below.heap_alloc _ _ _ (hF k hk)⟩
theorem Kept.setCell {F : Env} {a w : World} (h : Kept F a w) {p : Addr} (hp : ¬ F.keep p.block) (u : Value) : Kept F a (w.setCell p u) :=
  h.trans ⟨rfl, rfl, rfl, by simp [World.setCell], fun k hk => Below.heap_setCell _ _ _ _ (fun q => hp (q ▸ hk))⟩

structure HR (F : Env) (w0 : World) (m : Mp) (h : Heap) (w : World) : Prop where
  below : Kept F w0 w
  dom : ∀ k, F.keep k → k < w.heap.size
  cells : ∀ b c ro, h.get b = some (.cells c ro) → ∃ x, m b = some x ∧ x.B < w.heap.size ∧ c.length ≤ x.ext ∧
    (∀ i a, c[i]? = some a → ∃ v, w.cell? ⟨x.B, x.δ + i, none⟩ = some v ∧ VR m a v) ∧
    (ro = true → F.rob x.B) ∧
    (ro = false → ¬ F.keep x.B ∧ ∀ i, i < x.ext → w.frozen? ⟨x.B, x.δ + i, none⟩ = false ∧ (w.cell? ⟨x.B, x.δ + i, none⟩).isSome = true)
  maps : ∀ b es cl, h.get b = some (.map es cl) → ∃ x vs, m b = some x ∧ ¬ F.keep x.B ∧ w.heap[x.B]? = some (.map vs cl) ∧ ERs m es vs.toList
  inj : ∀ b b' x x', Wr h b → Wr h b' → m b = some x → m b' = some x' → x.B = x'.B → b = b'
  fresh : ∀ b, h.next ≤ b → h.get b = none ∧ m b = none
  res : ∀ b, F.res b → b < h.next ∧ h.get b = none ∧ m b = none

/-- The slots. -/
def TR (m : Mp) (n : Nat) (t : Tr AV) (tmps : Array Value) : Prop := tmps.size = n ∧ ∀ i a, t.get i = some a → i < n ∧ VR m a (tmps.getD i undef)

theorem TR.mono {m m' : Mp} (h : Le m m') {n : Nat} {t : Tr AV} {tmps : Array Value} (k : TR m n t tmps) : TR m' n t tmps :=
  ⟨k.1, fun i a e => ⟨(k.2 i a e).1, (k.2 i a e).2.mono h⟩⟩

theorem TR.ev {m : Mp} {n : Nat} {t : Tr AV} {a : Act} (h : TR m n t a.tmps) (x : Operand) : VR m (YtcgafaecdjbmiaaAbs.ev t x) (a.eval x) := by
  cases x with
  | tmp i =>
    simp only [YtcgafaecdjbmiaaAbs.ev, Act.eval]
    split
    · rename_i v hv; exact (h.2 i v hv).2
    · simp [VR]
  | const v => exact VR.ofV m v
  | global g => simp [YtcgafaecdjbmiaaAbs.ev, VR]
  | func f => simp only [YtcgafaecdjbmiaaAbs.ev, Act.eval, VR]; exact ⟨[], rfl, VRs.nil⟩

theorem TR.put {m : Mp} {n : Nat} {t t' : Tr AV} {a : Act} (h : TR m n t a.tmps) {d : Option Tmp} {u : AV} {v : Value} (e : YtcgafaecdjbmiaaAbs.put n t d u = some t') (hv : VR m u v) : TR m n t' (a.put d v).tmps := by
  cases d with
  | none => simp only [YtcgafaecdjbmiaaAbs.put, Option.some.injEq] at e; subst e; exact h
  | some d =>
    simp only [YtcgafaecdjbmiaaAbs.put] at e
    split at e
    · rename_i hd
      have hd : d < n := by simpa [Nat.blt_eq] using hd
      simp only [Option.some.injEq] at e; subst e
      refine ⟨by simp [Act.put, h.1], fun i b hi => ?_⟩
      rw [Tr.get_set] at hi
      simp only [Act.put]
      by_cases hdi : d = i
      · subst hdi
        simp only [if_true, Option.some.injEq] at hi; subst hi
        refine ⟨hd, ?_⟩
        have : d < a.tmps.size := by rw [h.1]; exact hd
        simpa [Array.getD, this] using hv
      · rw [if_neg hdi] at hi
        refine ⟨(h.2 i b hi).1, ?_⟩
        have := (h.2 i b hi).2
        simp only [Array.getD_eq_getD_getElem?, Array.getElem?_setIfInBounds, if_neg hdi] at this ⊢
        exact this
    · cases e

end Go.YtcgafaecdjbmiaaAbs
