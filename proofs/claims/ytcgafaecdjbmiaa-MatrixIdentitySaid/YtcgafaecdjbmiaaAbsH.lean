/- Operations that look at memory and leave it alone. -/
import Derived.Test.YtcgafaecdjbmiaaAbsG
import Derived.Laws.BytesString
namespace Go.YtcgafaecdjbmiaaAbs
open Go Go.RowKit

theorem cells_list {m : Mp} {w : World} {B o : Nat} : ∀ (l : List AV), (∀ j a, l[j]? = some a → ∃ v, w.cell? ⟨B, o + j, none⟩ = some v ∧ VR m a v) →
    ∃ vs, VRs m l vs ∧ ∀ j v, vs[j]? = some v → w.cell? ⟨B, o + j, none⟩ = some v := by
  intro l
  induction l generalizing o with
  | nil => exact fun _ => ⟨[], VRs.nil, fun j v h => by simp at h⟩
  | cons a l ih =>
    intro h
    obtain ⟨v, h1, h2⟩ := h 0 a (by simp)
    obtain ⟨vs, q1, q2⟩ := ih (o := o + 1) (fun j b hb => by
      obtain ⟨u, r1, r2⟩ := h (j + 1) b (by simpa using hb)
      exact ⟨u, by rw [show o + 1 + j = o + (j + 1) by omega]; exact r1, r2⟩)
    refine ⟨v :: vs, VRs.cons h2 q1, fun j u hu => ?_⟩
    cases j with
    | zero => simp at hu; subst hu; simpa using h1
    | succ j =>
      have := q2 j u (by simpa using hu)
      rw [show o + 1 + j = o + (j + 1) by omega] at this
      exact this

section
variable {P : Program} {F : Env} {w0 : World} {m : Mp} {h : Heap} {w : World}

theorem cell_heap {w w2 : World} (h : w2.heap = w.heap) (a : Addr) : w2.cell? a = w.cell? a := by unfold World.cell?; rw [h]

theorem HR.row (H : HR F w0 m h w) {b : Nat} {c : List AV} (hb : h.row b = some c) {x : MB} (hx : m b = some x) (i n : Nat) (hin : i + n ≤ c.length) :
    ∃ vs, VRs m ((c.drop i).take n) vs ∧ vs.length = n ∧ ∀ w2 : World, w2.heap = w.heap → (loadCells ⟨x.B, x.δ + i, none⟩ n).run P w2 = .ok ⟨vs⟩ w2 := by
  unfold Heap.row at hb
  split at hb
  · rename_i c' ro hg
    simp only [Option.some.injEq] at hb; subst hb
    obtain ⟨y, h1, h2, h3, h4, _⟩ := H.cells b _ ro hg
    rw [hx] at h1; cases h1
    obtain ⟨vs, q1, q2⟩ := cells_list (m := m) (w := w) (B := x.B) (o := x.δ + i) ((c'.drop i).take n) (fun j a hj => by
      rw [List.getElem?_take] at hj
      split at hj
      · rw [List.getElem?_drop] at hj
        obtain ⟨v, r1, r2⟩ := h4 (i + j) a hj
        exact ⟨v, by rw [Nat.add_assoc]; exact r1, r2⟩
      · cases hj)
    have hl : vs.length = n := by rw [q1.length]; simp; omega
    refine ⟨vs, q1, hl, fun w2 hw2 => ?_⟩
    have := run_loadCells_list (P := P) (w := w2) ⟨x.B, x.δ + i, none⟩ vs (fun j v hv => by rw [addr_add, ← Nat.add_assoc, cell_heap hw2]; exact q2 j v hv)
    rw [hl] at this
    exact this
  · cases hb

theorem HR.cell (H : HR F w0 m h w) {b : Nat} {c : List AV} (hb : h.row b = some c) {x : MB} (hx : m b = some x) {i : Nat} {a : AV} (hi : c[i]? = some a) :
    ∃ v, w.cell? ⟨x.B, x.δ + i, none⟩ = some v ∧ VR m a v := by
  unfold Heap.row at hb
  split at hb
  · rename_i c' ro hg
    simp only [Option.some.injEq] at hb; subst hb
    obtain ⟨y, h1, h2, h3, h4, _⟩ := H.cells b _ ro hg
    rw [hx] at h1; cases h1
    exact h4 i a hi
  · cases hb

theorem aload_sound (H : HR F w0 m h w) {ty : TypeId} {b i : Nat} {u : AV} (e : aload P h ty b i = some u) {x : MB} (hx : m b = some x) :
    ∃ v, VR m u v ∧ (loadVar ty ⟨x.B, x.δ + i, none⟩).run P w = .ok v w := by
  unfold aload at e
  split at e
  · cases e
  rename_i c hc
  split at e
  · rename_i hg
    split at e
    · rename_i n hn
      split at e
      · rename_i hin
        simp only [Option.some.injEq] at e; subst e
        obtain ⟨vs, q1, _, q2⟩ := H.row (P := P) hc hx i n hin
        refine ⟨.agg ⟨vs⟩, by simp only [VR]; exact ⟨vs, rfl, q1⟩, ?_⟩
        simp only [loadVar, Sem.run_bind, run_isAgg hg, Result.andThen_ok, if_true, run_sizeOf hn, q2 w rfl, Sem.run_pure]
      · cases e
    · cases e
  · rename_i hg
    obtain ⟨v, q1, q2⟩ := H.cell hc hx e
    refine ⟨v, q2, ?_⟩
    simp only [loadVar, Sem.run_bind, run_isAgg hg, Result.andThen_ok, Bool.false_eq_true, if_false, run_load, q1]
  · cases e

theorem bytes_eq (a b : ByteArray) : (a == b) = decide (a = b) := by
  obtain ⟨x⟩ := a
  obtain ⟨y⟩ := b
  show (x == y) = _
  by_cases e : x = y
  · subst e; simp
  · simp [e]

def IsKey (kd : TypeDesc) (k : AV) : Prop := (∃ kk a n, kd = .int kk ∧ k = .int a n) ∨ (kd = .string ∧ ∃ s, k = .str s)

theorem keyEq_sound {kd : TypeDesc} {k k' : AV} {v v' : Value} {b : Bool} (hkd : IsKey kd k) (h : keyEq k k' = some b) (hk : VR m k v) (hk' : VR m k' v') :
    Instr.sameNow kd v v' = some b ∧ (b = true → v' = v) := by
  unfold keyEq at h
  split at h
  · rename_i a n c q
    rw [asInt_int hk, asInt_int hk']
    rcases hkd with ⟨kk, a', n', rfl, _⟩ | ⟨_, s, e⟩
    · split at h
      · rename_i hac
        subst hac
        simp only [Option.some.injEq] at h; subst h
        refine ⟨by simp only [Instr.sameNow, if_true]; congr 1, fun q => by simp at q; rw [q]⟩
      · cases h
    · cases e
  · rename_i a c
    simp only [VR] at hk hk'
    subst hk hk'
    rcases hkd with ⟨kk, a', n', _, e⟩ | ⟨rfl, s, e⟩
    · cases e
    · simp only [Option.some.injEq] at h; subst h
      refine ⟨by simp [Instr.sameNow, bytes_eq], fun q => by simp at q; rw [q]⟩
  · cases h

theorem afind_sound {k : AV} {kv : Value} (hk : VR m k kv) {kd : TypeDesc} (hkd : IsKey kd k) :
    ∀ (es : List (AV × AV × Nat)) (vs : List MapEntry) (i : Nat) (r : Option (Nat × AV × Nat)), ERs m es vs → afind k es i = some r →
      (r = none → Instr.findNow kd kv vs i = some none) ∧
      (∀ j v s, r = some (j, v, s) → ∃ u, VR m v u ∧ Instr.findNow kd kv vs i = some (some (j, u)) ∧ i ≤ j ∧ ∃ e, vs[j - i]? = some e ∧ e.born = s ∧ e.val = u ∧ e.key = kv ∧ ∃ k', es[j - i]? = some (k', v, s))
  | [], vs, i, r, he, hf => by
    simp only [ERs] at he; subst he
    simp only [afind, Option.some.injEq] at hf; subst hf
    exact ⟨fun _ => rfl, fun j v s q => (by cases q)⟩
  | (k', v', s') :: es, vs, i, r, he, hf => by
    simp only [ERs] at he
    obtain ⟨e, vs', rfl, he1, he2, he3, he4⟩ := he
    simp only [afind] at hf
    split at hf
    · rename_i hq
      obtain ⟨hs, hkey⟩ := keyEq_sound hkd hq hk he1
      simp only [Option.some.injEq] at hf; subst hf
      refine ⟨fun q => (by cases q), fun j v s q => ?_⟩
      cases q
      exact ⟨e.val, he2, by simp only [Instr.findNow, hs], Nat.le_refl _, e, by simp, he3, rfl, hkey rfl, k', by simp⟩
    · rename_i hq
      obtain ⟨hs, _⟩ := keyEq_sound hkd hq hk he1
      obtain ⟨ih1, ih2⟩ := afind_sound hk hkd es vs' (i + 1) r he4 hf
      refine ⟨fun q => by simp only [Instr.findNow, hs]; exact ih1 q, fun j v s q => ?_⟩
      obtain ⟨u, q1, q2, q3, e', q4, q5⟩ := ih2 j v s q
      have hj : j - i = (j - (i + 1)) + 1 := by omega
      refine ⟨u, q1, by simp only [Instr.findNow, hs]; exact q2, by omega, e', by rw [hj]; simpa using q4, q5.1, q5.2.1, q5.2.2.1, ?_⟩
      obtain ⟨k'', q6⟩ := q5.2.2.2
      exact ⟨k'', by rw [hj]; simpa using q6⟩
    · cases hf

theorem akey_sound {kt : TypeId} {k : AV} {kv : Value} (h : akey P kt k = true) (hk : VR m k kv) :
    ∃ kd, P.underlying kt = some kd ∧ IsKey kd k ∧ (∀ b w, (Instr.checkKey b 10000 kt kv).run P w = .ok () w) ∧ (∀ d, Instr.sameBits (d + 1) kv kv = true) := by
  unfold akey at h
  split at h
  · rename_i kk a n hu
    have := asInt_int hk
    subst this
    refine ⟨_, hu, .inl ⟨kk, a, n, rfl, rfl⟩, fun b w => ?_, fun d => by simp [Instr.sameBits]⟩
    show (Instr.checkKey b (9999 + 1) kt _).run P w = _
    rw [Instr.checkKey]
    simp only [Sem.run_bind, run_underlying hu, Result.andThen_ok]
    rfl
  · rename_i s hu
    simp only [VR] at hk
    subst hk
    refine ⟨_, hu, .inr ⟨rfl, s, rfl⟩, fun b w => ?_, fun d => by simp [Instr.sameBits, bytes_eq]⟩
    show (Instr.checkKey b (9999 + 1) kt _).run P w = _
    rw [Instr.checkKey]
    simp only [Sem.run_bind, run_underlying hu, Result.andThen_ok]
    rfl
  · cases h

theorem run_findKey {kt : TypeId} {kd : TypeDesc} (hu : P.underlying kt = some kd) {kv : Value} {vs : List MapEntry} {r : Option (Nat × Value)} (h : Instr.findNow kd kv vs 0 = some r) :
    (Instr.findKey kt kv vs).run P w = .ok r w := by
  simp only [Instr.findKey, Sem.run_bind, run_underlying hu, Result.andThen_ok, h, Sem.run_pure]

theorem abytes_sound : ∀ (l : List AV) (bs : List UInt8), abytes l = some bs → ∃ ns : List Int, (∀ vs, VRs m l vs → vs = ns.map (Value.int .u8)) ∧ bs = ns.map (fun n => UInt8.ofNat n.toNat)
  | [], bs, h => by
    simp only [abytes, Option.some.injEq] at h; subst h
    exact ⟨[], fun vs hv => by simpa [VRs] using hv, rfl⟩
  | a :: l, bs, h => by
    unfold abytes at h
    split at h
    · rename_i h0; cases h0
    · rename_i n l' h0
      cases h0
      split at h
      · rename_i bs' hb
        simp only [Option.some.injEq] at h; subst h
        obtain ⟨ns, h1, h2⟩ := abytes_sound l bs' hb
        refine ⟨n :: ns, fun vs hv => ?_, by simp [h2]⟩
        simp only [VRs] at hv
        obtain ⟨v, r, rfl, q1, q2⟩ := hv
        rw [asInt_int q1, h1 r q2]; rfl
      · cases h
    · cases h

theorem push_all (ns : List Int) : ∀ s : ByteArray, ns.foldl (fun r n => r.push (UInt8.ofNat n.toNat)) s = ⟨s.data ++ (ns.map fun n => UInt8.ofNat n.toNat).toArray⟩ := by
  induction ns with
  | nil => intro s; simp
  | cons n ns ih =>
    intro s
    rw [List.foldl_cons, ih]
    congr 1
    apply Array.ext'
    simp [ByteArray.push]

theorem run_zeroV {t : TypeId} {a : AV} (h : azerov P t = some a) : ∃ v, a = ofV v ∧ ∀ w, (zeroValue t).run P w = .ok v w := by
  unfold azerov at h
  split at h
  · rename_i i hi
    split at h
    · rename_i v hv
      simp only [Option.some.injEq] at h; subst h
      exact ⟨v, rfl, fun w => by simp [zeroValue, run_typeInfo hi, hv]⟩
    · cases h
  · cases h

theorem run_lookup {ty kt et : TypeId} {x k : Value} (ok : Bool) (hty : P.underlying ty = some (.map kt et)) {vs : Array MapEntry}
    (hx : (x = .map none ∧ vs = #[]) ∨ ∃ r cl, x = .map (some r) ∧ w.heap[r]? = some (.map vs cl)) (hck : (Instr.checkKey vs.isEmpty 10000 kt k).run P w = .ok () w) {r : Option (Nat × Value)}
    (hf : (Instr.findKey kt k vs.toList).run P w = .ok r w) {zv : Value} (hz : (zeroValue et).run P w = .ok zv w) :
    (Instr.lookup ty x k ok).run P w = .ok (match r with
      | some (_, v) => if ok then .tuple #[v, .bool true] else v
      | none => if ok then .tuple #[zv, .bool false] else zv) w := by
  rcases hx with ⟨rfl, rfl⟩ | ⟨q, cl, rfl, hq⟩
  · simp only [Instr.lookup, Sem.run_bind, run_underlying hty, Result.andThen_ok, Sem.run_pure, hck, hf]
    cases r with
    | none => simp only [Sem.run_bind, hz, Result.andThen_ok, Sem.run_pure]
    | some r => simp only [Sem.run_bind, Result.andThen_ok, Sem.run_pure]
  · simp only [Instr.lookup, Sem.run_bind, run_underlying hty, Result.andThen_ok, getObj, Sem.run, hq, Sem.run_pure, hck, hf]
    cases r with
    | none => simp only [Sem.run_bind, hz, Result.andThen_ok, Sem.run_pure]
    | some r => simp only [Sem.run_bind, Result.andThen_ok, Sem.run_pure]

theorem aread_sound (H : HR F w0 m h w) {t : Tr AV} {ρ : Operand → Value} {o : Oper} (hE : OR m t ρ o) {u : AV} (e : aread P t h o = some u) :
    ∃ v, VR m u v ∧ (execOp ρ o).run P w = .ok (.value v) w := by
  unfold aread at e
  split at e
  · rename_i ty x ho
    have hx := hE x (by simp [ho, Op.operands])
    split at e
    · rename_i b i hb
      rw [hb] at hx
      simp only [VR] at hx
      obtain ⟨xx, h1, h2⟩ := hx
      obtain ⟨v, q1, q2⟩ := aload_sound H e h1
      exact ⟨v, q1, by simp only [execOp, ho, Instr.loadAt, Instr.sureAddr, h2, Sem.run_bind, Sem.run_pure, Result.andThen_ok, q2]⟩
    · cases e
  · rename_i ty x k ok ho
    have hx := hE x (by simp [ho, Op.operands])
    have hk := hE k (by simp [ho, Op.operands])
    split at e
    · rename_i kt et hty
      split at e
      · rename_i z hak hz
        obtain ⟨kd, hu, hkd, hck, _⟩ := akey_sound hak hk
        obtain ⟨zv, hz1, hz2⟩ := run_zeroV hz
        split at e
        · cases e
        rename_i es hes
        have hvs : ∃ vs : Array MapEntry, ERs m es vs.toList ∧ ((ρ x = .map none ∧ vs = #[]) ∨ ∃ r cl, ρ x = .map (some r) ∧ w.heap[r]? = some (.map vs cl)) := by
          split at hes
          · rename_i hnil
            rw [hnil] at hx; simp only [VR] at hx
            simp only [Option.some.injEq] at hes; subst hes
            exact ⟨#[], rfl, .inl ⟨hx, rfl⟩⟩
          · rename_i b hb
            rw [hb] at hx; simp only [VR] at hx
            obtain ⟨xx, h1, h2⟩ := hx
            split at hes
            · rename_i es' cl hg
              simp only [Option.some.injEq] at hes; subst hes
              obtain ⟨y, vs, q1, q2, q3, q4⟩ := H.maps b _ cl hg
              rw [h1] at q1; cases q1
              exact ⟨vs, q4, .inr ⟨_, cl, h2, q3⟩⟩
            · cases hes
          · cases hes
        obtain ⟨vs, hvs1, hvs2⟩ := hvs
        split at e
        · cases e
        · rename_i j v s hr
          obtain ⟨f1, f2⟩ := afind_sound hk hkd es vs.toList 0 _ hvs1 hr
          simp only [Option.some.injEq] at e
          obtain ⟨uv, q1, q2, _⟩ := f2 j v s rfl
          have hf := run_findKey (P := P) (w := w) hu q2
          subst e
          refine ⟨if ok then .tuple #[uv, .bool true] else uv, ?_, ?_⟩
          · cases ok
            · exact q1
            · simp only [if_true, VR]; exact ⟨[uv, .bool true], rfl, VRs.cons q1 (VRs.cons (by simp [VR]) VRs.nil)⟩
          · have := run_lookup (ty := ty) (et := et) ok hty hvs2 (hck _ w) hf (hz2 w)
            simp only [execOp, ho, Sem.run_bind, this, Result.andThen_ok, Sem.run_pure]
        · rename_i hr
          obtain ⟨f1, f2⟩ := afind_sound hk hkd es vs.toList 0 _ hvs1 hr
          simp only [Option.some.injEq] at e
          have hf := run_findKey (P := P) (w := w) hu (f1 rfl)
          have hzr : VR m z zv := hz1 ▸ VR.ofV m zv
          subst e
          refine ⟨if ok then .tuple #[zv, .bool false] else zv, ?_, ?_⟩
          · cases ok
            · exact hzr
            · simp only [if_true, VR]; exact ⟨[zv, .bool false], rfl, VRs.cons hzr (VRs.cons (by simp [VR]) VRs.nil)⟩
          · have := run_lookup (ty := ty) (et := et) ok hty hvs2 (hck _ w) hf (hz2 w)
            simp only [execOp, ho, Sem.run_bind, this, Result.andThen_ok, Sem.run_pure]
      · cases e
    · cases e
  · rename_i c ho
    split at e
    · rename_i hc
      have run : ∀ (v u : Value), (c.args.map ρ)[0]? = some v → (Builtin.len_ c.argTypes o.type (c.args.map ρ)).run P w = .ok u w → (execOp ρ o).run P w = .ok (.value u) w := by
        intro v u _ h
        simp only [execOp, ho, resolve, hc, Sem.run_bind, Sem.run_pure, Result.andThen_ok, invoke, builtin, h]
      have hop : ∀ a, (c.args[0]?).map (ev t) = some a → ∃ v, (c.args.map ρ)[0]? = some v ∧ VR m a v := by
        intro a ha
        simp only [Option.map_eq_some_iff] at ha
        obtain ⟨x, hx, rfl⟩ := ha
        exact ⟨ρ x, by simp [hx], hE x (by simp [ho, Op.operands, Call.operands, hc]; exact Array.mem_of_getElem? hx)⟩
      split at e
      · rename_i e1 e2 ha hty
        simp only [Option.some.injEq] at e; subst e
        obtain ⟨v, h1, h2⟩ := hop _ ha
        simp only [Option.bind_eq_some_iff] at hty
        obtain ⟨ty, h3, h4⟩ := hty
        simp only [VR] at h2
        subst h2
        exact ⟨.int .i64 0, by simp [VR], run _ _ h1 (by simp only [Builtin.len_, h3, h1, Sem.run_bind, run_underlying h4, Result.andThen_ok, goInt]; rfl)⟩
      · rename_i b e1 e2 ha hty
        obtain ⟨v, h1, h2⟩ := hop _ ha
        simp only [Option.bind_eq_some_iff] at hty
        obtain ⟨ty, h3, h4⟩ := hty
        simp only [VR] at h2
        obtain ⟨xx, g1, rfl⟩ := h2
        split at e
        · rename_i es cl hg
          simp only [Option.some.injEq] at e; subst e
          obtain ⟨y, vs, q1, q2, q3, q4⟩ := H.maps b _ cl hg
          rw [g1] at q1; cases q1
          have hlen : ∀ (es : List (AV × AV × Nat)) (vs : List MapEntry), ERs m es vs → vs.length = es.length := by
            intro es
            induction es with
            | nil => intro vs h; simp only [ERs] at h; subst h; rfl
            | cons x es ih =>
              intro vs h
              obtain ⟨k, a, s⟩ := x
              simp only [ERs] at h
              obtain ⟨e, r, rfl, _, _, _, q⟩ := h
              simp [ih r q]
          have := hlen es vs.toList q4
          refine ⟨.int .i64 es.length, by simp [VR], run _ _ h1 ?_⟩
          simp only [Builtin.len_, h3, h1, Sem.run_bind, run_underlying h4, Result.andThen_ok, goInt, getObj, Sem.run, q3]
          rw [← this]; rfl
        · cases e
      · cases e
    · cases e
  · rename_i src dst x ho
    have hx := hE x (by simp [ho, Op.operands])
    split at e
    · rename_i a el hs hd
      split at e
      · rename_i hel
        split at e
        · rename_i ha
          simp only [Option.some.injEq] at e; subst e
          rw [ha] at hx
          simp only [VR] at hx
          exact ⟨.string .empty, by simp [VR], by simp only [execOp, ho, hx, Sem.run_bind, run_convert_bytes_string w src dst el _ _ _ hs hel hd, Conv.bytesToString, Sem.run_pure, Result.andThen_ok]⟩
        · rename_i ha
          simp only [Option.some.injEq] at e; subst e
          rw [ha] at hx
          simp only [VR] at hx
          obtain ⟨ad, c, hx⟩ := hx
          refine ⟨.string .empty, by simp [VR], ?_⟩
          have := run_bytesToString (P := P) w ad 0 c [] (by rfl)
          simp only [execOp, ho, hx, Sem.run_bind, run_convert_bytes_string w src dst el _ _ _ hs hel hd, this, Result.andThen_ok]
          rfl
        · rename_i b i len cap ex ha
          split at e
          · rename_i c hc
            split at e
            · rename_i hin
              split at e
              · rename_i bs hbs
                simp only [Option.some.injEq] at e; subst e
                rw [ha] at hx
                simp only [VR] at hx
                obtain ⟨xx, k, h1, hx, _⟩ := hx
                obtain ⟨vs, q1, q2, q3⟩ := H.row (P := P) hc h1 i len hin
                obtain ⟨ns, r1, r2⟩ := abytes_sound (m := m) _ _ hbs
                rw [r1 vs q1] at q3
                have := run_bytesToString (P := P) w _ len k ns (q3 w rfl)
                refine ⟨.string ⟨⟨bs⟩⟩, by simp [VR], ?_⟩
                simp only [execOp, ho, hx, Sem.run_bind, run_convert_bytes_string w src dst el _ _ _ hs hel hd, this, Result.andThen_ok, Sem.run_pure]
                rw [push_all, r2]
                simp [ByteArray.empty, ByteArray.emptyWithCapacity]
                rfl
              · cases e
            · cases e
          · cases e
        · cases e
      · cases e
    · cases e
  · cases e
end

end Go.YtcgafaecdjbmiaaAbs
