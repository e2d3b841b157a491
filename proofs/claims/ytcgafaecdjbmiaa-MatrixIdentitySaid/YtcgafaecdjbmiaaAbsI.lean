/- Operations that may turn memory. -/
import Derived.Test.YtcgafaecdjbmiaaAbsH
import Derived.Laws.IdiomStrings
import Derived.IntWalk
namespace Go.YtcgafaecdjbmiaaAbs
open Go Go.RowKit

section
variable {P : Program} {F : Env} {w0 : World} {m : Mp} {h : Heap} {w : World}

/-- A step that ends with a value: what the abstract machine says of it. -/
def Does (F : Env) (w0 : World) (m : Mp) (u : AV) (h' : Heap) (r : Result Next) : Prop :=
  ∃ m' v w', (r = .ok (.value v) w' ∨ (r = .ok .skip w' ∧ v = undef)) ∧ Le m m' ∧ VR m' u v ∧ HR F w0 m' h' w'

theorem HR.newRow (H : HR F w0 m h w) (l : List AV) (C : Array Value) (e : TypeId) (hl : l.length ≤ C.size) (hv : VRs m l (C.toList.take l.length)) :
    Le m (m.put h.next ⟨w.heap.size, 0, C.size⟩) ∧ HR F w0 (m.put h.next ⟨w.heap.size, 0, C.size⟩) (h.new (.cells l false)) (w.alloc (.cells C e)) :=
  ⟨Mp.le_put _ (H.fresh h.next (Nat.le_refl _)).2, H.new l C e (0, 0) C.size hl (Nat.le_refl _) hv (fun i _ => by simp)⟩

theorem flat_get {α : Type} (z : List α) : ∀ (k i : Nat), i < k * z.length → (List.replicate k z).flatten[i]? = z[i % z.length]?
  | 0, i, h => by omega
  | k + 1, i, h => by
    rw [List.replicate_succ, List.flatten_cons]
    by_cases hi : i < z.length
    · rw [List.getElem?_append_left hi, Nat.mod_eq_of_lt hi]
    · have hk : (k + 1) * z.length = k * z.length + z.length := by rw [Nat.add_mul, Nat.one_mul]
      rw [List.getElem?_append_right (by omega), flat_get z k (i - z.length) (by omega)]
      congr 1
      rw [Nat.mod_eq_sub_mod (a := i) (by omega)]

theorem zeros_sound {z : List AV} {Z : Array Value} (hz : VRs m z Z.toList) (k n : Nat) (hn : n = k * z.length) :
    VRs m (List.replicate k z).flatten ((Array.range n).map (Z[· % Z.size]!)).toList := by
  have hlen : Z.size = z.length := by rw [← Array.length_toList, hz.length]
  subst hn
  have hfl : (List.replicate k z).flatten.length = k * z.length := by simp
  refine VRs.of_get (by simp) fun i a v ha hv => ?_
  have hi : i < k * z.length := by rw [← hfl]; exact (List.getElem?_eq_some_iff.1 ha).1
  rw [flat_get z k i hi] at ha
  obtain ⟨u, h1, h2⟩ := hz.get _ a ha
  simp only [Array.toList_map, Array.toList_range, List.getElem?_map, List.getElem?_range hi, Option.map_some, Option.some.injEq] at hv
  subst hv
  rw [hlen]
  have h3 : Z[i % z.length]? = some u := by simpa using h1
  rw [getElem!_def, h3]
  exact h2

theorem run_storeVar (H : HR F w0 m h w) {ty : TypeId} {n : Nat} (hn : tsize P ty = some n) {b i : Nat} {vs : List AV} {h' : Heap} {x : MB} (hx : m b = some x) {v : Value}
    (hv : VRs m vs v.cells.toList) (h1 : vs.all AV.one = true) (hl : vs.length = n) (e : alay h b i vs = some h') :
    ∃ w', (storeVar ty ⟨x.B, x.δ + i, none⟩ v).run P w = .ok () w' ∧ HR F w0 m h' w' := by
  obtain ⟨x', g1, g2, g3, g4⟩ := H.lay e hv
  rw [hx] at g1; cases g1
  refine ⟨_, ?_, g4⟩
  have hlen : v.cells.size = n := by rw [← Array.length_toList, hv.length, hl]
  simp only [storeVar, Sem.run_bind, run_sizeOf hn, Result.andThen_ok, hlen, ne_eq, not_true_eq_false, if_false]
  have := run_storeCells_cells (P := P) x.B (x.δ + i) v.cells.toList 0 w (fun j hj => by simpa using g2 j hj) (fun j hj => by simpa using g3 j hj) (hv.one h1)
  simpa using this

theorem acells_sound (H : HR F w0 m h w) {sz n : Nat} {a : AV} {l : List AV} (e : acells h sz n a = some l) {v : Value} (hv : VR m a v) (hn : ∀ k, alen a = some k → n ≤ k) :
    ∃ vs, VRs m l vs ∧ ∀ w2 : World, w2.heap = w.heap → (Builtin.firstCells sz n v).run P w2 = .ok ⟨vs⟩ w2 := by
  unfold acells at e
  split at e
  · simp only [Option.some.injEq] at e; subst e
    simp only [VR] at hv; subst hv
    exact ⟨[], VRs.nil, fun _ _ => rfl⟩
  · simp only [Option.some.injEq] at e; subst e
    simp only [VR] at hv
    obtain ⟨ad, c, rfl⟩ := hv
    have := hn 0 rfl
    have : n = 0 := by omega
    subst this
    exact ⟨[], VRs.nil, fun _ _ => by simp only [Builtin.firstCells, Nat.zero_mul]; rfl⟩
  · split at e
    · rename_i hc
      obtain ⟨rfl, hnl⟩ := hc
      split at e
      · rename_i c hrow
        split at e
        · rename_i hin
          simp only [Option.some.injEq] at e; subst e
          simp only [VR] at hv
          obtain ⟨x, k, h1, rfl, _⟩ := hv
          obtain ⟨vs, q1, _, q2⟩ := H.row (P := P) hrow h1 _ _ hin
          exact ⟨vs, q1, fun w2 hw2 => by simp only [Builtin.firstCells, q2 w2 hw2]⟩
        · cases e
      · cases e
    · cases e
  · split at e
    · rename_i s hs
      subst hs
      simp only [Option.some.injEq] at e; subst e
      simp only [VR] at hv; subst hv
      refine ⟨(s.data.toList.take n).map fun b => .int .u8 b.toNat, VRs.of_get (by simp) fun i a v ha hv => ?_, fun w2 _ => ?_⟩
      · simp only [List.getElem?_map, Option.map_eq_some_iff] at ha hv
        obtain ⟨b, hb, rfl⟩ := ha
        obtain ⟨b', hb', rfl⟩ := hv
        rw [hb] at hb'; cases hb'
        simp [VR]
      · simp only [Builtin.firstCells, Sem.run_pure]
        congr 1
        apply Array.ext'
        simp only [Array.toList_map]
        congr 1
        have : (s.extract 0 n).data = s.data.extract 0 n := by
          simp [ByteArray.data_extract]
        rw [this]
        simp [List.extract_eq_take_drop]
    · cases e
  · cases e

theorem alen_sound {a : AV} {n : Nat} (e : alen a = some n) {v : Value} (hv : VR m a v) : (Builtin.lenOf v).run P w = .ok n w := by
  unfold alen at e
  split at e <;> simp only [Option.some.injEq, reduceCtorEq] at e <;> subst e <;> simp only [VR] at hv
  · subst hv; rfl
  · obtain ⟨_, _, rfl⟩ := hv; rfl
  · obtain ⟨_, _, _, rfl, _⟩ := hv; rfl
  · subst hv; rfl

theorem nextcap_le (need c : Nat) (h : c < need) : Builtin.nextslicecap need c ≤ 3 * need := by
  have grow : ∀ (r c : Nat), c ≤ 2 * need → 256 ≤ need → Builtin.growBy need r c ≤ 3 * need := by
    intro r
    induction r with
    | zero => intro c hc _; simp only [Builtin.growBy]; omega
    | succ r ih =>
      intro c hc h256
      simp only [Builtin.growBy]
      split
      · omega
      · exact ih _ (by omega) h256
  unfold Builtin.nextslicecap
  split
  · omega
  · split
    · omega
    · exact grow 4 c (by omega) (by omega)

/-- The new array of an append that grows. -/
theorem run_append_grows {st xt : TypeId} {e : TypeId} {xd : TypeDesc} {ei : TypeInfo} {zv : Value} (h1 : P.underlying st = some (.slice e)) (h2 : P.underlying xt = some xd) (h3 : ∀ k, xd ≠ .int k)
    (h4 : P.info? e = some ei) (h5 : ei.zero = some zv) (_h6 : ei.size ≠ 0) (h7 : ei.bytes ≠ 0) (h8 : zv.cells.size = ei.size) {n len cap : Nat} {bs : Option Addr} {x : Value}
    (hx : (Builtin.lenOf x).run P w = .ok n w) {olds news : List Value} (hold : (Builtin.firstCells ei.size len (.slice bs len cap)).run P w.drew = .ok ⟨olds⟩ w.drew)
    (hnew : (Builtin.firstCells ei.size n x).run P w.drew = .ok ⟨news⟩ w.drew) (hl1 : olds.length = len * ei.size) (hl2 : news.length = n * ei.size) (hgrow : cap < len + n) (hroom : (len + n) * ei.bytes ≤ room) (at_ : Array TypeId) (ha0 : at_[0]? = some st) (ha1 : at_[1]? = some xt)
    (rt : TypeId) (xs : Array Value) (hx0 : xs[0]? = some (.slice bs len cap)) (hx1 : xs[1]? = some x) :
    ∃ (c : Nat) (C : Array Value), len + n ≤ c ∧ C.size = c * ei.size ∧ C.toList.take (olds ++ news).length = olds ++ news ∧
      (Builtin.append_ at_ rt xs).run P w = .ok (.slice (some ⟨w.heap.size, 0, none⟩) (len + n) c) (w.drew.alloc (.cells C e)) := by
  have hb : 1 ≤ ei.bytes := Nat.one_le_iff_ne_zero.2 h7
  have hneed : len + n ≤ room := Nat.le_trans (Nat.le_mul_of_pos_right _ hb) hroom
  have hcap : Builtin.nextslicecap (len + n) cap * ei.bytes ≤ 3 * room := by
    have := nextcap_le (len + n) cap hgrow
    calc Builtin.nextslicecap (len + n) cap * ei.bytes ≤ 3 * (len + n) * ei.bytes := Nat.mul_le_mul_right _ this
      _ = 3 * ((len + n) * ei.bytes) := Nat.mul_assoc _ _ _
      _ ≤ 3 * room := Nat.mul_le_mul_left _ hroom
  have hmax : (IntKind.i64.max : Int) = 9223372036854775807 := by decide
  unfold room at hneed hcap
  let c := (Question.appendCap (len + n) cap e).cut (w.tape w.drawn (.appendCap (len + n) cap e))
  have hc : len + n ≤ c := by show len + n ≤ (Question.appendCap (len + n) cap e).cut _; simp only [Question.cut]; omega
  have hzeros : (match some xd with | some (.int _) => true | _ => false) = false := by
    cases xd <;> first | rfl | exact absurd rfl (h3 _)
  refine ⟨c, (⟨olds⟩ ++ ⟨news⟩ ++ Builtin.zeroCells zv.cells (c - (len + n))), hc, ?_, ?_, ?_⟩
  · simp only [Array.size_append, List.size_toArray, hl1, hl2, Builtin.zeroCells, Array.size_map, Array.size_range, h8]
    rw [← Nat.add_mul, ← Nat.add_mul]; congr 1; omega
  · rw [Array.toList_append, Array.toList_append]
    exact List.take_left' rfl
  · have hq : (Question.appendCap (len + n) cap e).forced = false := rfl
    have hz : (xd matches .int _) = false := by cases xd <;> first | rfl | exact absurd rfl (h3 _)
    simp only [Builtin.append_, ha0, ha1, hx0, hx1, Sem.run_bind, run_underlying h1, run_underlying h2, Result.andThen_ok, sizeOf, run_typeInfo h4, Sem.run_pure]
    have hn1 : ¬ (len + n ≤ cap) := by omega
    have hn2 : ¬ (Builtin.nextslicecap (len + n) cap * ei.bytes > 2 ^ 48) := by omega
    simp only [Bool.false_eq_true, if_false, Sem.run_bind, hx, Result.andThen_ok, if_neg hn1, run_typeInfo h4, false_or, h7, and_false, if_neg hn2, run_choose, hq, run_askRoom, World.drew_eq]
    simp only [hold, hnew, Bool.not_false, if_true, Result.andThen_ok, zeroValue, Sem.run_bind, run_typeInfo h4, h5, Sem.run_pure, newRow, run_newObj, World.alloc_eq]
    rfl

theorem Does.value {u : AV} {h' : Heap} {r : Result Next} {m' : Mp} {v : Value} {w' : World} (e : r = .ok (.value v) w') (hm : Le m m') (hv : VR m' u v) (H : HR F w0 m' h' w') : Does F w0 m u h' r :=
  ⟨m', v, w', .inl e, hm, hv, H⟩

/-- An append that has room. -/
theorem run_append_stays {st xt : TypeId} {e : TypeId} {xd : TypeDesc} {ei : TypeInfo} (h1 : P.underlying st = some (.slice e)) (h2 : P.underlying xt = some xd) (h3 : ∀ k, xd ≠ .int k)
    (h4 : P.info? e = some ei) {n len c : Nat} {a : Option Addr} {x : Value} (hx : (Builtin.lenOf x).run P w = .ok n w) {news : List Value} (hle : len + n ≤ c)
    (hnew : (Builtin.firstCells ei.size n x).run P w = .ok ⟨news⟩ w) (at_ : Array TypeId) (ha0 : at_[0]? = some st) (ha1 : at_[1]? = some xt)
    (rt : TypeId) (xs : Array Value) (hx0 : xs[0]? = some (.slice a len c)) (hx1 : xs[1]? = some x) (w' : World) (hst : (match a with
        | some a => storeCells (a.add (len * ei.size)) news
        | none => pure () : Sem Unit).run P w = .ok () w') :
    (Builtin.append_ at_ rt xs).run P w = .ok (.slice a (len + n) c) w' := by
  have hz : (xd matches .int _) = false := by cases xd <;> first | rfl | exact absurd rfl (h3 _)
  simp only [Builtin.append_, ha0, ha1, hx0, hx1, Sem.run_bind, run_underlying h1, run_underlying h2, Result.andThen_ok, sizeOf, run_typeInfo h4, Sem.run_pure]
  simp only [Bool.false_eq_true, if_false, Sem.run_bind, hx, Result.andThen_ok, if_pos hle, Bool.not_false, if_true, hnew]
  cases a with
  | none => simp only [Sem.run_pure, Result.ok.injEq] at hst ⊢; exact ⟨trivial, hst.2⟩
  | some a => simp only [Sem.run_bind] at hst ⊢; rw [hst]; rfl

/-- What is asked of what is appended. -/
structure App (P : Program) (m : Mp) (w : World) (st xt el : TypeId) (ei : TypeInfo) (n : Nat) (new : List AV) (xv : Value) : Prop where
  h1 : P.underlying st = some (.slice el)
  h2 : ∃ xd, P.underlying xt = some xd ∧ ∀ k, xd ≠ .int k
  h4 : P.info? el = some ei
  h5 : ∃ zv, ei.zero = some zv ∧ zv.cells.size = ei.size
  h6 : ei.size ≠ 0
  h7 : ei.bytes ≠ 0
  all : new.all AV.one = true
  len : new.length = n * ei.size
  hx : (Builtin.lenOf xv).run P w = .ok n w
  cells : ∃ nv, VRs m new nv ∧ (Builtin.firstCells ei.size n xv).run P w = .ok ⟨nv⟩ w ∧ (Builtin.firstCells ei.size n xv).run P w.drew = .ok ⟨nv⟩ w.drew

/-- An append that grows, as the relation has it. -/
theorem App.grows {st xt el : TypeId} {ei : TypeInfo} {n : Nat} {new : List AV} {xv : Value} (A : App P m w st xt el ei n new xv) (H : HR F w0 m h w) {len c : Nat} {a : Option Addr} {olds : List AV} {ov : List Value}
    (ho : VRs m olds ov) (hol : olds.length = len * ei.size) (hrun : (Builtin.firstCells ei.size len (.slice a len c)).run P w.drew = .ok ⟨ov⟩ w.drew) (hgr : c < len + n) (hroom : (len + n) * ei.bytes ≤ room)
    (at_ : Array TypeId) (ha0 : at_[0]? = some st) (ha1 : at_[1]? = some xt) (rt : TypeId) (xs : Array Value) (hx0 : xs[0]? = some (.slice a len c)) (hx1 : xs[1]? = some xv) :
    ∃ m' v w', (Builtin.append_ at_ rt xs).run P w = .ok v w' ∧ Le m m' ∧ VR m' (.sl h.next 0 (len + n) (len + n) ei.size false) v ∧ HR F w0 m' (h.new (.cells (olds ++ new) false)) w' := by
  obtain ⟨nv, n1, n2, n3⟩ := A.cells
  obtain ⟨xd, x1, x2⟩ := A.h2
  obtain ⟨zv, z1, z2⟩ := A.h5
  obtain ⟨c', C, q1, q2, q3, q4⟩ := run_append_grows (P := P) (w := w) A.h1 x1 x2 A.h4 z1 A.h6 A.h7 z2 A.hx hrun n3 (by rw [ho.length]; exact hol) (by rw [n1.length]; exact A.len) hgr hroom at_ ha0 ha1 rt xs hx0 hx1
  have hvs := ho.append n1
  have hl : (olds ++ new).length ≤ C.size := by
    rw [q2, List.length_append, hol, A.len, ← Nat.add_mul]
    exact Nat.mul_le_mul_right _ q1
  obtain ⟨k1, k2⟩ := H.drew.newRow _ C el hl (by rw [← hvs.length, q3]; exact hvs)
  refine ⟨_, _, _, q4, k1, ?_, k2⟩
  simp only [VR]
  exact ⟨_, c', Mp.put_same _ _ _, by simp, q1, Nat.le_refl _, by simp, by simp only [q2]; omega⟩

/-- An append that has room, as the relation has it. -/
theorem App.stays {st xt el : TypeId} {ei : TypeInfo} {n : Nat} {new : List AV} {xv : Value} (A : App P m w st xt el ei n new xv) {len c : Nat} {a : Option Addr} (hle : len + n ≤ c) {nv : List Value} (hnv : (Builtin.firstCells ei.size n xv).run P w = .ok ⟨nv⟩ w)
    (at_ : Array TypeId) (ha0 : at_[0]? = some st) (ha1 : at_[1]? = some xt) (rt : TypeId) (xs : Array Value) (hx0 : xs[0]? = some (.slice a len c)) (hx1 : xs[1]? = some xv) (w' : World) (hst : (match a with
        | some a => storeCells (a.add (len * ei.size)) nv
        | none => pure () : Sem Unit).run P w = .ok () w') : (Builtin.append_ at_ rt xs).run P w = .ok (.slice a (len + n) c) w' := by
  obtain ⟨xd, x1, x2⟩ := A.h2
  exact run_append_stays A.h1 x1 x2 A.h4 A.hx hle hnv at_ ha0 ha1 rt xs hx0 hx1 w' hst

theorem App.zero {st xt el : TypeId} {ei : TypeInfo} {new : List AV} {xv : Value} (A : App P m w st xt el ei 0 new xv) {len c : Nat} {a : Option Addr} (hle : len ≤ c)
    (at_ : Array TypeId) (ha0 : at_[0]? = some st) (ha1 : at_[1]? = some xt) (rt : TypeId) (xs : Array Value) (hx0 : xs[0]? = some (.slice a len c)) (hx1 : xs[1]? = some xv) : (Builtin.append_ at_ rt xs).run P w = .ok (.slice a len c) w := by
  obtain ⟨nv, n1, n2, n3⟩ := A.cells
  have hnv0 : nv = [] := by
    have := n1.length
    rw [A.len, Nat.zero_mul] at this
    exact List.eq_nil_of_length_eq_zero this
  subst hnv0
  exact A.stays (n := 0) hle n2 at_ ha0 ha1 rt xs hx0 hx1 w (by cases a <;> rfl)

theorem aappend_sl_sound (H : HR F w0 m h w) {st xt el : TypeId} {ei : TypeInfo} {n : Nat} {new : List AV} {xv : Value} (A : App P m w st xt el ei n new xv) {b i len cap : Nat} {ex : Bool} {sv : Value}
    (hs : VR m (.sl b i len cap ei.size ex) sv) {u : AV} {h' : Heap}
    (e : (if n = 0 then some (AV.sl b i len cap ei.size ex, h)
              else if len + n ≤ cap then match alay h b (i + len * ei.size) new with
                | some h' => some (.sl b i (len + n) cap ei.size ex, h')
                | none => none
              else if (len + n) * ei.bytes ≤ room then match h.get b with
                | some (.cells c ro) => if i + len * ei.size ≤ c.length then
                    if ((c.drop i).take (len * ei.size)).all AV.one = false then none else
                    if ex then some (.sl h.next 0 (len + n) (len + n) ei.size false, h.new (.cells ((c.drop i).take (len * ei.size) ++ new) false))
                    else if ro then none
                    else some (.sl h.next 0 (len + n) (len + n) ei.size false, (h.kill b).new (.cells ((c.drop i).take (len * ei.size) ++ new) false))
                  else none
                | _ => none
              else none) = some (u, h'))
    (at_ : Array TypeId) (ha0 : at_[0]? = some st) (ha1 : at_[1]? = some xt) (rt : TypeId) (xs : Array Value) (hx0 : xs[0]? = some sv) (hx1 : xs[1]? = some xv) :
    ∃ m' v w', (Builtin.append_ at_ rt xs).run P w = .ok v w' ∧ Le m m' ∧ VR m' u v ∧ HR F w0 m' h' w' := by
  have hs0 := hs
  simp only [VR] at hs
  obtain ⟨x0, c, g1, rfl, g2, g3, g4, g5⟩ := hs
  obtain ⟨nv, n1, n2, n3⟩ := A.cells
  split at e
  · rename_i hn0
    subst hn0
    simp only [Option.some.injEq, Prod.mk.injEq] at e
    obtain ⟨rfl, rfl⟩ := e
    exact ⟨m, _, w, A.zero (by omega) at_ ha0 ha1 rt xs hx0 hx1, Le.refl m, hs0, H⟩
  · rename_i hn0
    split at e
    · rename_i hfit
      split at e
      · rename_i h2' hlay
        simp only [Option.some.injEq, Prod.mk.injEq] at e
        obtain ⟨rfl, rfl⟩ := e
        obtain ⟨x1, k1, k2, k3, k4⟩ := H.lay hlay n1
        rw [g1] at k1; cases k1
        refine ⟨m, _, _, A.stays (by omega) n2 at_ ha0 ha1 rt xs hx0 hx1 _ ?_, Le.refl m, ?_, k4⟩
        · simp only [addr_add]
          have := run_storeCells_cells (P := P) x0.B (x0.δ + (i + len * ei.size)) nv 0 w (fun j hj => by simpa [Nat.add_assoc] using k2 j hj) (fun j hj => by simpa [Nat.add_assoc] using k3 j hj) (n1.one A.all)
          simpa using this
        · simp only [VR]
          exact ⟨x0, c, g1, rfl, g2, by omega, g4, g5⟩
      · cases e
    · rename_i hfit
      split at e
      · rename_i hroom
        split at e
        · rename_i cs ro hb
          split at e
          · rename_i hin
            have hrow : h.row b = some cs := by unfold Heap.row; rw [hb]
            split at e
            · cases e
            obtain ⟨ov, o1, o2, o3⟩ := H.drew.row (P := P) hrow g1 i (len * ei.size) hin
            have hol : ((cs.drop i).take (len * ei.size)).length = len * ei.size := by rw [← o1.length, o2]
            split at e
            · rename_i hex
              simp only [Option.some.injEq, Prod.mk.injEq] at e
              obtain ⟨rfl, rfl⟩ := e
              exact A.grows H o1 hol (by simp only [Builtin.firstCells, o3 w.drew rfl]) (by rw [g4 hex]; omega) hroom at_ ha0 ha1 rt xs hx0 hx1
            · split at e
              · cases e
              · rename_i hro
                have hro' : ro = false := by simpa using hro
                subst hro'
                simp only [Option.some.injEq, Prod.mk.injEq] at e
                obtain ⟨rfl, rfl⟩ := e
                by_cases hgr : c < len + n
                · exact A.grows (h := h.kill b) (H.kill b) o1 hol (by simp only [Builtin.firstCells, o3 w.drew rfl]) hgr hroom at_ ha0 ha1 rt xs hx0 hx1
                · have hext : (len + n) * ei.size ≤ c * ei.size := Nat.mul_le_mul_right _ (by omega)
                  rw [Nat.add_mul] at hext
                  have hnl := A.len
                  obtain ⟨k2, k3, k4⟩ := H.regrow (i := i) (k := len * ei.size) hb g1 n1 hin (by omega)
                  refine ⟨_, _, _, A.stays (by omega) n2 at_ ha0 ha1 rt xs hx0 hx1 _ ?_, Mp.le_put _ (H.fresh h.next (Nat.le_refl _)).2, ?_, k4⟩
                  · simp only [addr_add]
                    have := run_storeCells_cells (P := P) x0.B (x0.δ + (i + len * ei.size)) nv 0 w (fun j hj => by simpa [Nat.add_assoc] using k2 j hj) (fun j hj => by simpa [Nat.add_assoc] using k3 j hj) (n1.one A.all)
                    rw [Nat.add_assoc]
                    exact this
                  · simp only [VR]
                    exact ⟨_, c, Mp.put_same _ _ _, by simp, by omega, Nat.le_refl _, by simp, by simp only; omega⟩
          · cases e
        · cases e
      · cases e

theorem aappend_sound (H : HR F w0 m h w) {st xt : TypeId} {s x u : AV} {h' : Heap} (e : aappend P h st xt s x = some (u, h')) {sv xv : Value} (hs : VR m s sv) (hx : VR m x xv)
    (at_ : Array TypeId) (ha0 : at_[0]? = some st) (ha1 : at_[1]? = some xt) (rt : TypeId) (xs : Array Value) (hx0 : xs[0]? = some sv) (hx1 : xs[1]? = some xv) :
    ∃ m' v w', (Builtin.append_ at_ rt xs).run P w = .ok v w' ∧ Le m m' ∧ VR m' u v ∧ HR F w0 m' h' w' := by
  unfold aappend at e
  split at e
  · rename_i el xd h1 h2
    split at e
    · cases e
    rename_i hxd
    split at e
    · cases e
    rename_i ei h4
    split at e
    · cases e
    rename_i zv h5
    split at e
    · cases e
    rename_i hsz
    split at e
    · cases e
    rename_i n hn
    split at e
    · cases e
    rename_i new hnew
    split at e
    · cases e
    rename_i hall
    have A : App P m w st xt el ei n new xv := by
      refine ⟨h1, ⟨xd, h2, fun k q => hxd k q⟩, h4, ⟨zv, h5, Classical.byContradiction fun q => hsz (.inr (.inr q))⟩, fun q => hsz (.inl q), fun q => hsz (.inr (.inl q)), ?_, Classical.byContradiction fun q => hall (.inr q), alen_sound hn hx, ?_⟩
      · cases q : new.all AV.one
        · exact absurd (.inl q) hall
        · rfl
      · obtain ⟨nv, q1, q2⟩ := acells_sound (P := P) H hnew hx (fun k hk => by rw [hn] at hk; cases hk; exact Nat.le_refl _)
        exact ⟨nv, q1, q2 w rfl, q2 w.drew rfl⟩
    split at e
    · simp only [VR] at hs; subst hs
      split at e
      · rename_i hn0
        subst hn0
        simp only [Option.some.injEq, Prod.mk.injEq] at e
        obtain ⟨rfl, rfl⟩ := e
        exact ⟨m, .slice none 0 0, w, A.zero (Nat.le_refl _) at_ ha0 ha1 rt xs hx0 hx1, Le.refl m, by simp [VR], H⟩
      · rename_i hn0
        split at e
        · rename_i hroom
          simp only [Option.some.injEq, Prod.mk.injEq] at e
          obtain ⟨rfl, rfl⟩ := e
          have := A.grows (a := none) (len := 0) (c := 0) H VRs.nil (by simp) rfl (by omega) (by simpa using hroom) at_ ha0 ha1 rt xs hx0 hx1
          simpa using this
        · cases e
    · simp only [VR] at hs
      obtain ⟨ad, c, rfl⟩ := hs
      split at e
      · rename_i hn0
        subst hn0
        simp only [Option.some.injEq, Prod.mk.injEq] at e
        obtain ⟨rfl, rfl⟩ := e
        exact ⟨m, .slice (some ad) 0 c, w, A.zero (Nat.zero_le _) at_ ha0 ha1 rt xs hx0 hx1, Le.refl m, by simp only [VR]; exact ⟨_, _, rfl⟩, H⟩
      · cases e
    · split at e
      · cases e
      rename_i hszne
      have hszeq := Classical.byContradiction fun q => hszne q
      subst hszeq
      exact aappend_sl_sound H A hs e at_ ha0 ha1 rt xs hx0 hx1
    · cases e
  · cases e
end

end Go.YtcgafaecdjbmiaaAbs
