/- Operations that may turn memory, whole. -/
import Derived.Test.YtcgafaecdjbmiaaAbsI
namespace Go.YtcgafaecdjbmiaaAbs
open Go Go.RowKit

section
variable {P : Program} {F : Env} {w0 : World} {m : Mp} {h : Heap} {w : World}

theorem acopy_sound (H : HR F w0 m h w) {dt : TypeId} {d x u : AV} {h' : Heap} (e : acopy P h dt d x = some (u, h')) {dv xv : Value} (hd : VR m d dv) (hx : VR m x xv)
    (at_ : Array TypeId) (ha0 : at_[0]? = some dt) (rt : TypeId) (xs : Array Value) (hx0 : xs[0]? = some dv) (hx1 : xs[1]? = some xv) :
    ∃ v w', (Builtin.copy_ at_ rt xs).run P w = .ok v w' ∧ VR m u v ∧ HR F w0 m h' w' := by
  unfold acopy at e
  split at e
  · rename_i el hty
    split at e
    · rename_i sz dl xl hsz hdl hxl
      simp only at e
      split at e
      · cases e
      rename_i new hnew
      split at e
      · cases e
      rename_i hall
      have hall1 : new.all AV.one = true := by
        cases q : new.all AV.one
        · exact absurd (.inl q) hall
        · rfl
      obtain ⟨nv, n1, n2⟩ := acells_sound (P := P) H hnew hx (fun k hk => by rw [hxl] at hk; cases hk; exact Nat.min_le_left _ _)
      have hl := alen_sound (P := P) (w := w) hxl hx
      split at e
      · simp only [Option.some.injEq, Prod.mk.injEq] at e
        obtain ⟨rfl, rfl⟩ := e
        simp only [VR] at hd; subst hd
        simp only [alen, Option.some.injEq] at hdl; subst hdl
        refine ⟨.int .i64 (Nat.min xl 0 : Nat), w, ?_, by simp only [VR], H⟩
        simp only [Builtin.copy_, ha0, hx0, hx1, Sem.run_bind, run_underlying hty, Result.andThen_ok, hl, run_sizeOf hsz, n2 w rfl, goInt, Sem.run_pure]
      · rename_i b i len cap sz' ex
        split at e
        · cases e
        rename_i hne
        have hszeq := Classical.byContradiction fun q => hne q
        subst hszeq
        split at e
        · rename_i h2 hlay
          simp only [Option.some.injEq, Prod.mk.injEq] at e
          obtain ⟨rfl, rfl⟩ := e
          simp only [VR] at hd
          obtain ⟨x0, c, g1, rfl, _⟩ := hd
          simp only [alen, Option.some.injEq] at hdl; subst hdl
          obtain ⟨x1, k1, k2, k3, k4⟩ := H.lay hlay n1
          rw [g1] at k1; cases k1
          have := run_storeCells_cells (P := P) x0.B (x0.δ + i) nv 0 w (fun j hj => by simpa using k2 j hj) (fun j hj => by simpa using k3 j hj) (n1.one hall1)
          refine ⟨.int .i64 (Nat.min xl len : Nat), _, ?_, by simp only [VR], k4⟩
          simp only [Builtin.copy_, ha0, hx0, hx1, Sem.run_bind, run_underlying hty, Result.andThen_ok, hl, run_sizeOf hsz, n2 w rfl, goInt, Sem.run_pure, this]
          rfl
        · cases e
      · cases e
    · cases e
  · cases e

theorem ERs.set : ∀ {es : List (AV × AV × Nat)} {vs : List MapEntry} {i : Nat} {k v : AV} {s : Nat} {e : MapEntry}, ERs m es vs → VR m k e.key → VR m v e.val → e.born = s → ERs m (es.set i (k, v, s)) (vs.set i e)
  | [], vs, i, k, v, s, e, h, _, _, _ => by simp only [ERs] at h; subst h; simp [ERs]
  | (k1, a1, s1) :: es, vs, 0, k, v, s, e, h, h1, h2, h3 => by
    simp only [ERs] at h
    obtain ⟨e1, r, rfl, _, _, _, q⟩ := h
    exact ⟨e, r, rfl, h1, h2, h3, q⟩
  | (k1, a1, s1) :: es, vs, i + 1, k, v, s, e, h, h1, h2, h3 => by
    simp only [ERs] at h
    obtain ⟨e1, r, rfl, q1, q2, q3, q⟩ := h
    exact ⟨e1, r.set i e, rfl, q1, q2, q3, ERs.set q h1 h2 h3⟩
theorem ERs.snoc : ∀ {es : List (AV × AV × Nat)} {vs : List MapEntry} {k v : AV} {s : Nat} {e : MapEntry}, ERs m es vs → VR m k e.key → VR m v e.val → e.born = s → ERs m (es ++ [(k, v, s)]) (vs ++ [e])
  | [], vs, k, v, s, e, h, h1, h2, h3 => by simp only [ERs] at h; subst h; exact ⟨e, [], rfl, h1, h2, h3, rfl⟩
  | (k1, a1, s1) :: es, vs, k, v, s, e, h, h1, h2, h3 => by
    simp only [ERs] at h
    obtain ⟨e1, r, rfl, q1, q2, q3, q⟩ := h
    exact ⟨e1, r ++ [e], rfl, q1, q2, q3, ERs.snoc q h1 h2 h3⟩
theorem ERs.erase : ∀ {es : List (AV × AV × Nat)} {vs : List MapEntry} {i : Nat}, ERs m es vs → ERs m (es.eraseIdx i) (vs.eraseIdx i)
  | [], vs, i, h => by simp only [ERs] at h; subst h; simp [ERs]
  | (k1, a1, s1) :: es, vs, 0, h => by
    simp only [ERs] at h
    obtain ⟨e1, r, rfl, q1, q2, q3, q⟩ := h
    exact q
  | (k1, a1, s1) :: es, vs, i + 1, h => by
    simp only [ERs] at h
    obtain ⟨e1, r, rfl, q1, q2, q3, q⟩ := h
    exact ⟨e1, r.eraseIdx i, rfl, q1, q2, q3, ERs.erase q⟩

theorem mapUpdate_sound (H : HR F w0 m h w) {ty kt et : TypeId} (hty : P.underlying ty = some (.map kt et)) {k v : AV} (hak : akey P kt k = true) {b : Nat} {es : List (AV × AV × Nat)} {cl : Nat} (hg : h.get b = some (.map es cl))
    {o : AO} (e : amput es cl k v = some o) {x : MB} (hx : m b = some x) {kv vv : Value} (hk : VR m k kv) (hv : VR m v vv) :
    ∃ w', (Instr.mapUpdate ty (.map (some x.B)) kv vv).run P w = .ok () w' ∧ HR F w0 m (h.set b o) w' := by
  obtain ⟨y, vs, q1, q2, q3, q4⟩ := H.maps b _ cl hg
  rw [hx] at q1; cases q1
  obtain ⟨kd, hu, hkd, hck, hsb⟩ := akey_sound hak hk
  unfold amput at e
  split at e
  · rename_i i a s hf
    simp only [Option.some.injEq] at e; subst e
    obtain ⟨_, f2⟩ := afind_sound hk hkd es vs.toList 0 _ q4 hf
    obtain ⟨u, r1, r2, _, en, r3, r4, r5, r6, k', r7⟩ := f2 i a s rfl
    have hfk := run_findKey (P := P) (w := w) hu r2
    simp only [Nat.sub_zero] at r3 r7
    have hen : vs[i]? = some en := by simpa using r3
    refine ⟨_, ?_, H.setMap hg hx (vs := vs.modify i fun e => { e with key := kv, val := vv }) (cl' := cl) ?_⟩
    · have hkts : (Instr.keyThatStays (((vs[i]?).map (·.key)).getD kv) kv).run P w = .ok kv w := by
        rw [hen]
        simp only [Option.map_some, Option.getD_some, r6, Instr.keyThatStays]
        rw [if_pos (hsb 9999)]
        rfl
      simp only [Instr.mapUpdate, Sem.run_bind, run_underlying hty, Result.andThen_ok, getObj, Sem.run, q3, hck, hfk, hkts, setObj]
    · have hlt : i < vs.size := (Array.getElem?_eq_some_iff.1 hen).1
      have : (vs.modify i fun e => { e with key := kv, val := vv }).toList = vs.toList.set i { en with key := kv, val := vv } := by
        apply List.ext_getElem?
        intro j
        have hen' : vs[i] = en := (Array.getElem?_eq_some_iff.1 hen).2
        by_cases hj : i = j
        · subst hj
          simp [hlt, hen']
        · simp [hj]
      rw [this]
      exact q4.set hk hv r4
  · rename_i hf
    simp only [Option.some.injEq] at e; subst e
    obtain ⟨f1, _⟩ := afind_sound hk hkd es vs.toList 0 _ q4 hf
    have hfk := run_findKey (P := P) (w := w) hu (f1 rfl)
    refine ⟨_, ?_, H.setMap hg hx (vs := vs.push { key := kv, val := vv, born := cl }) (cl' := cl + 1) ?_⟩
    · simp only [Instr.mapUpdate, Sem.run_bind, run_underlying hty, Result.andThen_ok, getObj, Sem.run, q3, hck, hfk, setObj]
    · rw [Array.toList_push]
      exact q4.snoc hk hv rfl
  · cases e

/-- What is asked of the calls. -/
def CallsOK (P : Program) (F : Env) (w0 : World) (call : CallO) : Prop := ∀ f args h u h' m w vals, call f args h = some (u, h') → VRs m args vals → HR F w0 m h w →
  Calls P f ⟨vals⟩ w fun e w' => ∃ m' v, e = .returned v ∧ Le m m' ∧ VR m' u v ∧ HR F w0 m' h' w'

theorem upon_does {o : Oper} {a : Act} {next : Act → World → Prop} {Q : Exit → Act → World → Prop} {u : AV} {h' : Heap} {r : Result Next} (d : Does F w0 m u h' r)
    (k : ∀ m' v w', Le m m' → VR m' u v → HR F w0 m' h' w' → next (a.put o.dst v) w') : o.upon P a next Q r := by
  obtain ⟨m', v, w', q1, q2, q3, q4⟩ := d
  rcases q1 with rfl | ⟨rfl, rfl⟩
  · exact k m' v w' q2 q3 q4
  · exact k m' undef w' q2 q3 q4

theorem VR.undef {m : Mp} : VR m (.tup []) Go.undef := by simp only [VR]; exact ⟨[], rfl, VRs.nil⟩

theorem aalloc_sound {t : Tr AV} {o : Oper} {a : Act} (hE : OR m t a.eval o) {cs : List AV} {mk : Nat → AV} (e : aalloc P t o = some (cs, mk)) (w : World) :
    ∃ v C el, (execOp a.eval o).run P w = .ok (.value v) (w.alloc (.cells C el)) ∧ cs.length ≤ C.size ∧ VRs m cs (C.toList.take cs.length) ∧ ∀ m' b, m' b = some ⟨w.heap.size, 0, C.size⟩ → VR m' (mk b) v := by
  unfold aalloc at e
  split at e
  · -- alloc
    rename_i ty ho
    split at e
    · rename_i z hz
      split at e
      · rename_i hall
        simp only [Option.some.injEq, Prod.mk.injEq] at e
        obtain ⟨rfl, rfl⟩ := e
        obtain ⟨zv, hz1, hz2⟩ := run_zeroValue hz
        subst hz1
        have hr := ofV_row m zv hall
        have hlen := hr.length
        refine ⟨.pointer (some ⟨w.heap.size, 0, none⟩), zv.cells, ty, ?_, by rw [← hlen]; simp, by rw [← hlen, List.take_length]; exact hr, fun m' b hb => ?_⟩
        · simp only [execOp, ho, Instr.alloc, Sem.run_bind, hz2 w, Result.andThen_ok, newVar, Go.newRow, run_newObj, Sem.run_pure, World.alloc_eq]
        · simp only [VR]; exact ⟨_, hb, rfl⟩
      · cases e
    · cases e
  · -- box
    rename_i ty x ho
    have hx := hE x (by simp [ho, Op.operands])
    split at e
    · rename_i z hz
      simp only [Option.some.injEq, Prod.mk.injEq] at e
      obtain ⟨rfl, rfl⟩ := e
      have hr := (hx.row hz).1
      have hlen := hr.length
      refine ⟨.pointer (some ⟨w.heap.size, 0, none⟩), (a.eval x).cells, ty, ?_, by rw [← hlen]; simp, by rw [← hlen, List.take_length]; exact hr, fun m' b hb => ?_⟩
      · simp only [execOp, ho, Instr.box, Sem.run_bind, Result.andThen_ok, newVar, Go.newRow, run_newObj, Sem.run_pure, World.alloc_eq]
      · simp only [VR]; exact ⟨_, hb, rfl⟩
    · cases e
  · -- buildSlice
    rename_i ty len parts ho
    have hp : ∀ p ∈ parts.toList, VR m (ev t p.2) (a.eval p.2) := fun p hp => hE p.2 (by
      simp only [ho, Op.operands, List.mem_toArray, List.mem_map]
      exact ⟨p, hp, rfl⟩)
    have hmap : (parts.map fun p => (p.1, a.eval p.2)).toList = parts.toList.map fun p => (p.1, a.eval p.2) := by simp
    split at e
    · rename_i el hty
      split at e
      · cases e
      rename_i n hn
      split at e
      · cases e
      rename_i hbig
      split at e
      · cases e
      rename_i z hz
      split at e
      · cases e
      rename_i hzl
      split at e
      · rename_i cs hcs
        split at e
        · rename_i hall
          simp only [Option.some.injEq, Prod.mk.injEq] at e
          obtain ⟨rfl, rfl⟩ := e
          have hn0 : n ≠ 0 := fun q => hbig (.inl q)
          have hmax : ¬ (len * n > 2 ^ 24) := fun q => hbig (.inr q)
          have hz1 : z.all AV.one = true := by
            cases q : z.all AV.one
            · exact absurd (.inr q) hzl
            · rfl
          obtain ⟨Z, hZ1, hZ2⟩ : ∃ Z : Array Value, VRs m (List.replicate len z).flatten ((Array.range (len * n)).map (Z[· % Z.size]!)).toList ∧
              ((len * n = 0 ∧ Z = #[]) ∨ (len * n ≠ 0 ∧ ∃ zv : Value, Z = zv.cells ∧ ∀ w, (zeroValue el).run P w = .ok zv w)) := by
            cases len with
            | zero => exact ⟨#[], by simpa using VRs.nil, .inl ⟨Nat.zero_mul _, rfl⟩⟩
            | succ len =>
              simp only at hz
              obtain ⟨zv, y1, y2⟩ := run_zeroValue hz
              have hzn : z.length = n := Classical.byContradiction fun q => hzl (.inl ⟨by omega, q⟩)
              refine ⟨zv.cells, zeros_sound (y1 ▸ ofV_row m zv (y1 ▸ hz1)) _ _ (by rw [hzn]), .inr ⟨?_, zv, rfl, y2⟩⟩
              intro q; rcases Nat.mul_eq_zero.1 q with q | q <;> omega
          obtain ⟨vs', q1, q2⟩ := fill_sound (P := P) (ρ := a.eval) _ _ _ cs _ hcs hZ1 hp
          rw [← hmap] at q2
          have hcl : vs'.length = len * n := by
            have : ∀ (place : Nat → Option (Nat × Nat)) (ps : List (Nat × AV)) (cs cs' : List AV), afill place ps cs = some cs' → cs'.length = cs.length := by
              intro place ps
              induction ps with
              | nil => intro cs cs' h; simp only [afill, Option.some.injEq] at h; rw [h]
              | cons p ps ih =>
                intro cs cs' h
                obtain ⟨i, b⟩ := p
                simp only [afill] at h
                split at h
                · split at h
                  · rename_i hc
                    rw [ih _ _ h]
                    simp only [List.length_append, List.length_take, List.length_drop]
                    omega
                  · cases h
                · cases h
            rw [q1.length, this _ _ _ _ hcs, ← hZ1.length]
            simp
          refine ⟨.slice (some ⟨w.heap.size, 0, none⟩) len len, ⟨vs'⟩, el, ?_, by simp [← q1.length], by simp only [← q1.length, List.take_length]; exact q1, fun m' b hb => ?_⟩
          · simp only [execOp, ho, Instr.buildSlice, Sem.run_bind, run_underlying hty, Result.andThen_ok, run_sizeOf hn, if_neg hmax]
            rcases hZ2 with ⟨q0, rfl⟩ | ⟨q0, zv, rfl, y2⟩
            · rw [if_pos q0]
              simp only [Sem.run_bind, Sem.run_pure, Result.andThen_ok]
              rw [show ((Array.range (len * n)).map fun x => (#[] : Array Value)[x % (#[] : Array Value).size]!) = ⟨((Array.range (len * n)).map fun x => (#[] : Array Value)[x % (#[] : Array Value).size]!).toList⟩ from rfl, q2]
              simp only [Sem.run_bind, Go.newRow, run_newObj, Sem.run_pure, Result.andThen_ok, World.alloc_eq]
            · rw [if_neg q0]
              simp only [Sem.run_bind, y2 w, Sem.run_pure, Result.andThen_ok]
              rw [show ((Array.range (len * n)).map fun x => zv.cells[x % zv.cells.size]!) = ⟨((Array.range (len * n)).map fun x => zv.cells[x % zv.cells.size]!).toList⟩ from rfl, q2]
              simp only [Sem.run_bind, Go.newRow, run_newObj, Sem.run_pure, Result.andThen_ok, World.alloc_eq]
          · simp only [VR]
            exact ⟨_, len, hb, by simp, Nat.le_refl _, Nat.le_refl _, fun _ => rfl, by simp [hcl]⟩
        · cases e
      · cases e
    · cases e
  · -- makeSlice
    rename_i ty l c ho
    have hl := hE l (by simp [ho, Op.operands])
    have hc := hE c (by simp [ho, Op.operands])
    split at e
    · rename_i el lk ln ck cn hty hle hce
      split at e
      · cases e
      rename_i ei hei
      split at e
      · cases e
      rename_i z hz
      split at e
      · rename_i hcond
        obtain ⟨c1, c2, c3, c4, c5, c6, c7⟩ := hcond
        simp only [Option.some.injEq, Prod.mk.injEq] at e
        obtain ⟨rfl, rfl⟩ := e
        rw [hle] at hl; rw [hce] at hc
        have hl' := asInt_int hl
        have hc' := asInt_int hc
        obtain ⟨zv, hz1, hz2⟩ := run_zeroValue hz
        subst hz1
        have hr := ofV_row m zv c7
        have hZ : zv.cells.size = ei.size := by rw [← Array.length_toList, hr.length, c6]
        have hcon := zeros_sound hr cn.toNat (cn.toNat * ei.size) (by rw [c6])
        have hflen : (List.replicate cn.toNat (ofV zv).row).flatten.length = cn.toNat * ei.size := by simp [c6]
        refine ⟨.slice (some ⟨w.heap.size, 0, none⟩) ln.toNat cn.toNat, (Array.range (cn.toNat * ei.size)).map (zv.cells[· % zv.cells.size]!), el, ?_, by rw [hflen]; simp, by rw [hflen, List.take_of_length_le (by simp)]; exact hcon, fun m' b hb => ?_⟩
        · have w1 : IntKind.i64.wrap ln = ln := IntWalk.i64_in _ (by omega)
          have w2 : IntKind.i64.wrap cn = cn := IntWalk.i64_in _ (by omega)
          have hsize : tsize P el = some ei.size := by unfold tsize; rw [hei]; rfl
          have c3' : (ei.bytes : Int) * cn ≤ 281474976710656 := by rw [Int.mul_comm]; exact c3
          have t1 : ¬ ((decide (cn < 0) || decide ((ei.bytes : Int) * cn > 2 ^ 48) || decide (ln < 0) || decide (ln > cn)) = true) := by
            simp only [Bool.or_eq_true, decide_eq_true_eq]; omega
          simp only [execOp, ho, Instr.makeSlice, hl', hc', Sem.run_bind, run_underlying hty, Result.andThen_ok, asInt, asIntOf, Sem.run_pure, run_typeInfo hei, w1, w2]
          rw [if_neg t1]
          simp only [Sem.run_bind, run_askRoom, run_sizeOf hsize, Result.andThen_ok]
          by_cases hz0 : cn.toNat * ei.size = 0
          · rw [if_pos hz0]
            simp only [Sem.run_bind, Sem.run_pure, Result.andThen_ok, Go.newRow, run_newObj, World.alloc_eq]
            have e0 : ∀ f : Nat → Value, Array.map f (Array.range (cn.toNat * ei.size)) = #[] := fun f => by rw [hz0]; simp
            rw [e0, e0]
          · rw [if_neg hz0]
            simp only [Sem.run_bind, hz2, Sem.run_pure, Result.andThen_ok, Go.newRow, run_newObj, World.alloc_eq]
        · simp only [VR]
          exact ⟨_, cn.toNat, hb, by simp, Nat.le_refl _, by omega, fun _ => rfl, by simp⟩
      · cases e
    · cases e
  · cases e

theorem aeff_sound (H : HR F w0 m h w) {call : CallO} (hcall : CallsOK P F w0 call) {t : Tr AV} {o : Oper} {a : Act} (hE : OR m t a.eval o) {u : AV} {h' : Heap} (e : aeff P call t h o = some (u, h'))
    {next : Act → World → Prop} {Q : Exit → Act → World → Prop} (k : ∀ m' v w', Le m m' → VR m' u v → HR F w0 m' h' w' → next (a.put o.dst v) w') :
    o.upon P a next Q ((execOp a.eval o).run P w) := by
  unfold aeff at e
  split at e
  · rename_i cs mk hal
    simp only [Option.some.injEq, Prod.mk.injEq] at e
    obtain ⟨rfl, rfl⟩ := e
    obtain ⟨v, C, el, h1, h2, h3, h4⟩ := aalloc_sound hE hal w
    obtain ⟨g1, g2⟩ := H.newRow cs C el h2 h3
    exact upon_does ⟨_, v, _, .inl h1, g1, h4 _ _ (Mp.put_same _ _ _), g2⟩ k
  split at e
  · -- store
    rename_i ty x v ho
    have hx := hE x (by simp [ho, Op.operands])
    have hv := hE v (by simp [ho, Op.operands])
    split at e
    · rename_i b i vs n hb hvs hn
      split at e
      · rename_i hl
        split at e
        · rename_i h2 hlay
          simp only [Option.some.injEq, Prod.mk.injEq] at e
          obtain ⟨rfl, rfl⟩ := e
          rw [hb] at hx
          simp only [VR] at hx
          obtain ⟨x0, g1, g2⟩ := hx
          obtain ⟨r1, r2⟩ := hv.row hvs
          obtain ⟨w', q1, q2⟩ := run_storeVar H hn g1 r1 r2 hl hlay
          refine upon_does ⟨m, undef, w', .inr ⟨?_, rfl⟩, Le.refl m, VR.undef, q2⟩ k
          simp only [execOp, ho, Instr.storeAt, Instr.sureAddr, g2, Sem.run_bind, Sem.run_pure, Result.andThen_ok, q1]
        · cases e
      · cases e
    · cases e
  · -- makeMap
    rename_i ty r ho
    split at e
    · simp only [Option.some.injEq, Prod.mk.injEq] at e
      obtain ⟨rfl, rfl⟩ := e
      refine upon_does ⟨_, .map (some w.heap.size), _, .inl ?_, Mp.le_put _ (H.fresh h.next (Nat.le_refl _)).2, ?_, H.newMap⟩ k
      · simp only [execOp, ho, Instr.makeMap, Option.map_none, Sem.run_bind, Result.andThen_ok, run_newObj, Sem.run_pure, World.alloc_eq]
      · simp only [VR]; exact ⟨_, Mp.put_same _ _ _, rfl⟩
    · rename_i x kt et hty
      have hx := hE x (by simp [ho, Op.operands])
      split at e
      · rename_i kk n hn
        simp only [Option.some.injEq, Prod.mk.injEq] at e
        obtain ⟨rfl, rfl⟩ := e
        rw [hn] at hx
        refine upon_does ⟨_, .map (some w.heap.size), _, .inl ?_, Mp.le_put _ (H.fresh h.next (Nat.le_refl _)).2, ?_, H.newMap⟩ k
        · simp only [execOp, ho, Instr.makeMap, Option.map_some, asInt_int hx, Sem.run_bind, run_underlying hty, Result.andThen_ok, asInt, asIntOf, run_newObj, Sem.run_pure, World.alloc_eq]
        · simp only [VR]; exact ⟨_, Mp.put_same _ _ _, rfl⟩
      · cases e
    · cases e
  · -- mapUpdate
    rename_i ty x kk v ho
    have hx := hE x (by simp [ho, Op.operands])
    have hk := hE kk (by simp [ho, Op.operands])
    have hv := hE v (by simp [ho, Op.operands])
    split at e
    · rename_i kt et b hty hb
      split at e
      · rename_i hak
        split at e
        · rename_i es cl hg
          split at e
          · rename_i ao hao
            simp only [Option.some.injEq, Prod.mk.injEq] at e
            obtain ⟨rfl, rfl⟩ := e
            rw [hb] at hx
            simp only [VR] at hx
            obtain ⟨x0, g1, g2⟩ := hx
            obtain ⟨w', q1, q2⟩ := mapUpdate_sound (P := P) H hty hak hg hao g1 hk hv
            refine upon_does ⟨m, undef, w', .inr ⟨?_, rfl⟩, Le.refl m, VR.undef, q2⟩ k
            simp only [execOp, ho, g2, Sem.run_bind, q1, Result.andThen_ok, Sem.run_pure]
          · cases e
        · cases e
      · cases e
    · cases e
  · -- insert
    rename_i ty x kk v ho
    have hx := hE x (by simp [ho, Op.operands])
    have hk := hE kk (by simp [ho, Op.operands])
    have hv := hE v (by simp [ho, Op.operands])
    split at e
    · rename_i kt et b hty hb
      split at e
      · rename_i hak
        split at e
        · rename_i es cl hg
          split at e
          · rename_i ao hao
            simp only [Option.some.injEq, Prod.mk.injEq] at e
            obtain ⟨rfl, rfl⟩ := e
            rw [hb] at hx
            simp only [VR] at hx
            obtain ⟨x0, g1, g2⟩ := hx
            obtain ⟨w', q1, q2⟩ := mapUpdate_sound (P := P) H hty hak hg hao g1 hk hv
            refine upon_does ⟨m, undef, w', .inr ⟨?_, rfl⟩, Le.refl m, VR.undef, q2⟩ k
            simp only [execOp, ho, g2, Sem.run_bind, q1, Result.andThen_ok, Sem.run_pure]
          · cases e
        · cases e
      · cases e
    · cases e
  · -- convert
    rename_i src dst x ho
    have hx := hE x (by simp [ho, Op.operands])
    split at e
    · rename_i el s hs hd hxe
      split at e
      · rename_i hel
        simp only [Option.some.injEq, Prod.mk.injEq] at e
        obtain ⟨rfl, rfl⟩ := e
        rw [hxe] at hx
        simp only [VR] at hx
        have hrun := run_bytes_of_string (P := P) w src dst el s hs hd hel
        have hc : s.size ≤ grownCap w s.size 0 el := by
          unfold grownCap; simp only [Question.cut]; omega
        have hsz : (bytesRow s (grownCap w s.size 0 el)).size = grownCap w s.size 0 el := by
          have : s.data.size = s.size := rfl
          simp only [bytesRow, Array.size_append, Array.size_map, Array.size_replicate]; omega
        have hN := H.drew.new (s.data.toList.map fun b => AV.int .u8 b.toNat) (bytesRow s (grownCap w s.size 0 el)) el ((bytesRow s (grownCap w s.size 0 el)).size, (bytesRow s (grownCap w s.size 0 el)).size + 1) (grownCap w s.size 0 el)
          (by have : s.data.toList.length = s.size := rfl; simp only [List.length_map]; omega) (by omega) (by
            refine VRs.of_get (by have e1 : s.size = s.data.size := rfl; simp only [List.length_take, List.length_map, Array.length_toList, hsz]; omega) fun i b v hb hv => ?_
            simp only [List.getElem?_map, Option.map_eq_some_iff] at hb
            obtain ⟨c, hc1, rfl⟩ := hb
            have hi : i < s.data.toList.length := (List.getElem?_eq_some_iff.1 hc1).1
            rw [List.getElem?_take, if_pos (by simpa using hi)] at hv
            simp only [bytesRow, Array.toList_append, Array.toList_map] at hv
            rw [List.getElem?_append_left (by simpa using hi), List.getElem?_map, hc1] at hv
            simp at hv
            subst hv
            simp [VR]) (fun i hi => by simp; omega)
        refine upon_does ⟨_, .slice (some ⟨w.heap.size, 0, none⟩) s.size (grownCap w s.size 0 el), _, .inl ?_, Mp.le_put _ (H.fresh h.next (Nat.le_refl _)).2, ?_, hN⟩ k
        · simp only [execOp, ho, hx, Sem.run_bind, hrun, Result.andThen_ok, Sem.run_pure]
        · simp only [VR]
          exact ⟨_, grownCap w s.size 0 el, Mp.put_same _ _ _, by simp, hc, Nat.le_refl _, by simp, by simp⟩
      · cases e
    · cases e
  · -- call
    rename_i c ho
    have hargs : ∀ (i : Nat) (x : Operand), c.args[i]? = some x → VR m (ev t x) (a.eval x) := fun i x hx => hE x (by
      simp only [ho, Op.operands, Call.operands]
      exact Array.mem_append.2 (.inr (Array.mem_of_getElem? hx)))
    have hmapg : ∀ (i : Nat) (x : Operand), c.args[i]? = some x → (c.args.map a.eval)[i]? = some (a.eval x) := fun i x hx => by simp [hx]
    split at e
    · -- append
      rename_i hc
      split at e
      · rename_i s x st xt h0 h1 h2 h3
        obtain ⟨m', v, w', q1, q2, q3, q4⟩ := aappend_sound (P := P) H e (hargs 0 s h0) (hargs 1 x h1) c.argTypes h2 h3 o.type (c.args.map a.eval) (hmapg 0 s h0) (hmapg 1 x h1)
        refine upon_does ⟨m', v, w', .inl ?_, q2, q3, q4⟩ k
        simp only [execOp, ho, resolve, hc, Sem.run_bind, Sem.run_pure, Result.andThen_ok, invoke, builtin, q1]
      · cases e
    · -- copy
      rename_i hc
      split at e
      · rename_i s x st h0 h1 h2
        obtain ⟨v, w', q1, q2, q3⟩ := acopy_sound (P := P) H e (hargs 0 s h0) (hargs 1 x h1) c.argTypes h2 o.type (c.args.map a.eval) (hmapg 0 s h0) (hmapg 1 x h1)
        refine upon_does ⟨m, v, w', .inl ?_, Le.refl m, q2, q3⟩ k
        simp only [execOp, ho, resolve, hc, Sem.run_bind, Sem.run_pure, Result.andThen_ok, invoke, builtin, q1]
      · cases e
    · -- clear
      rename_i hc
      split at e
      · rename_i x el h0 h1
        simp only [Option.bind_eq_some_iff] at h1
        obtain ⟨ty, h1, hty⟩ := h1
        have hx := hargs 0 x h0
        have run : ∀ (v : Value) (w' : World), a.eval x = v → (Builtin.clear_ c.argTypes o.type (c.args.map a.eval)).run P w = .ok undef w' → (execOp a.eval o).run P w = .ok (.value undef) w' := by
          intro v w' _ hr
          simp only [execOp, ho, resolve, hc, Sem.run_bind, Sem.run_pure, Result.andThen_ok, invoke, builtin, hr]
        split at e
        · rename_i hb
          simp only [Option.some.injEq, Prod.mk.injEq] at e
          obtain ⟨rfl, rfl⟩ := e
          rw [hb] at hx
          simp only [VR] at hx
          refine upon_does ⟨m, undef, w, .inl (run _ _ hx ?_), Le.refl m, VR.undef, H⟩ k
          have hq := hmapg 0 x h0
          rw [hx] at hq
          simp only [Builtin.clear_, h1, hq, Sem.run_bind, run_underlying hty, Result.andThen_ok, Sem.run_pure]
          rfl
        · rename_i hb
          simp only [Option.some.injEq, Prod.mk.injEq] at e
          obtain ⟨rfl, rfl⟩ := e
          rw [hb] at hx
          simp only [VR] at hx
          obtain ⟨ad, cc, hx⟩ := hx
          refine upon_does ⟨m, undef, w, .inl (run _ _ hx ?_), Le.refl m, VR.undef, H⟩ k
          have hq := hmapg 0 x h0
          rw [hx] at hq
          simp only [Builtin.clear_, h1, hq, Sem.run_bind, run_underlying hty, Result.andThen_ok, Sem.run_pure]
          rfl
        · rename_i b i len cap sz ex hb
          rw [hb] at hx
          simp only [VR] at hx
          obtain ⟨x0, cc, g1, hx, _⟩ := hx
          have hq := hmapg 0 x h0
          rw [hx] at hq
          split at e
          · rename_i hl0
            subst hl0
            simp only [Option.some.injEq, Prod.mk.injEq] at e
            obtain ⟨rfl, rfl⟩ := e
            refine upon_does ⟨m, undef, w, .inl (run _ _ hx ?_), Le.refl m, VR.undef, H⟩ k
            simp only [Builtin.clear_, h1, hq, Sem.run_bind, run_underlying hty, Result.andThen_ok, Sem.run_pure]
            rfl
          · rename_i hl0
            split at e
            · rename_i z hz
              split at e
              · rename_i hz1
                split at e
                · rename_i h2 hlay
                  simp only [Option.some.injEq, Prod.mk.injEq] at e
                  obtain ⟨rfl, rfl⟩ := e
                  obtain ⟨zv, y1, y2⟩ := run_zeroValue hz
                  subst y1
                  have hr := ofV_row m zv hz1
                  have hzz : zv.cells.size = (ofV zv).row.length := by rw [← Array.length_toList, hr.length]
                  have hcon := zeros_sound hr len (len * zv.cells.size) (by rw [hzz])
                  obtain ⟨x1, k1, k2, k3, k4⟩ := H.lay hlay hcon
                  rw [g1] at k1; cases k1
                  have hst := run_storeCells_cells (P := P) x0.B (x0.δ + i) ((Array.range (len * zv.cells.size)).map (zv.cells[· % zv.cells.size]!)).toList 0 w (fun j hj => by simpa using k2 j hj) (fun j hj => by simpa using k3 j hj)
                    (hcon.one (by
                      rw [List.all_eq_true]
                      intro y hy
                      rw [List.mem_flatten] at hy
                      obtain ⟨l, hl, hy⟩ := hy
                      rw [List.mem_replicate] at hl
                      rw [hl.2] at hy
                      exact List.all_eq_true.1 hz1 y hy))
                  obtain ⟨len', rfl⟩ : ∃ q, len = q + 1 := ⟨len - 1, by omega⟩
                  refine upon_does ⟨m, undef, _, .inl (run _ _ hx ?_), Le.refl m, VR.undef, k4⟩ k
                  simp only [Builtin.clear_, h1, hq, Sem.run_bind, run_underlying hty, Result.andThen_ok, Sem.run_pure, y2 w, Builtin.zeroCells]
                  rw [hst]
                  rfl
                · cases e
              · cases e
            · cases e
        · cases e
      · cases e
    · -- delete
      rename_i hc
      split at e
      · rename_i x kk kt et h0 h1 h2
        simp only [Option.bind_eq_some_iff] at h2
        obtain ⟨ty, h2, hty⟩ := h2
        have hx := hargs 0 x h0
        have hk := hargs 1 kk h1
        split at e
        · rename_i hak
          obtain ⟨kd, hu, hkd, hck, hsb⟩ := akey_sound hak hk
          split at e
          · rename_i b hb
            rw [hb] at hx
            simp only [VR] at hx
            obtain ⟨x0, g1, g2⟩ := hx
            split at e
            · rename_i es cl hg
              obtain ⟨y, vs, q1, q2, q3, q4⟩ := H.maps b _ cl hg
              rw [g1] at q1; cases q1
              split at e
              · rename_i i a1 s1 hf
                simp only [Option.some.injEq, Prod.mk.injEq] at e
                obtain ⟨rfl, rfl⟩ := e
                obtain ⟨_, f2⟩ := afind_sound hk hkd es vs.toList 0 _ q4 hf
                obtain ⟨u, r1, r2, _, en, r3, _⟩ := f2 i a1 s1 rfl
                have hfk := run_findKey (P := P) (w := w) hu r2
                refine upon_does ⟨m, undef, _, .inl ?_, Le.refl m, VR.undef, H.setMap hg g1 (vs := vs.eraseIdxIfInBounds i) (cl' := cl) ?_⟩ k
                · simp only [execOp, ho, resolve, hc, Sem.run_bind, Sem.run_pure, Result.andThen_ok, invoke, builtin, Builtin.delete_, h2, hmapg 0 x h0, hmapg 1 kk h1, run_underlying hty, g2, getObj, Sem.run, q3, hck, hfk, setObj]
                  rfl
                · simp only [Nat.sub_zero] at r3
                  have hlt : i < vs.size := by simpa using (List.getElem?_eq_some_iff.1 r3).1
                  rw [show (vs.eraseIdxIfInBounds i).toList = vs.toList.eraseIdx i by simp [Array.eraseIdxIfInBounds, hlt]]
                  exact q4.erase
              · rename_i hf
                simp only [Option.some.injEq, Prod.mk.injEq] at e
                obtain ⟨rfl, rfl⟩ := e
                obtain ⟨f1, _⟩ := afind_sound hk hkd es vs.toList 0 _ q4 hf
                have hfk := run_findKey (P := P) (w := w) hu (f1 rfl)
                have hset : w.heap.setIfInBounds x0.B (.map vs cl) = w.heap := by
                  apply Array.ext_getElem?
                  intro j
                  rw [Array.getElem?_setIfInBounds]
                  split
                  · rename_i hj
                    subst hj
                    split
                    · exact q3.symm
                    · rename_i hlt
                      rw [Array.getElem?_eq_none (by omega)] at q3
                      cases q3
                  · rfl
                refine upon_does ⟨m, undef, w, .inl ?_, Le.refl m, VR.undef, H⟩ k
                simp only [execOp, ho, resolve, hc, Sem.run_bind, Sem.run_pure, Result.andThen_ok, invoke, builtin, Builtin.delete_, h2, hmapg 0 x h0, hmapg 1 kk h1, run_underlying hty, g2, getObj, Sem.run, q3, hck, hfk, setObj]
                rw [hset]
                rfl
              · cases e
            · cases e
          · rename_i hb
            simp only [Option.some.injEq, Prod.mk.injEq] at e
            obtain ⟨rfl, rfl⟩ := e
            rw [hb] at hx
            simp only [VR] at hx
            refine upon_does ⟨m, undef, w, .inl ?_, Le.refl m, VR.undef, H⟩ k
            simp only [execOp, ho, resolve, hc, Sem.run_bind, Sem.run_pure, Result.andThen_ok, invoke, builtin, Builtin.delete_, h2, hmapg 0 x h0, hmapg 1 kk h1, run_underlying hty, hx, hck]
            rfl
          · cases e
        · cases e
      · cases e
    · -- a function
      rename_i f hc
      have hf := hE f (by simp [ho, Op.operands, Call.operands, hc])
      split at e
      · rename_i g cs hg
        split at e
        · rename_i fn hfn
          split at e
          · cases e
          rename_i hnm
          rw [hg] at hf
          simp only [VR] at hf
          obtain ⟨vs, q1, q2⟩ := hf
          have hav : VRs m (c.args.toList.map (ev t)) (c.args.toList.map a.eval) := by
            refine VRs.of_get (by simp) fun i x v hx hv => ?_
            simp only [List.getElem?_map, Option.map_eq_some_iff] at hx hv
            obtain ⟨y, hy, rfl⟩ := hx
            obtain ⟨z, hz, rfl⟩ := hv
            rw [hy] at hz; cases hz
            exact hargs i y (by simpa using hy)
          have hcalls := hcall g _ h u h' m w _ e (hav.append q2) H
          have hnm' : (fn.name == "runtime.NumGoroutine") = false ∧ fn.body.isNone = false := by
            cases q : (fn.name == "runtime.NumGoroutine") <;> cases r : fn.body.isNone <;> simp_all
          have hrun : (execOp a.eval o).run P w = .ok (.enter g ⟨c.args.toList.map a.eval ++ vs⟩) w := by
            simp only [execOp, ho, resolve, hc, Deferred.ofValue, q1, Sem.run_bind, Sem.run_pure, Result.andThen_ok, invoke, callFunc, run_program, hfn, hnm'.1, hnm'.2]
            simp
          rw [hrun, Oper.upon_enter]
          refine hcalls.mono fun en w' hen => ?_
          obtain ⟨m', v, rfl, r1, r2, r3⟩ := hen
          exact k m' v w' r1 r2 r3
        · cases e
      · cases e
    · cases e
  · cases e
end

end Go.YtcgafaecdjbmiaaAbs
