/- depotref5.Chain: Drop; both tables beside each other. -/
import Derived.Test.YtdnjhipgfbhecaaRefD
import Derived.Test.YtdnjhipgfbhecaaChainK
namespace Go.Proofs.Ytdnjhipgfbhecaa
open Go Go.YtdnjhipgfbhecaaAbs
set_option linter.unusedSimpArgs false
set_option linter.unusedVariables false
set_option maxRecDepth 4000

def cutE (L : List Ent) (i : Nat) : List Ent := L.take i ++ L.drop (i + 1)
theorem cutE_len {L : List Ent} {i : Nat} (h : i < L.length) : (cutE L i).length = L.length - 1 := by
  unfold cutE
  rw [List.length_append, List.length_take, List.length_drop]
  omega
def Ch.rdrop1 (c : Ch) (key : ByteArray) : Bool × Ch := match findE key (c.row (c.sel key)) with
  | some i => (true, { c.setRow (c.sel key) (cutE (c.row (c.sel key)) i) with len := c.len - 1 })
  | none => (false, c)
def Ch.rdrop (c : Ch) (key : ByteArray) : Bool × Ch := c.step.rdrop1 key

theorem rcdrop_ok (k : Nat) (hk : 200000 < k) (h : Heap) (b : Nat) (c : Ch) (vn vo : AV) (rn ro : List AV) (O : ChO h b c vn vo rn ro) (C : ChOk c) (C1 : ChOk c.step) (key : ByteArray) (hm : key.size ≤ 1000) (hln : ∀ i, findE key (c.step.row (c.step.sel key)) = some i → 0 < c.step.len) :
    ∃ v' h', acall Try.prog (k + 3) 22 [.ptr b 0, .str key] h = some (v', h') ∧ v' = .bool (c.rdrop key).1 ∧ (∃ vn' vo' rn' ro', ChO h' b (c.rdrop key).2 vn' vo' rn' ro' ∧ ∀ d, d ∈ fpC b vn' vo' rn' ro' → d ∈ fpC b vn vo rn ro ∨ h.next ≤ d) ∧ Keep h.next (fun d => d ∈ fpC b vn vo rn ro) h h' := by
  obtain ⟨v1, h2, E1, ⟨vn1, vo1, rn1, ro1, O2, f1⟩, K2⟩ := rcstep_ok k hk h b c vn vo rn ro O C
  unfold Ch.rdrop
  generalize hc1 : c.step = c1 at *
  have n1 := C1.n1; have o1 := C1.o1; have m1 := C1.m1; have n0 := C1.n0; have l1 := C1.len
  have B := rcbucket_ok k h2 b c1 vn1 vo1 rn1 ro1 O2 key (by omega) (by omega) n0 (by omega) (by omega) (by omega)
  have hrow := pos_row c1 key n0
  have hsm := row_small C1 key
  have q1 := setRow_len c1 (c1.sel key)
  unfold Ch.rdrop1
  generalize hL : c1.row (c1.sel key) = L at *
  generalize hs : c1.sel key = s at *
  obtain ⟨R, A⟩ := O2.sub s.1
  obtain ⟨r, hr, Mr⟩ := R.row hrow
  have ld := R.own.sl.ld (P := Try.prog) ta65 hr
  have S1 := Mr.sl
  obtain ⟨V, hV⟩ : ∃ V, pick2 s.1 vo1 vn1 = V := ⟨_, rfl⟩
  have vlt : V.blk < h2.next := by rw [← hV]; exact R.own.sl.blk_lt (by rw [R.len]; have := (List.getElem?_eq_some_iff.1 hrow).1; omega)
  rw [acall_text [7] Try.func22 (by kernel_rfl)]
  refine afuncT_ex rfl (by simp [Try.f22]) ?_
  rw [hV] at B ld
  simp [Try.f22, E1, B]
  refine W_loop (fun m st => ∃ i, m = L.length - i ∧ i ≤ L.length ∧ (∀ e, e ∈ L.take i → e.1 ≠ key) ∧ st.t.get 0 = some (.ptr b 0) ∧ st.t.get 1 = some (.str key) ∧ st.t.get 5 = some (.ptr V.blk (V.off + s.2)) ∧ st.t.get 6 = some (.int .i64 (i : Nat)) ∧ st.h = h2) L.length (by omega) ⟨0, by simp⟩ ?_
  rintro m ⟨t, h1⟩ ⟨i, rfl, hi, hno, q0, q1', q5, q6, e1⟩
  simp only at q0 q1' q5 q6 e1
  replace e1 := e1.symm
  subst e1
  have hf := findE_skip key i L hno
  by_cases hlt : i < L.length
  · obtain ⟨e, he⟩ : ∃ e, L[i]? = some e := ⟨L[i], by simp [hlt]⟩
    have ix := S1.idx (P := Try.prog) Try.underlying65 ts67 (j := i) hlt .i64
    have f0 := S1.ld (P := Try.prog) (e := 9) ta9 (j := i * 2) (x := .str e.1) (by have := cat_get ec_len he (o := 0) (by omega); exact this)
    have hd : L.drop i = e :: L.drop (i + 1) := by
      obtain ⟨z1, z2⟩ := List.getElem?_eq_some_iff.1 he
      rw [List.drop_eq_getElem_cons z1, z2]
    rw [hd] at hf
    simp only [findE] at hf
    by_cases hek : e.1 = key
    · rw [if_pos hek] at hf
      have hf : findE key L = some i := by rw [hf]; simp
      have hlp := hln i hf
      obtain ⟨s1, s2, u1, h3, u2, h4, a1, a2, a3, a4, a5, k4, f4, k3'⟩ := Mr.cutK (P := Try.prog) el65 (j := i) hlt (by omega)
      have k3 : Keep h2.next nob h2 (h2.new (.cells [] false)) := Keep.new (Nat.le_refl _) _
      have a5 : Mine 2 (cutE L i).length h4 u2 (cat ec (cutE L i)) := by
        rw [cutE_len hlt]
        unfold cutE
        rw [cat_append, ← cat_take ec_len, ← cat_drop ec_len]
        exact a5
      obtain ⟨h5, rn5, ro5, b1, b2, b3, b4, b5⟩ := O2.upd s.1 hr (k4.weak (Nat.le_refl _) fun _ _ q => q.elim) a5 (fun d hd => .inr (f4 d hd))
      rw [hV] at b1
      obtain ⟨h6, d1, O6, k6, n6⟩ := b2.put3 (c1.len - 1)
      have l3 := b2.ld3 (ty := 3) ta3
      have l3 : aload Try.prog h5 3 b 3 = some (.int .i64 (c1.len : Nat)) := by
        rw [l3, show (c1.setRow (s.fst, s.snd) (cutE L i)).len = c1.len from (q1 _).2.2.2]
      obtain ⟨q, hq⟩ : ∃ q, q = c1.len - 1 := ⟨_, rfl⟩
      have w2 : fwrap .i64 ((c1.len : Int) - 1) = (q : Nat) := by rw [i64w _ (by omega) (by omega)]; omega
      rw [← hq] at d1
      have wi := i64s (n := (i : Int) + 1) (by omega) (by omega)
      have rwu := row1_one a5.oneV
      have smr := Mr.sl.same
      have G0 : AgreeG (fun c => c = V.blk) h2 (h2.new (.cells [] false)) := fun c hc => get_new_old (by rw [hc]; exact vlt)
      have G1 : AgreeG (fun c => c = V.blk) (h2.new (.cells [] false)) h3 := fun c hc => by
        have hc2 : c < h2.next := by rw [hc]; exact vlt
        rw [k3'.2 c hc2 id, k3.2 c hc2 id]
      have ldA := R.ext k3 |>.own.sl.ld (P := Try.prog) ta65 hr
      have ldB := R.ext k3' |>.own.sl.ld (P := Try.prog) ta65 hr
      rw [hV] at ldA ldB
      simp [q0, q1', q5, q6, ld, S1.len', isLt (show (i : Int) < (L.length : Int) by omega), ix, f0, hek, hf]
      refine W_lateG [0, 0, 0, 4, 12, 0, 60, 126, 0, 256, 768, 0, 2048, 7936, 16382, 32767, 65535] [] 11 (fun c => c = V.blk) (by rfl) (by kernel_rfl) (by kernel_rfl) (by kernel_rfl) (by kernel_rfl) (fun c hc => by rw [hc]; exact vlt) ?_
      have nkA : ∀ h' : Heap, nextOk h2.next 0 h' = true := fun _ => rfl
      simp [resv, memN, isEff, isAlloc, isStore, mayEff, mayRead, aalloc, afill, insFl, oblG, sameAV, freeOk, nkA, q0, q1', q5, q6, ld, ldA, ldB, smr, G0, G1, a1, a2, a3, a4, wi, b1, rwu, l3, w2, d1]
      rw [hf]
      refine ⟨rfl, ⟨vn1, vo1, rn5, ro5, O6, fun d hd => ?_⟩, K2.trans ⟨Nat.le_trans b4.1 k6.1, fun d hd hn => ?_⟩⟩
      · rcases b3 d hd with z | z
        · exact f1 d z.1
        · have := K2.1; exact .inr (by omega)
      · have hd2 : d < h2.next := Nat.lt_of_lt_of_le hd K2.1
        have nf : ¬ d ∈ fpC b vn1 vo1 rn1 ro1 := fun z => (f1 d z).elim hn (by omega)
        rw [k6.2 d (Nat.lt_of_lt_of_le hd2 b4.1) (fun z => hn (fpS z)), b4.2 d hd2 nf]
    · rw [if_neg hek] at hf
      simp [q0, q1', q5, q6, ld, S1.len', isLt (show (i : Int) < (L.length : Int) by omega), ix, f0, hek, i64s (n := (i : Int) + 1) (by omega) (by omega)]
      refine ⟨L.length - (i + 1), by omega, i + 1, rfl, by omega, fun x y hx => ?_, by simp⟩
      rw [List.take_add_one, he] at hx
      simp only [Option.toList, List.mem_append, List.mem_singleton] at hx
      rcases hx with hx | hx
      · exact hno _ hx
      · have : x = e.1 := by rw [← hx]
        rw [this]; exact hek
  · obtain rfl : i = L.length := by omega
    rw [List.drop_length] at hf
    have hf : findE key L = none := by rw [hf]; rfl
    simp [q0, q1', q5, q6, ld, S1.len', hf]
    exact ⟨⟨vn1, vo1, rn1, ro1, O2, f1⟩, K2⟩

theorem cutE_mem {L : List Ent} {i : Nat} {e : Ent} (h : e ∈ cutE L i) : e ∈ L := by
  rcases List.mem_append.1 h with q | q
  · exact List.mem_of_mem_take q
  · exact List.mem_of_mem_drop q
theorem uniq_cut {L : List Ent} (i : Nat) (h : Uniq L) : Uniq (cutE L i) := by
  unfold cutE
  rw [← List.eraseIdx_eq_take_drop_succ]
  exact List.Nodup.sublist (List.Sublist.map _ (List.eraseIdx_sublist L i)) h
theorem look_cut {L : List Ent} {i : Nat} {e : Ent} (h : Uniq L) (he : L[i]? = some e) (k : ByteArray) : lookR k (cutE L i) = if k = e.1 then none else lookR k L := by
  have hi := (List.getElem?_eq_some_iff.1 he).1
  have el : L = L.take i ++ e :: L.drop (i + 1) := by
    obtain ⟨z1, z2⟩ := List.getElem?_eq_some_iff.1 he
    conv => lhs; rw [← List.take_append_drop i L, List.drop_eq_getElem_cons z1, z2]
  by_cases hk : k = e.1
  · rw [if_pos hk, look_none]
    intro x hx q
    obtain ⟨j, hj⟩ := List.getElem?_of_mem hx
    unfold cutE at hj
    rw [← List.eraseIdx_eq_take_drop_succ, List.getElem?_eraseIdx] at hj
    split at hj
    · have := uniq_idx h hj he (by rw [q, hk]); omega
    · have := uniq_idx h hj he (by rw [q, hk]); omega
  · rw [if_neg hk]
    conv => rhs; rw [el]
    unfold cutE
    rw [look_append, look_append]
    have : ¬ e.1 = k := fun q => hk q.symm
    simp [lookR, this]
theorem ChI.rdrop {N : Nat} {c : Ch} (I : ChI N c) (key : ByteArray) : ChI N (c.rdrop key).2 := by
  have I1 := I.step
  unfold Ch.rdrop
  generalize c.step = c1 at I1
  unfold Ch.rdrop1
  have rk := row_keys I1 key
  have tot := I1.len
  split
  · rename_i i hf
    obtain ⟨h1, h2⟩ := found_pos I1 hf
    exact ChI.setRow I1 key (L' := cutE (c1.row (c1.sel key)) i) (m := c1.len - 1) (fun e he => rk e (cutE_mem he)) (by rw [cutE_len h1]; omega) (by omega)
  · exact I1
theorem rdrop_map {N : Nat} {c : Ch} (I : ChI N c) (M : ChM c) (key : ByteArray) :
    (c.rdrop key).1 = (c.get key).isSome ∧ ChM (c.rdrop key).2 ∧ ∀ k, (c.rdrop key).2.get k = if k = key then none else c.get k := by
  have I1 := I.step
  have M1 := M.step I
  have G := step_get I M
  unfold Ch.rdrop
  have key0 : ∀ k, c.get k = c.step.get k := fun k => (G k).symm
  simp only [key0]
  clear key0 G
  generalize c.step = c1 at *
  have n0 := I1.n0
  have hrow := pos_row c1 key n0
  have hu : Uniq (c1.row (c1.sel key)) := M1.un _ (mem_rows.2 ⟨_, _, hrow⟩)
  unfold Ch.rdrop1
  cases hf : findE key (c1.row (c1.sel key)) with
  | some i =>
    obtain ⟨e, he, hek⟩ := findE_lt hf
    simp only
    refine ⟨?_, ?_, fun k => ?_⟩
    · cases hg : c1.get key with
      | none => rw [get_look] at hg; rw [find_none.2 hg] at hf; cases hf
      | some x => rfl
    · exact setRow_ChM n0 M1 key _ (uniq_cut i hu) fun x hx => .inl (cutE_mem hx)
    · rw [setRow_get n0 key]
      have ls := look_cut hu he k
      rw [hek] at ls
      by_cases hs : c1.sel k = c1.sel key
      · rw [if_pos hs, ls]
        by_cases hkk : k = key
        · rw [if_pos hkk, if_pos hkk]
        · rw [if_neg hkk, if_neg hkk, get_look, hs]
      · rw [if_neg hs, if_neg (fun q => hs (by rw [q]))]
  | none =>
    simp only
    have hnone := find_none.1 hf
    refine ⟨?_, M1, fun k => ?_⟩
    · rw [get_look, hnone]; rfl
    · by_cases hkk : k = key
      · subst hkk; rw [if_pos rfl, get_look, hnone]
      · rw [if_neg hkk]
/-- A table's shape. -/
def Ch.shp (c : Ch) : Nat × Nat × Nat × Nat := (c.now.length, c.old.length, c.moved, c.len)
theorem shp_step {c r : Ch} (h : c.shp = r.shp) : c.step.shp = r.step.shp := by
  unfold Ch.shp at *
  simp only [Prod.mk.injEq] at h
  obtain ⟨h1, h2, h3, h4⟩ := h
  have key : ∀ x : Ch, x.step.shp = if x.old.length = 0 then x.shp else if x.moved + 1 = x.old.length then (x.now.length, 0, 0, x.len) else (x.now.length, x.old.length, x.moved + 1, x.len) := fun x => by
    unfold Ch.step Ch.shp
    split
    · rfl
    · split <;> simp [moves_len]
  have a := key c
  have b := key r
  unfold Ch.shp at a b
  rw [a, b, h1, h2, h3, h4]
theorem shp_set (c : Ch) (s : Bool × Nat) (L : List Ent) : (c.setRow s L).shp = c.shp := by
  obtain ⟨h1, h2, h3, h4⟩ := setRow_len c s L
  unfold Ch.shp
  rw [h1, h2, h3, h4]
theorem shp_grow {c r : Ch} (h : c.shp = r.shp) : c.grow.shp = r.grow.shp := by
  unfold Ch.shp at *
  simp only [Prod.mk.injEq] at h
  obtain ⟨h1, h2, h3, h4⟩ := h
  unfold Ch.grow
  rw [h1, h2, h4]
  split
  · simp [h1, h3, h4]
  · simp [h1, h2, h3, h4]
theorem shp_put {c r : Ch} (h : c.shp = r.shp) {key : ByteArray} {n : Int} (e : (c.put key n).1 = (r.put key n).1) : (c.put key n).2.shp = (r.put key n).2.shp := by
  have h := shp_step h
  unfold Ch.put Ch.put1 at *
  generalize c.step = c at *
  generalize r.step = r at *
  cases h1 : findE key (c.row (c.sel key)) with
  | some i =>
    cases h2 : findE key (r.row (r.sel key)) with
    | some j => simp only [shp_set, h]
    | none => rw [h1, h2] at e; cases e
  | none =>
    cases h2 : findE key (r.row (r.sel key)) with
    | some j => rw [h1, h2] at e; cases e
    | none =>
      simp only
      refine shp_grow ?_
      have a := shp_set c (c.sel key) (c.row (c.sel key) ++ [(key, n)])
      have b := shp_set r (r.sel key) (r.row (r.sel key) ++ [(key, n)])
      unfold Ch.add Ch.shp at *
      simp only [Prod.mk.injEq] at *
      omega
theorem shp_drop {c r : Ch} (h : c.shp = r.shp) {key : ByteArray} (e : (c.drop key).1 = (r.rdrop key).1) : (c.drop key).2.shp = (r.rdrop key).2.shp := by
  have h := shp_step h
  unfold Ch.drop Ch.drop1 Ch.rdrop Ch.rdrop1 at *
  generalize c.step = c at *
  generalize r.step = r at *
  cases h1 : findE key (c.row (c.sel key)) with
  | some i =>
    cases h2 : findE key (r.row (r.sel key)) with
    | some j =>
      have a := shp_set c (c.sel key) (swapOut (c.row (c.sel key)) i)
      have b := shp_set r (r.sel key) (cutE (r.row (r.sel key)) j)
      unfold Ch.shp at *
      simp only [Prod.mk.injEq] at *
      omega
    | none => rw [h1, h2] at e; cases e
  | none =>
    cases h2 : findE key (r.row (r.sel key)) with
    | some j => rw [h1, h2] at e; cases e
    | none => exact h
/-- The program's table and the document's, told the same. -/
structure SR (N : Nat) (c r : Ch) : Prop where
  ic : ChI N c
  ir : ChI N r
  mc : ChM c
  mr : ChM r
  shp : c.shp = r.shp
  get : ∀ k, c.get k = r.get k
section
variable {N : Nat} {c r : Ch}
theorem SR.new (N : Nat) : SR N .new .new := ⟨ChI.new N, ChI.new N, ChM.new, ChM.new, rfl, fun _ => rfl⟩
theorem SR.put (S : SR N c r) {key : ByteArray} (hk : key.size ≤ 1000) (n : Int) : (c.put key n).1 = (r.put key n).1 ∧ SR (N + 1) (c.put key n).2 (r.put key n).2 := by
  obtain ⟨a1, a2, a3⟩ := put_map S.ic S.mc hk n
  obtain ⟨b1, b2, b3⟩ := put_map S.ir S.mr hk n
  have e : (c.put key n).1 = (r.put key n).1 := by rw [a1, b1, S.get]
  exact ⟨e, S.ic.put hk n, S.ir.put hk n, a2, b2, shp_put S.shp e, fun k => by rw [a3, b3, S.get]⟩
theorem SR.drop (S : SR N c r) (key : ByteArray) : (c.drop key).1 = (r.rdrop key).1 ∧ SR N (c.drop key).2 (r.rdrop key).2 := by
  obtain ⟨a1, a2, a3⟩ := drop_map S.ic S.mc key
  obtain ⟨b1, b2, b3⟩ := rdrop_map S.ir S.mr key
  have e : (c.drop key).1 = (r.rdrop key).1 := by rw [a1, b1, S.get]
  exact ⟨e, S.ic.drop key, S.ir.rdrop key, a2, b2, shp_drop S.shp e, fun k => by rw [a3, b3, S.get]⟩
theorem SR.mono {M : Nat} (S : SR N c r) (h : N ≤ M) : SR M c r := ⟨S.ic.mono h, S.ir.mono h, S.mc, S.mr, S.shp, S.get⟩
end
end Go.Proofs.Ytdnjhipgfbhecaa
