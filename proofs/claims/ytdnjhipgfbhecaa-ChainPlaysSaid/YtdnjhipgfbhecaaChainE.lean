/- chain.Chain: Put, Drop. -/
import Derived.Test.YtdnjhipgfbhecaaChainD
namespace Go.Proofs.Ytdnjhipgfbhecaa
open Go Go.YtdnjhipgfbhecaaAbs
set_option linter.unusedSimpArgs false
set_option linter.unusedVariables false
set_option maxRecDepth 4000

theorem setRow_len (c : Ch) (s : Bool × Nat) (L : List Ent) : (c.setRow s L).now.length = c.now.length ∧ (c.setRow s L).old.length = c.old.length ∧ (c.setRow s L).moved = c.moved ∧ (c.setRow s L).len = c.len := by
  unfold Ch.setRow
  split <;> simp
theorem fpS {b : Nat} {vn vo : AV} {rn ro : List AV} {d : Nat} : d = b → d ∈ fpC b vn vo rn ro := fun q => by rw [q]; exact ChO.atB rn ro vn vo

/-- The buckets get old. -/
theorem ChO.grown {h : Heap} {b : Nat} {c : Ch} {vn vo : AV} {rn ro : List AV} (O : ChO h b c vn vo rn ro) (h0 : c.old.length = 0) (r p : Nat) (hp : p < r) :
    ∃ h1 h2, alay (h.bump r) b 1 [vn] = some h1 ∧ alay (h1.at_ (h.next + p) (.cells (List.replicate (2 * c.now.length) .nils) false)) b 0 [.sl (h.next + p) 0 (2 * c.now.length) (2 * c.now.length) 1 true] = some h2 ∧ h1.next = h.next + r ∧
      ChO h2 b ⟨List.replicate (2 * c.now.length) [], c.now, c.moved, c.len⟩ (.sl (h.next + p) 0 (2 * c.now.length) (2 * c.now.length) 1 true) vn (List.replicate (2 * c.now.length) .nils) rn ∧
      (∀ d, d ∈ fpC b (.sl (h.next + p) 0 (2 * c.now.length) (2 * c.now.length) 1 true) vn (List.replicate (2 * c.now.length) .nils) rn → d ∈ fpC b vn vo rn ro ∨ h.next ≤ d) ∧ Keep h.next (fun d => d = b) h h2 ∧ h2.next = h.next + r := by
  obtain ⟨M, hM⟩ : ∃ M, M = 2 * c.now.length := ⟨_, rfl⟩
  rw [← hM]
  have hb := O.lt
  have a1 : alay (h.bump r) b 1 [vn] = some ((h.bump r).set b (.cells [vn, vn, .int .i64 (c.moved : Nat), .int .i64 (c.len : Nat)] false)) := by
    unfold alay; rw [get_bump, O.str]; rfl
  have a2 : alay ((((h.bump r).set b (.cells [vn, vn, .int .i64 (c.moved : Nat), .int .i64 (c.len : Nat)] false)).at_ (h.next + p) (.cells (List.replicate M .nils) false))) b 0 [.sl (h.next + p) 0 M M 1 true] =
      some ((((h.bump r).set b (.cells [vn, vn, .int .i64 (c.moved : Nat), .int .i64 (c.len : Nat)] false)).at_ (h.next + p) (.cells (List.replicate M .nils) false)).set b (.cells [.sl (h.next + p) 0 M M 1 true, vn, .int .i64 (c.moved : Nat), .int .i64 (c.len : Nat)] false)) := by
    unfold alay; rw [Heap.get_at, if_neg (by omega), get_set_self]; rfl
  have K : Keep h.next (fun d => d = b) h ((((h.bump r).set b (.cells [vn, vn, .int .i64 (c.moved : Nat), .int .i64 (c.len : Nat)] false)).at_ (h.next + p) (.cells (List.replicate M .nils) false)).set b (.cells [.sl (h.next + p) 0 M M 1 true, vn, .int .i64 (c.moved : Nat), .int .i64 (c.len : Nat)] false)) :=
    ⟨Nat.le_add_right _ _, fun d hd hn => by rw [get_set_ne (fun q => hn q.symm), Heap.get_at, if_neg (by omega), get_set_ne (fun q => hn q.symm), get_bump]⟩
  have g1 : ((((h.bump r).set b (.cells [vn, vn, .int .i64 (c.moved : Nat), .int .i64 (c.len : Nat)] false)).at_ (h.next + p) (.cells (List.replicate M .nils) false)).set b (.cells [.sl (h.next + p) 0 M M 1 true, vn, .int .i64 (c.moved : Nat), .int .i64 (c.len : Nat)] false)).get b = some (.cells [.sl (h.next + p) 0 M M 1 true, vn, .int .i64 (c.moved : Nat), .int .i64 (c.len : Nat)] false) := get_set_self _ _ _
  have g2 : ((((h.bump r).set b (.cells [vn, vn, .int .i64 (c.moved : Nat), .int .i64 (c.len : Nat)] false)).at_ (h.next + p) (.cells (List.replicate M .nils) false)).set b (.cells [.sl (h.next + p) 0 M M 1 true, vn, .int .i64 (c.moved : Nat), .int .i64 (c.len : Nat)] false)).get (h.next + p) = some (.cells (List.replicate M .nils) false) := by
    rw [get_set_ne (by omega), Heap.get_at, if_pos rfl]
  have n2 : ((((h.bump r).set b (.cells [vn, vn, .int .i64 (c.moved : Nat), .int .i64 (c.len : Nat)] false)).at_ (h.next + p) (.cells (List.replicate M .nils) false)).set b (.cells [.sl (h.next + p) 0 M M 1 true, vn, .int .i64 (c.moved : Nat), .int .i64 (c.len : Nat)] false)).next = h.next + r := rfl
  have n1 : ((h.bump r).set b (.cells [vn, vn, .int .i64 (c.moved : Nat), .int .i64 (c.len : Nat)] false)).next = h.next + r := rfl
  generalize (h.bump r).set b (.cells [vn, vn, .int .i64 (c.moved : Nat), .int .i64 (c.len : Nat)] false) = h1 at *
  generalize (h1.at_ (h.next + p) (.cells (List.replicate M .nils) false)).set b (.cells [.sl (h.next + p) 0 M M 1 true, vn, .int .i64 (c.moved : Nat), .int .i64 (c.len : Nat)] false) = h2 at *
  have A := O.apart
  have nb : ∀ d, d ∈ blks (vn :: rn) → d ≠ b := fun d hd q => by
    unfold Apart at A
    rw [blks_cons, List.nodup_append] at A
    obtain ⟨u, hu, hu'⟩ := mem_blks.1 hd
    exact A.2.2 b (by simp) d (mem_blks.2 ⟨u, by rcases List.mem_cons.1 hu with rfl | hu <;> simp [*], hu'⟩) q.symm
  have bl : ∀ d, d ∈ blks (vn :: rn) → d < h.next := fun d hd => O.now.lt hd
  have bnil : ∀ m, blks (List.replicate m AV.nils) = [] := fun m => by
    induction m with
    | zero => rfl
    | succ m ih => rw [List.replicate_succ, blks_cons, ih]; rfl
  have fpE : fpC b (.sl (h.next + p) 0 M M 1 true) vn (List.replicate M .nils) rn = b :: (h.next + p) :: blks (vn :: rn) := by
    unfold fpC
    rw [blks_cons, blks_cons, blks_cons, blks_append, bnil, blks_cons vn rn]
    simp
  refine ⟨h1, h2, a1, a2, n1, ⟨g1, by omega, ⟨?_, by simp, fun i r' L hr hL => ?_⟩, O.now.keep K fun d hd => nb d hd, ?_⟩, fun d hd => ?_, K, n2⟩
  · refine .inr ⟨h.next + p, 0, M, true, _, by simp, .inl rfl, by omega, g2, by simp, by simp, by simp, by simp, ?_⟩
    rw [List.all_replicate]
    simp
  · have e1 := List.eq_of_mem_replicate (List.mem_of_getElem? hr)
    have e2 := List.eq_of_mem_replicate (List.mem_of_getElem? hL)
    subst e1 e2
    exact Mine.nil 2 _
  · have e := fpE
    unfold fpC at e
    unfold Apart
    rw [e, List.nodup_cons, List.nodup_cons]
    refine ⟨fun q => ?_, fun q => ?_, ?_⟩
    · rcases List.mem_cons.1 q with q | q
      · omega
      · exact nb b q rfl
    · have := bl _ q; omega
    · have : Apart (vn :: rn) := O.apart.sub (.cons _ (.cons_cons _ (.cons _ (List.sublist_append_left _ _))))
      exact this
  · rw [fpE] at hd
    rcases List.mem_cons.1 hd with q | hd
    · exact .inl (fpS q)
    · rcases List.mem_cons.1 hd with q | hd
      · exact .inr (by omega)
      · obtain ⟨u, hu, hu'⟩ := mem_blks.1 hd
        exact .inl (mem_blks.2 ⟨u, by rcases List.mem_cons.1 hu with rfl | hu <;> simp [*], hu'⟩)

theorem put_ok (k : Nat) (hk : 200000 < k) (h : Heap) (b : Nat) (c : Ch) (vn vo : AV) (rn ro : List AV) (O : ChO h b c vn vo rn ro) (C : ChOk c) (C1 : ChOk c.step) (key : ByteArray) (hm : key.size ≤ 1000) (n : Int) :
    ∃ v' h', acall Try.prog (k + 3) 10 [.ptr b 0, .str key, .int .i64 n] h = some (v', h') ∧ v' = .bool (c.put key n).1 ∧ (∃ vn' vo' rn' ro', ChO h' b (c.put key n).2 vn' vo' rn' ro' ∧ ∀ d, d ∈ fpC b vn' vo' rn' ro' → d ∈ fpC b vn vo rn ro ∨ h.next ≤ d) ∧ Keep h.next (fun d => d ∈ fpC b vn vo rn ro) h h' := by
  obtain ⟨v1, h1, E1, ⟨vn1, vo1, rn1, ro1, O1, f1⟩, K1⟩ := step_ok k hk h b c vn vo rn ro O C
  unfold Ch.put
  generalize hc1 : c.step = c1 at *
  have n1 := C1.n1; have o1 := C1.o1; have m1 := C1.m1; have n0 := C1.n0; have l1 := C1.len
  have B := bucket_ok k h1 b c1 vn1 vo1 rn1 ro1 O1 key (by omega) (by omega) n0 (by omega) (by omega) (by omega)
  have hrow := pos_row c1 key n0
  have hsm := row_small C1 key
  have q1 := setRow_len c1 (c1.sel key)
  have eadd : c1.add key n = ⟨(c1.setRow (c1.sel key) (c1.row (c1.sel key) ++ [(key, n)])).now, (c1.setRow (c1.sel key) (c1.row (c1.sel key) ++ [(key, n)])).old, (c1.setRow (c1.sel key) (c1.row (c1.sel key) ++ [(key, n)])).moved, c1.len + 1⟩ := rfl
  unfold Ch.put1
  generalize hL : c1.row (c1.sel key) = L at *
  generalize hs : c1.sel key = s at *
  obtain ⟨R, A⟩ := O1.sub s.1
  obtain ⟨r, hr, Mr⟩ := R.row hrow
  have ld := R.own.sl.ld (P := Try.prog) ta60 hr
  obtain ⟨v2, h2, E2, e2, k2⟩ := find_ok (k + 1) h1 r key L Mr.sl (by omega) (by omega)
  subst e2
  have O2 := O1.ext k2
  have M2 := Mr.ext k2
  have R2 := R.ext k2
  have ld2 := R2.own.sl.ld (P := Try.prog) ta60 hr
  have K2 : Keep h.next (fun d => d ∈ fpC b vn vo rn ro) h h2 := K1.trans (k2.weak K1.1 fun _ _ q => q.elim)
  cases hf : findE key L with
  | some i =>
    have hz : findZ key L = (i : Nat) := by unfold findZ; rw [hf]
    rw [hz] at E2
    obtain ⟨e, he, hek⟩ := findE_lt hf
    have hil := (List.getElem?_eq_some_iff.1 he).1
    have ix := M2.sl.idx (P := Try.prog) Try.underlying60 ts62 (j := i) hil .i64
    have hset := cat_set1 ec_len (L := L) (j := i) (x := e) (y := (key, n)) he (o := 1) (by omega) (a := .int .i64 n) (by simp [ec, hek])
    obtain ⟨h3, a1, a2, a3, a4⟩ := M2.lay (j := i * 2 + 1) (vs := [.int .i64 n]) (by rw [M2.length]; simp; omega) (by omega) rfl
    rw [List.length_singleton, hset] at a2
    rw [← Nat.add_assoc] at a1
    have a2 : Mine 2 (L.set i (key, n)).length h3 r (cat ec (L.set i (key, n))) := by rw [List.length_set]; exact a2
    obtain ⟨b1, b2⟩ := O2.upd0 s.1 hr a3 a2
    rw [acall_text [11] Try.func10 (by kernel_rfl)]
    refine afuncT_ex rfl (by simp [Try.f10]) ?_
    simp [Try.f10, E1, B, ld, E2, isLe (show (0 : Int) ≤ (i : Int) by omega), ld2, ix, a1]
    refine ⟨⟨vn1, vo1, rn1, ro1, b1, f1⟩, K2.trans (b2.weak K2.1 fun d hd q => ?_)⟩
    rcases f1 d q with z | z
    · exact z
    · omega
  | none =>
    have hz : findZ key L = -1 := by unfold findZ; rw [hf]
    rw [hz] at E2
    obtain ⟨u, u', h4, h5, rn5, ro5, b1, b2, b3, b3', b4, b5, b6, b7⟩ := O2.app s.1 hrow (by omega) (key, n) el60
    obtain rfl : r = u := Option.some.inj (hr.symm.trans b1)
    obtain ⟨h6, d1, O6, k6, n6⟩ := b5.put3 (c1.len + 1)
    have q1' := q1 (L ++ [(key, n)])
    have O6 : ChO h6 b (c1.add key n) vn1 vo1 rn5 ro5 := by rw [eadd]; exact O6
    have t1 : (c1.add key n).now.length = c1.now.length := by rw [eadd]; exact q1'.1
    have t2 : (c1.add key n).old.length = c1.old.length := by rw [eadd]; exact q1'.2.1
    have t4 : (c1.add key n).len = c1.len + 1 := by rw [eadd]
    have l3 := b5.ld3 (ty := 3) ta3
    have l3 : aload Try.prog h5 3 b 3 = some (.int .i64 (c1.len : Nat)) := by rw [l3]; rw [show (c1.setRow (s.fst, s.snd) (L ++ [(key, n)])).len = c1.len from q1'.2.2.2]
    have d1 : alay h5 b 3 [.int .i64 ((c1.len : Int) + 1)] = some h6 := d1
    have fp6 : ∀ d, d ∈ fpC b vn1 vo1 rn5 ro5 → d ∈ fpC b vn vo rn ro ∨ h.next ≤ d := fun d hd => by
      rcases b6 d hd with z | z
      · exact f1 d z
      · have := K2.1; exact .inr (by omega)
    have K6 : Keep h.next (fun d => d ∈ fpC b vn vo rn ro) h h6 := by
      refine K2.trans ⟨Nat.le_trans b7.1 k6.1, fun d hd hn => ?_⟩
      have hd2 : d < h2.next := Nat.lt_of_lt_of_le hd K2.1
      rw [k6.2 d (Nat.lt_of_lt_of_le hd2 b7.1) (fun q => hn (fpS q)), b7.2 d hd2 (fun z => (f1 d z).elim hn (by omega))]
    generalize hc2 : c1.add key n = c2 at *
    have x0 := O6.ld0 (ty := 54) ta54
    have x1 := O6.ld1 (ty := 54) ta54
    have x3 := O6.ld3 (ty := 3) ta3
    have y0 := O6.lenN
    have y1 := O6.lenO
    have w1 := i64s (n := (c1.len : Int) + 1) (by omega) (by omega)
    obtain ⟨W, hW⟩ : ∃ W, W = 2 * c2.now.length := ⟨_, rfl⟩
    have w2 : fwrap .i64 (2 * (c2.now.length : Int)) = (W : Nat) := by rw [i64w _ (by omega) (by omega)]; omega
    have rwu := row1_one b3'
    simp only []
    rw [acall_text [11] Try.func10 (by kernel_rfl)]
    refine afuncT_ex rfl (by simp [Try.f10]) ?_
    have b3 : aappend Try.prog (h2.new (.cells [.str key, .int .i64 n] false)) 60 60 r (.sl h2.next 0 1 1 2 true) = some (u', h4) := b3
    unfold Ch.grow
    by_cases g1 : c2.old.length = 0
    · by_cases g2 : 2 * c2.now.length < c2.len
      · by_cases g3 : c2.now.length < 4096
        · rw [if_pos ⟨g1, g2, g3⟩]
          obtain ⟨h7, h8, a1, a2, n7, O8, f8, k8, n8⟩ := O6.grown g1 15 8 (by omega)
          rw [← hW] at a2 O8 f8
          simp [Try.f10, E1, B, ld, E2, ld2, aalloc, afill, row1_agg, b3, b4, rwu, l3, w1, d1, x0, x1, x3, y0, y1, g1, w2, isLt (show (W : Int) < (c2.len : Int) by omega), isLt (show (c2.now.length : Int) < 4096 by omega)]
          refine W_late [0, 0, 0, 4, 12, 28, 0, 64, 192, 61, 573, 1597, 4095, 8191, 16383] [8] (by rfl) (by kernel_rfl) (by kernel_rfl) (by kernel_rfl) (by kernel_rfl) ?_
          have x0' : aload Try.prog (h6.bump 15) 54 b 0 = some vn1 := x0
          have rv := row1_one O6.now.own.oneV
          have nk : nextOk h6.next 15 h7 = true := by unfold nextOk; rw [n7]; exact Nat.ble_eq_true_of_le (Nat.le_refl _)
          have nk8 : nextOk h6.next 15 h8 = true := by unfold nextOk; rw [n8]; exact Nat.ble_eq_true_of_le (Nat.le_refl _)
          simp [resv, memN, isStore, isEff, isAlloc, mayEff, alate_make, x0', w2, insFl, rv, a1, nk, aalloc_make (P := Try.prog) el54 (z := [.nils]) az60 rfl rfl W W (Nat.le_refl _) (by omega), flat1, a2, nk8, show Nat.testBit 1597 8 = false by decide, show Nat.testBit 16383 8 = true by decide]
          rw [hW] at O8 f8
          refine ⟨⟨_, _, _, _, O8, fun d hd => ?_⟩, K6.trans (k8.weak K6.1 fun d _ q => fpS q)⟩
          rcases f8 d hd with z | z
          · exact fp6 d z
          · have := K6.1; exact .inr (by omega)
        · rw [if_neg (fun q => g3 q.2.2)]
          simp [Try.f10, E1, B, ld, E2, ld2, aalloc, afill, row1_agg, b3, b4, rwu, l3, w1, d1, x0, x1, x3, y0, y1, g1, w2, isLt (show (W : Int) < (c2.len : Int) by omega), isLe (show (4096 : Int) ≤ (c2.now.length : Int) by omega)]
          exact ⟨⟨vn1, vo1, rn5, ro5, O6, fp6⟩, K6⟩
      · rw [if_neg (fun q => g2 q.2.1)]
        simp [Try.f10, E1, B, ld, E2, ld2, aalloc, afill, row1_agg, b3, b4, rwu, l3, w1, d1, x0, x1, x3, y0, y1, g1, w2, isLe (show (c2.len : Int) ≤ (W : Int) by omega)]
        exact ⟨⟨vn1, vo1, rn5, ro5, O6, fp6⟩, K6⟩
    · rw [if_neg (fun q => g1 q.1)]
      simp [Try.f10, E1, B, ld, E2, ld2, aalloc, afill, row1_agg, b3, b4, rwu, l3, w1, d1, x0, x1, x3, y0, y1, g1]
      exact ⟨⟨vn1, vo1, rn5, ro5, O6, fp6⟩, K6⟩

theorem swapOut_len {L : List Ent} {i : Nat} (h : i < L.length) : (swapOut L i).length = L.length - 1 := by
  unfold swapOut
  rw [List.length_take, List.length_set]
  omega
theorem drop_ok (k : Nat) (hk : 200000 < k) (h : Heap) (b : Nat) (c : Ch) (vn vo : AV) (rn ro : List AV) (O : ChO h b c vn vo rn ro) (C : ChOk c) (C1 : ChOk c.step) (key : ByteArray) (hm : key.size ≤ 1000) (hln : ∀ i, findE key (c.step.row (c.step.sel key)) = some i → 0 < c.step.len) :
    ∃ v' h', acall Try.prog (k + 3) 21 [.ptr b 0, .str key] h = some (v', h') ∧ v' = .bool (c.drop key).1 ∧ (∃ vn' vo' rn' ro', ChO h' b (c.drop key).2 vn' vo' rn' ro' ∧ ∀ d, d ∈ fpC b vn' vo' rn' ro' → d ∈ fpC b vn vo rn ro ∨ h.next ≤ d) ∧ Keep h.next (fun d => d ∈ fpC b vn vo rn ro) h h' := by
  obtain ⟨v1, h1, E1, ⟨vn1, vo1, rn1, ro1, O1, f1⟩, K1⟩ := step_ok k hk h b c vn vo rn ro O C
  unfold Ch.drop
  generalize hc1 : c.step = c1 at *
  have n1 := C1.n1; have o1 := C1.o1; have m1 := C1.m1; have n0 := C1.n0; have l1 := C1.len
  have B := bucket_ok k h1 b c1 vn1 vo1 rn1 ro1 O1 key (by omega) (by omega) n0 (by omega) (by omega) (by omega)
  have hrow := pos_row c1 key n0
  have hsm := row_small C1 key
  have q1 := setRow_len c1 (c1.sel key)
  unfold Ch.drop1
  generalize hL : c1.row (c1.sel key) = L at *
  generalize hs : c1.sel key = s at *
  obtain ⟨R, A⟩ := O1.sub s.1
  obtain ⟨r, hr, Mr⟩ := R.row hrow
  have ld := R.own.sl.ld (P := Try.prog) ta60 hr
  obtain ⟨v2, h2, E2, e2, k2⟩ := find_ok (k + 1) h1 r key L Mr.sl (by omega) (by omega)
  subst e2
  have O2 := O1.ext k2
  have M2 := Mr.ext k2
  have R2 := R.ext k2
  have ld2 := R2.own.sl.ld (P := Try.prog) ta60 hr
  have K2 : Keep h.next (fun d => d ∈ fpC b vn vo rn ro) h h2 := K1.trans (k2.weak K1.1 fun _ _ q => q.elim)
  cases hf : findE key L with
  | none =>
    have hz : findZ key L = -1 := by unfold findZ; rw [hf]
    rw [hz] at E2
    rw [acall_text [] Try.func21 (by kernel_rfl)]
    refine afuncT_ex rfl (by simp [Try.f21]) ?_
    simp [Try.f21, E1, B, ld, E2]
    exact ⟨⟨vn1, vo1, rn1, ro1, O2, f1⟩, K2⟩
  | some i =>
    have hz : findZ key L = (i : Nat) := by unfold findZ; rw [hf]
    rw [hz] at E2
    have hlp := hln i hf
    obtain ⟨e, he, hek⟩ := findE_lt hf
    have hil := (List.getElem?_eq_some_iff.1 he).1
    obtain ⟨p, hp⟩ : ∃ p, p = L.length - 1 := ⟨_, rfl⟩
    obtain ⟨e', he'⟩ : ∃ e', L[p]? = some e' := ⟨L[p]'(by omega), by simp⟩
    have ix := M2.sl.idx (P := Try.prog) Try.underlying60 ts62 (j := i) hil .i64
    have ixp := M2.sl.idx (P := Try.prog) Try.underlying60 ts62 (j := p) (by omega) .i64
    have ldp := M2.sl.lds (P := Try.prog) ta62 ts62 (j := p * 2) (by rw [M2.length]; omega) (by omega)
    rw [cat_at ec_len he'] at ldp
    obtain ⟨h3, a1, a2, a3, a4⟩ := M2.lay (j := i * 2) (vs := ec e') (by rw [M2.length]; simp [ec]; omega) (by omega) rfl
    rw [cat_set ec_len hil] at a2
    have a2 : Mine 2 (L.set i e').length h3 r (cat ec (L.set i e')) := by rw [List.length_set]; exact a2
    obtain ⟨O3, K3⟩ := O2.upd0 s.1 hr a3 a2
    have hr3 : (pick2 s.1 ro1 rn1)[s.2]? = some r := hr
    have R3 := (O3.sub s.1).1
    have ld3 := R3.own.sl.ld (P := Try.prog) ta60 hr
    obtain ⟨r', g1, g2, g3⟩ := a2.to (P := Try.prog) (ty := 60) Try.underlying60 ts62 (k := .i64) (j := p) (by rw [List.length_set]; omega)
    rw [cat_take ec_len] at g2
    have esw : swapOut L i = (L.set i e').take p := by unfold swapOut; rw [← hp, he']; rfl
    rw [← esw] at g2
    have g2 : Mine 2 (swapOut L i).length h3 r' (cat ec (swapOut L i)) := by rw [swapOut_len hil, ← hp]; exact g2
    obtain ⟨h4, rn4, ro4, b1, b2, b3, b4, b5⟩ := O3.upd s.1 hr (Keep.refl _ _ _) g2 (fun d hd => .inl (by unfold Has at hd ⊢; rw [← g3]; exact hd))
    obtain ⟨h5, d1, O5, k5, n5⟩ := b2.put3 (c1.len - 1)
    have q2 : ∀ L L', ((c1.setRow s L).setRow (s.1, s.2) L') = c1.setRow s L' := fun L L' => by
      unfold Ch.setRow
      cases s.1 <;> simp
    have O5' : ChO h5 b ⟨(c1.setRow s (swapOut L i)).now, (c1.setRow s (swapOut L i)).old, (c1.setRow s (swapOut L i)).moved, c1.len - 1⟩ vn1 vo1 rn4 ro4 := by
      rw [← q2 (L.set i e') (swapOut L i)]
      exact O5
    have l3 := b2.ld3 (ty := 3) ta3
    have l3 : aload Try.prog h4 3 b 3 = some (.int .i64 (c1.len : Nat)) := by
      rw [l3, show (((c1.setRow (s.fst, s.snd) (L.set i e')).setRow (s.fst, s.snd) (swapOut L i))).len = c1.len from (setRow_len _ _ _).2.2.2.trans (setRow_len _ _ _).2.2.2]
    have w1 : fwrap .i64 ((L.length : Int) - 1) = (p : Nat) := by rw [i64w _ (by omega) (by omega)]; omega
    obtain ⟨q, hq⟩ : ∃ q, q = c1.len - 1 := ⟨_, rfl⟩
    have w2 : fwrap .i64 ((c1.len : Int) - 1) = (q : Nat) := by rw [i64w _ (by omega) (by omega)]; omega
    rw [← hq] at d1
    have rwr := row1_one g2.oneV
    have rwe : (AV.agg (ec e')).row1 = some (ec e') := rfl
    have le : (ec e').length = 2 := rfl
    rw [acall_text [] Try.func21 (by kernel_rfl)]
    refine afuncT_ex rfl (by simp [Try.f21]) ?_
    simp [Try.f21, E1, B, ld, E2, isLe (show (0 : Int) ≤ (i : Int) by omega), ld2, M2.sl.len', w1, ixp, ldp, ix, rwe, le, a1, ld3, g1, rwr, b1, l3, w2, d1]
    refine ⟨⟨vn1, vo1, rn4, ro4, O5', fun d hd => ?_⟩, K2.trans ⟨Nat.le_trans K3.1 (Nat.le_trans b4.1 k5.1), fun d hd hn => ?_⟩⟩
    · rcases b3 d hd with z | z
      · exact f1 d z.1
      · have := K2.1; have := K3.1; exact .inr (by omega)
    · have hd2 : d < h2.next := Nat.lt_of_lt_of_le hd K2.1
      have nf : ¬ d ∈ fpC b vn1 vo1 rn1 ro1 := fun z => (f1 d z).elim hn (by omega)
      have hd3 : d < h3.next := Nat.lt_of_lt_of_le hd2 K3.1
      rw [k5.2 d (Nat.lt_of_lt_of_le hd3 b4.1) (fun z => hn (fpS z)), b4.2 d hd3 nf, K3.2 d hd2 nf]
end Go.Proofs.Ytdnjhipgfbhecaa
