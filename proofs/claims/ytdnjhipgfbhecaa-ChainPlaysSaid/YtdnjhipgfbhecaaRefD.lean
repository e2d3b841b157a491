/- depotref5.Chain: Get, Put, Drop. -/
import Derived.Test.YtdnjhipgfbhecaaRefC
import Derived.Test.YtdnjhipgfbhecaaChainM
import Derived.Test.YtdnjhipgfbhecaaAbsO2
namespace Go.Proofs.Ytdnjhipgfbhecaa
open Go Go.YtdnjhipgfbhecaaAbs
set_option linter.unusedSimpArgs false
set_option linter.unusedVariables false
set_option maxRecDepth 4000

theorem rcget_ok (k : Nat) (hk : 200000 < k) (h : Heap) (b : Nat) (c : Ch) (vn vo : AV) (rn ro : List AV) (O : ChO h b c vn vo rn ro) (C : ChOk c) (key : ByteArray) (hm : key.size ≤ 1000) :
    ∃ v' h', acall Try.prog (k + 3) 20 [.ptr b 0, .str key] h = some (v', h') ∧ v' = .tup [.int .i64 ((c.get key).getD 0), .bool (c.get key).isSome] ∧ h' = h := by
  rw [acall_text [] Try.func20 (by kernel_rfl)]
  refine afuncT_ex rfl (by simp [Try.f20]) ?_
  have n1 := C.n1; have o1 := C.o1; have m1 := C.m1; have n0 := C.n0
  have B := rcbucket_ok k h b c vn vo rn ro O key (by omega) (by omega) n0 (by omega) (by omega) (by omega)
  have hrow := pos_row c key n0
  have hsm := row_small C key
  unfold Ch.get
  generalize c.row (c.sel key) = L at *
  generalize c.sel key = s at *
  obtain ⟨R, A⟩ := O.sub s.1
  obtain ⟨r, hr, Mr⟩ := R.row hrow
  have ld := R.own.sl.ld (P := Try.prog) ta65 hr
  have S1 := Mr.sl
  simp [Try.f20, B, ld]
  · refine W_loop (fun m st => ∃ i, m = L.length - i ∧ i ≤ L.length ∧ (∀ e, e ∈ L.take i → e.1 ≠ key) ∧ st.t.get 1 = some (.str key) ∧ st.t.get 6 = some r ∧ st.t.get 7 = some (.int .i64 (i : Nat)) ∧ st.h = h) L.length (by omega) ⟨0, by simp⟩ ?_
    rintro m ⟨t, h1⟩ ⟨i, rfl, hi, hno, q1, q6, q7, e1⟩
    simp only at q1 q6 q7 e1
    subst e1
    have hf := findE_skip key i L hno
    by_cases hlt : i < L.length
    · obtain ⟨e, he⟩ : ∃ e, L[i]? = some e := ⟨L[i], by simp [hlt]⟩
      have ix := S1.idx (P := Try.prog) Try.underlying65 ts67 (j := i) hlt .i64
      have f0 := S1.ld (P := Try.prog) (e := 9) ta9 (j := i * 2) (x := .str e.1) (by have := cat_get ec_len he (o := 0) (by omega); exact this)
      have f1 := S1.ld (P := Try.prog) ta3 (j := i * 2 + 1) (x := .int .i64 e.2) (by rw [cat_get ec_len he (by omega)]; rfl)
      rw [← Nat.add_assoc] at f1
      have hd : L.drop i = e :: L.drop (i + 1) := by
        obtain ⟨z1, z2⟩ := List.getElem?_eq_some_iff.1 he
        rw [List.drop_eq_getElem_cons z1, z2]
      rw [hd] at hf
      simp only [findE] at hf
      by_cases hek : e.1 = key
      · rw [if_pos hek] at hf
        have hf : findE key L = some i := by rw [hf]; simp
        simp [q1, q6, q7, S1.len', isLt (show (i : Int) < (L.length : Int) by omega), ix, f0, f1, hek, hf, he]
      · rw [if_neg hek] at hf
        simp [q1, q6, q7, S1.len', isLt (show (i : Int) < (L.length : Int) by omega), ix, f0, f1, hek, i64s (n := (i : Int) + 1) (by omega) (by omega)]
        refine ⟨L.length - (i + 1), by omega, i + 1, rfl, by omega, fun x y hx => ?_, by simp⟩
        rw [List.take_add_one, he] at hx
        simp only [Option.toList, List.mem_append, List.mem_singleton] at hx
        rcases hx with hx | hx
        · exact hno _ hx
        · have : x = e.1 := by rw [← hx]
          rw [this]; exact hek
    · obtain rfl : i = L.length := by omega
      rw [List.drop_length] at hf
      have hf : findE key L = none := by rw [hf]; rfl
      simp [q1, q6, q7, S1.len', hf]

theorem rcput_ok (k : Nat) (hk : 200000 < k) (h : Heap) (b : Nat) (c : Ch) (vn vo : AV) (rn ro : List AV) (O : ChO h b c vn vo rn ro) (C : ChOk c) (C1 : ChOk c.step) (m0 : c.step.old.length = 0 → c.step.moved = 0) (key : ByteArray) (hm : key.size ≤ 1000) (n : Int) :
    ∃ v' h', acall Try.prog (k + 3) 19 [.ptr b 0, .str key, .int .i64 n] h = some (v', h') ∧ v' = .bool (c.put key n).1 ∧ (∃ vn' vo' rn' ro', ChO h' b (c.put key n).2 vn' vo' rn' ro' ∧ ∀ d, d ∈ fpC b vn' vo' rn' ro' → d ∈ fpC b vn vo rn ro ∨ h.next ≤ d) ∧ Keep h.next (fun d => d ∈ fpC b vn vo rn ro) h h' := by
  obtain ⟨v1, h2, E1, ⟨vn1, vo1, rn1, ro1, O2, f1⟩, K2⟩ := rcstep_ok k hk h b c vn vo rn ro O C
  unfold Ch.put
  generalize hc1 : c.step = c1 at *
  have n1 := C1.n1; have o1 := C1.o1; have m1 := C1.m1; have n0 := C1.n0; have l1 := C1.len
  have B := rcbucket_ok k h2 b c1 vn1 vo1 rn1 ro1 O2 key (by omega) (by omega) n0 (by omega) (by omega) (by omega)
  have hrow := pos_row c1 key n0
  have hsm := row_small C1 key
  have q1 := setRow_len c1 (c1.sel key)
  have eadd : c1.add key n = ⟨(c1.setRow (c1.sel key) (c1.row (c1.sel key) ++ [(key, n)])).now, (c1.setRow (c1.sel key) (c1.row (c1.sel key) ++ [(key, n)])).old, (c1.setRow (c1.sel key) (c1.row (c1.sel key) ++ [(key, n)])).moved, c1.len + 1⟩ := rfl
  unfold Ch.put1
  generalize hL : c1.row (c1.sel key) = L at *
  generalize hs : c1.sel key = s at *
  obtain ⟨R, A⟩ := O2.sub s.1
  obtain ⟨r, hr, Mr⟩ := R.row hrow
  have ld := R.own.sl.ld (P := Try.prog) ta65 hr
  have S1 := Mr.sl
  rw [acall_text [12] Try.func19 (by kernel_rfl)]
  refine afuncT_ex rfl (by simp [Try.f19]) ?_
  simp [Try.f19, E1, B]
  · refine W_loop (fun m st => ∃ i, m = L.length - i ∧ i ≤ L.length ∧ (∀ e, e ∈ L.take i → e.1 ≠ key) ∧ st.t.get 0 = some (.ptr b 0) ∧ st.t.get 1 = some (.str key) ∧ st.t.get 2 = some (.int .i64 n) ∧ st.t.get 7 = some (.ptr (pick2 s.1 vo1 vn1).blk ((pick2 s.1 vo1 vn1).off + s.2)) ∧ st.t.get 8 = some (.int .i64 (i : Nat)) ∧ st.h = h2) L.length (by omega) ⟨0, by simp⟩ ?_
    rintro m ⟨t, h1⟩ ⟨i, rfl, hi, hno, q0, q1', q2, q7, q8, e1⟩
    simp only at q0 q1' q2 q7 q8 e1
    replace e1 := e1.symm
    subst e1
    have hf := findE_skip key i L hno
    by_cases hlt : i < L.length
    · obtain ⟨e, he⟩ : ∃ e, L[i]? = some e := ⟨L[i], by simp [hlt]⟩
      have ix := S1.idx (P := Try.prog) Try.underlying65 ts67 (j := i) hlt .i64
      have f0 := S1.ld (P := Try.prog) (e := 9) ta9 (j := i * 2) (x := .str e.1) (by have := cat_get ec_len he (o := 0) (by omega); exact this)
      have hd : L.drop i = e :: L.drop (i + 1) := by
        obtain ⟨z1, z2⟩ := List.getElem?_eq_some_iff.1 he
        rw [List.drop_eq_getElem_cons z1, z2]
      rw [hd] at hf
      simp only [findE] at hf
      by_cases hek : e.1 = key
      · rw [if_pos hek] at hf
        have hf : findE key L = some i := by rw [hf]; simp
        have hset := cat_set1 ec_len (L := L) (j := i) (x := e) (y := (key, n)) he (o := 1) (by omega) (a := .int .i64 n) (by simp [ec, hek])
        obtain ⟨h3, a1, a2, a3, a4⟩ := Mr.lay (j := i * 2 + 1) (vs := [.int .i64 n]) (by rw [Mr.length]; simp; omega) (by omega) rfl
        rw [List.length_singleton, hset] at a2
        rw [← Nat.add_assoc] at a1
        have a2 : Mine 2 (L.set i (key, n)).length h3 r (cat ec (L.set i (key, n))) := by rw [List.length_set]; exact a2
        obtain ⟨b1, b2⟩ := O2.upd0 s.1 hr a3 a2
        simp [q0, q1', q2, q7, q8, ld, S1.len', isLt (show (i : Int) < (L.length : Int) by omega), ix, f0, hek, hf, a1]
        refine ⟨⟨vn1, vo1, rn1, ro1, b1, f1⟩, K2.trans (b2.weak K2.1 fun d hd q => ?_)⟩
        rcases f1 d q with z | z
        · exact z
        · omega
      · rw [if_neg hek] at hf
        simp [q0, q1', q2, q7, q8, ld, S1.len', isLt (show (i : Int) < (L.length : Int) by omega), ix, f0, hek, i64s (n := (i : Int) + 1) (by omega) (by omega)]
        refine ⟨L.length - (i + 1), by omega, i + 1, rfl, by omega, fun x y hx => ?_, by simp⟩
        rw [List.take_add_one, he] at hx
        simp only [Option.toList, List.mem_append, List.mem_singleton] at hx
        rcases hx with hx | hx
        · exact hno _ hx
        · have : x = e.1 := by rw [← hx]
          rw [this]; exact hek
    · obtain rfl : i = L.length := by omega
      rw [List.drop_length] at hf
      have hf : findE key L = none := by rw [hf]; rfl
      obtain ⟨u, u', h4, h5, rn5, ro5, b1, b2, b3, b3', b4, b5, b6, b7⟩ := O2.app s.1 hrow (by omega) (key, n) el65
      obtain rfl : r = u := Option.some.inj (hr.symm.trans b1)
      obtain ⟨h6, d1, O6, k6, n6⟩ := b5.put3 (c1.len + 1)
      have q1x := q1 (L ++ [(key, n)])
      have O6 : ChO h6 b (c1.add key n) vn1 vo1 rn5 ro5 := by rw [eadd]; exact O6
      have t1 : (c1.add key n).now.length = c1.now.length := by rw [eadd]; exact q1x.1
      have t2 : (c1.add key n).old.length = c1.old.length := by rw [eadd]; exact q1x.2.1
      have t3 : (c1.add key n).moved = c1.moved := by rw [eadd]; exact q1x.2.2.1
      have t4 : (c1.add key n).len = c1.len + 1 := by rw [eadd]
      have l3 := b5.ld3 (ty := 3) ta3
      have l3 : aload Try.prog h5 3 b 3 = some (.int .i64 (c1.len : Nat)) := by rw [l3]; rw [show (c1.setRow (s.fst, s.snd) (L ++ [(key, n)])).len = c1.len from q1x.2.2.2]
      have d1 : alay h5 b 3 [.int .i64 ((c1.len : Int) + 1)] = some h6 := d1
      have fp6 : ∀ d, d ∈ fpC b vn1 vo1 rn5 ro5 → d ∈ fpC b vn vo rn ro ∨ h.next ≤ d := fun d hd => by
        rcases b6 d hd with z | z
        · exact f1 d z
        · have := K2.1; exact .inr (by omega)
      have K6 : Keep h.next (fun d => d ∈ fpC b vn vo rn ro) h h6 := by
        refine K2.trans ⟨Nat.le_trans b7.1 k6.1, fun d hd hn => ?_⟩
        have hd2 : d < h2.next := Nat.lt_of_lt_of_le hd K2.1
        rw [k6.2 d (Nat.lt_of_lt_of_le hd2 b7.1) (fun q => hn (fpS q)), b7.2 d hd2 (fun z => (f1 d z).elim hn (by omega))]
      generalize hc2 : c1.add key n = c2 at *
      have x0 := O6.ld0 (ty := 45) ta45
      have x1 := O6.ld1 (ty := 45) ta45
      have x3 := O6.ld3 (ty := 3) ta3
      have y0 := O6.lenN
      have y1 := O6.lenO
      have w1 := i64s (n := (c1.len : Int) + 1) (by omega) (by omega)
      obtain ⟨W, hW⟩ : ∃ W, W = 2 * c2.now.length := ⟨_, rfl⟩
      have w2 : fwrap .i64 (2 * (c2.now.length : Int)) = (W : Nat) := by rw [i64w _ (by omega) (by omega)]; omega
      have rwu := row1_one b3'
      have b3 : aappend Try.prog (h2.new (.cells [.str key, .int .i64 n] false)) 65 65 r (.sl h2.next 0 1 1 2 true) = some (u', h4) := b3
      simp only [hf]
      unfold Ch.grow
      by_cases g1 : c2.old.length = 0
      · by_cases g2 : 2 * c2.now.length < c2.len
        · by_cases g3 : c2.now.length < 4096
          · rw [if_pos ⟨g1, g2, g3⟩]
            obtain ⟨h7, h8, a1, a2, n7, O8, f8, k8, n8⟩ := O6.grown g1 23 13 (by omega)
            rw [← hW] at a2 O8 f8
            obtain ⟨h9, a9, O9, k9, n9⟩ := O8.put2 0
            have a9 : alay h8 b 2 [.int .i64 0] = some h9 := a9
            have n9' : h9.next = h6.next + 23 := by rw [n9, n8]
            simp [q0, q1', q2, q7, q8, S1.len', ld, aalloc, afill, row1_agg, b3, b4, rwu, l3, w1, d1, x0, x1, x3, y0, y1, g1, w2, isLt (show (W : Int) < (c2.len : Int) by omega), isLt (show (c2.now.length : Int) < 4096 by omega)]
            refine W_late [0, 0, 0, 0, 8, 24, 56, 0, 128, 384, 896, 1920, 3968, 8064, 2041, 18425, 51193, 131067, 262139, 524283, 1048575, 2097151, 4194303] [13] (by rfl) (by kernel_rfl) (by kernel_rfl) (by kernel_rfl) (by kernel_rfl) ?_
            have x0' : aload Try.prog (h6.bump 23) 45 b 0 = some vn1 := x0
            have rv := row1_one O6.now.own.oneV
            have nk : nextOk h6.next 23 h7 = true := by unfold nextOk; rw [n7]; exact Nat.ble_eq_true_of_le (Nat.le_refl _)
            have nk8 : nextOk h6.next 23 h8 = true := by unfold nextOk; rw [n8]; exact Nat.ble_eq_true_of_le (Nat.le_refl _)
            have nk9 : nextOk h6.next 23 h9 = true := by unfold nextOk; rw [n9']; exact Nat.ble_eq_true_of_le (Nat.le_refl _)
            simp [q0, q1', q2, q7, q8, resv, memN, isStore, isEff, isAlloc, mayEff, alate_make, x0', y0, w2, insFl, rv, a1, nk, aalloc_make (P := Try.prog) el45 (z := [.nils]) az65 rfl rfl W W (Nat.le_refl _) (by omega), flat1, a2, nk8, a9, nk9, Nat.testBit_eq_decide_div_mod_eq]
            rw [hW] at O9 f8
            have e9 : c2.moved = 0 := by rw [t3]; exact m0 (by omega)
            rw [e9]
            refine ⟨⟨_, _, _, _, O9, fun d hd => ?_⟩, K6.trans ((k8.trans (k9.weak k8.1 fun _ _ q => q)).weak K6.1 fun d _ q => fpS q)⟩
            rcases f8 d hd with z | z
            · exact fp6 d z
            · have := K6.1; exact .inr (by omega)
          · rw [if_neg (fun q => g3 q.2.2)]
            simp [q0, q1', q2, q7, q8, S1.len', ld, aalloc, afill, row1_agg, b3, b4, rwu, l3, w1, d1, x0, x1, x3, y0, y1, g1, w2, isLt (show (W : Int) < (c2.len : Int) by omega), isLe (show (4096 : Int) ≤ (c2.now.length : Int) by omega)]
            exact ⟨⟨vn1, vo1, rn5, ro5, O6, fp6⟩, K6⟩
        · rw [if_neg (fun q => g2 q.2.1)]
          simp [q0, q1', q2, q7, q8, S1.len', ld, aalloc, afill, row1_agg, b3, b4, rwu, l3, w1, d1, x0, x1, x3, y0, y1, g1, w2, isLe (show (c2.len : Int) ≤ (W : Int) by omega)]
          exact ⟨⟨vn1, vo1, rn5, ro5, O6, fp6⟩, K6⟩
      · rw [if_neg (fun q => g1 q.1)]
        simp [q0, q1', q2, q7, q8, S1.len', ld, aalloc, afill, row1_agg, b3, b4, rwu, l3, w1, d1, x0, x1, x3, y0, y1, g1]
        exact ⟨⟨vn1, vo1, rn5, ro5, O6, fp6⟩, K6⟩
end Go.Proofs.Ytdnjhipgfbhecaa
