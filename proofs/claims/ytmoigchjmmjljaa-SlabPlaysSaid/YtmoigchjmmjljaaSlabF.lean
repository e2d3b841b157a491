/- Contracts of slab: Alloc where there is none, Read, Free, Live, Pages. -/
import Derived.Test.YtmoigchjmmjljaaSlabA
namespace Go.Proofs.Ytmoigchjmmjljaa
open Go Go.YtmoigchjmmjljaaAbs
set_option linter.unusedSimpArgs false
set_option linter.unusedVariables false
set_option maxRecDepth 4000

section
variable (k : Nat) (hk : 70000 < k) (h : Heap) (b : Nat) (s : Sb) (vc : AV) (O : SlO h b s vc) (hl : s.cls.length ≤ 20)
set_option maxHeartbeats 1000000 in
theorem alloc_full (hk : 70000 < k) (O : SlO h b s vc) (hl : s.cls.length ≤ 20) (d : ByteArray) (hd : d.size ≤ maxLen) {i : Nat} {c : Cl} (hc : clsE (d.size : Nat) s.cls = some i) (hi : s.cls[i]? = some c) (hf : c.free = []) (h0 : s.left = 0) :
    ∃ v' h', acall Try.prog (k + 2) 13 [.ptr b 0, .str d] h = some (v', h') ∧ v' = .tup [.agg [.int .i64 0, .int .i64 0], .int .i64 6] ∧ Keep h.next nob h h' := by
  have hil := (List.getElem?_eq_some_iff.1 hi).1
  obtain ⟨h1, e1⟩ : ∃ h1, h.new (.cells [.int .i64 0, .int .i64 0] false) = h1 := ⟨_, rfl⟩
  have k1 : Keep h.next nob h h1 := by rw [← e1]; exact Keep.new (Nat.le_refl _) _
  have n1 : h.next < h1.next := by rw [← e1]; exact Nat.lt_succ_self _
  have g1 : h1.get h.next = some (.cells [.int .i64 0, .int .i64 0] false) := by rw [← e1]; exact get_new_self _ _
  have O1 := O.ext k1
  obtain ⟨_, h2, E2, rfl, k2⟩ := class_ok k (by omega) h1 b s vc O1 hl (d.size : Nat)
  have ecz : (if ((d.size : Nat) : Int) < 0 then (-1 : Int) else clsZ (d.size : Nat) s.cls) = (i : Nat) := by
    rw [if_neg (by omega)]; unfold clsZ; rw [hc]
  rw [ecz] at E2
  have O2 := O1.ext k2
  have K2 := k1.trans (k2.weak k1.1 fun _ _ q => q)
  have g2 : h2.get h.next = some (.cells [.int .i64 0, .int .i64 0] false) := (k2.2 _ n1 id).trans g1
  have ix2 := O2.own.sl.idx (P := Try.prog) Try.underlying61 ts66 (j := i) hil .i64
  have lf2 := O2.ldc hi (o := 1) (x := c.fv) (by omega) rfl (ty := 27) ta27
  have flen := (O2.free c (List.mem_of_getElem? hi)).sl.len'
  have rwH : (AV.agg [.int .i64 0, .int .i64 0]).row1 = some [.int .i64 0, .int .i64 0] := rfl
  have A8 : alay h2 h.next 0 [.int .i64 0, .int .i64 0] = some (h2.set h.next (.cells [.int .i64 0, .int .i64 0] false)) := by unfold alay; rw [g2]; rfl
  have g8 : (h2.set h.next (.cells [.int .i64 0, .int .i64 0] false)).get h.next = some (.cells [.int .i64 0, .int .i64 0] false) := get_set_self _ _ _
  have K8 : Keep h.next nob h (h2.set h.next (.cells [.int .i64 0, .int .i64 0] false)) := K2.trans (Keep.set (.inr (Nat.le_refl _)) _)
  generalize h2.set h.next (.cells [.int .i64 0, .int .i64 0] false) = h8 at *
  have l8 : aload Try.prog h8 34 h.next 0 = some (.agg [.int .i64 0, .int .i64 0]) := by simp [aload, Heap.row, g8, ta34, ts34]
  have l1 := O2.ld1 (ty := 3) ta3
  rw [h0] at l1
  rw [acall_text [14] Try.func13 (by kernel_rfl)]
  refine afuncT_ex rfl (by simp [Try.f13]) ?_
  simp [Try.f13, e1, E2, O2.ld3, ix2, lf2, flen, hf, l1, afill, rwH, A8, l8]
  exact K8
theorem pages_ok (O : SlO h b s vc) : acall Try.prog (k + 1) 12 [.ptr b 0] h = some (.tup [.int .i64 (s.used : Nat), .int .i64 (s.left : Nat)], h) := by
  rw [acall_text [] Try.func12 (by kernel_rfl)]
  refine afuncT_of rfl (by simp [Try.f12]) ?_
  simp [Try.f12, O.ld2, O.ld1]
/-- How many live chunks there are. -/
def liveN (L : List Cl) : Nat := (L.map fun c => c.live.length).sum
theorem live_ok (hk : 70000 < k) (O : SlO h b s vc) (hl : s.cls.length ≤ 20) (hn : liveN s.cls < 1000000000) :
    ∃ v' h', acall Try.prog (k + 1) 24 [.ptr b 0] h = some (v', h') ∧ v' = .int .i64 (liveN s.cls : Nat) ∧ Keep h.next nob h h' := by
  rw [acall_text [] Try.func24 (by kernel_rfl)]
  refine afuncT_ex rfl (by simp [Try.f24]) ?_
  have sl := O.own.sl
  have tk : ∀ i, liveN (s.cls.take i) ≤ liveN s.cls := fun i => by
    have e : liveN s.cls = liveN (s.cls.take i) + liveN (s.cls.drop i) := by
      unfold liveN
      conv => lhs; rw [← List.take_append_drop i s.cls]
      rw [List.map_append, List.sum_append]
    omega
  simp [Try.f24, O.ld3, sl.len']
  refine W_cutLoop 0 (fun st => st.t.get 3 = some (.int .i64 (liveN s.cls : Nat)) ∧ Keep h.next nob h st.h) ?_ ?_
  · refine W_loop (fun m st => ∃ (i : Nat), m = s.cls.length - i ∧ i ≤ s.cls.length ∧ st.t.get 3 = some (.int .i64 (liveN (s.cls.take i) : Nat)) ∧ st.t.get 9 = some vc ∧ st.t.get 10 = some (.int .i64 (s.cls.length : Nat)) ∧ st.t.get 11 = some (.int .i64 (i : Nat)) ∧ Keep h.next nob h st.h) s.cls.length (by omega)
      ⟨0, by simp, by omega, by simp [liveN], by simp, by simp, by simp, Keep.refl _ _ _⟩ ?_
    rintro m ⟨t, h2⟩ ⟨i, rfl, hi, q3, q9, q10, q11, K⟩
    simp only at q3 q9 q10 q11 K
    by_cases hlt : i < s.cls.length
    · obtain ⟨c, hc⟩ : ∃ c, s.cls[i]? = some c := ⟨s.cls[i], by simp⟩
      have O2 := O.ext K
      have sl2 := O2.own.sl
      have ix := sl2.idx (P := Try.prog) Try.underlying61 ts66 (j := i) hlt .i64
      have ld := sl2.lds (P := Try.prog) ta66 ts66 (j := i * 4) (by rw [cat_len Cl.c_len]; omega) (by omega)
      rw [cat_at Cl.c_len hc] at ld
      have one : c.fv.one = true := (O.free c (List.mem_of_getElem? hc)).oneV
      have rwc : (AV.agg c.c).row1 = some c.c := row1_agg (by simp [Cl.c, one])
      have al : alay (h2.new (.cells [.int .i64 0, .nils, .nilm, .int .i64 0] false)) h2.next 0 c.c = some (h2.new (.cells c.c false)) := alay_new rfl
      obtain ⟨h3, e3⟩ : ∃ h3, h2.new (.cells c.c false) = h3 := ⟨_, rfl⟩
      have k3 : Keep h2.next nob h2 h3 := by rw [← e3]; exact Keep.new (Nat.le_refl _) _
      have g3 : h3.get h2.next = some (.cells c.c false) := by rw [← e3]; exact get_new_self _ _
      rw [e3] at al
      have l2 := ldc (P := Try.prog) (ty := 64) g3 ta64 (i := 2) (x := .mp c.mb) rfl
      have lv := ((O2.ext k3).live c (List.mem_of_getElem? hc)).1
      have vl : vlen' h3 (.mp c.mb) (some (.map 3 9)) = some (.int .i64 (c.live.length : Nat)) := by simp [vlen', lv]
      have cl := Cl.c_len c
      have et : liveN (s.cls.take (i + 1)) = liveN (s.cls.take i) + c.live.length := by
        rw [List.take_add_one, hc]; simp [liveN]
      have t1 := tk (i + 1)
      have ws := i64w ((liveN (s.cls.take i) : Nat) + (c.live.length : Nat) : Int) (by omega) (by omega)
      have K3 := K.trans (k3.weak K.1 fun _ _ q => q)
      simp [q3, q9, q10, q11, isLt (show (i : Int) < (s.cls.length : Int) by omega), ix, ld, rwc, cl, al, l2, vl, ws, i64w ((i : Int) + 1) (by omega) (by omega)]
      exact ⟨s.cls.length - (i + 1), by omega, i + 1, rfl, by omega, by rw [et]; push_cast; rfl, rfl, K3⟩
    · have : i = s.cls.length := by omega
      subst this
      simp [q3, q9, q10, q11]
      exact K
  rintro ⟨t, h2⟩ ⟨q3, K⟩
  simp only at q3 K
  simp [q3]
  exact K
/-- What stands under any number. -/
def lkI (n : Int) (L : List (Nat × ByteArray × Nat)) : Option (Nat × ByteArray × Nat) := if 0 ≤ n then lk n.toNat L else none
theorem afind_neg {n : Int} (hn : n < 0) : ∀ (L : List (Nat × ByteArray × Nat)) (i : Nat), afind (.int .i64 n) (L.map me) i = some none
  | [], i => rfl
  | x :: L, i => by
    simp only [List.map_cons, afind, me, keyEq, if_true]
    rw [decide_eq_false (by omega)]
    exact afind_neg hn L (i + 1)
theorem afind_meI (n : Int) (L : List (Nat × ByteArray × Nat)) (i : Nat) : afind (.int .i64 n) (L.map me) i = some ((lkI n L).map fun y => (y.1 + i, .str y.2.1, y.2.2)) := by
  unfold lkI
  by_cases hn : 0 ≤ n
  · rw [if_pos hn]
    obtain ⟨m, rfl⟩ := Int.eq_ofNat_of_zero_le hn
    exact afind_me m L i
  · rw [if_neg hn]
    exact afind_neg (by omega) L i
theorem mapGet_me {h : Heap} {b cl : Nat} {n : Int} {L : List (Nat × ByteArray × Nat)} (g : h.get b = some (.map (L.map me) cl)) :
    mapGet Try.prog 64 h (.mp b) (.int .i64 n) true = some (.tup [.str (((lkI n L).map (·.2.1)).getD .empty), .bool (lkI n L).isSome]) := by
  unfold mapGet
  rw [Try.underlying64]
  simp only [akey_n, azv9, g, afind_meI]
  cases lkI n L <;> rfl
theorem erase_map {α β : Type} (f : α → β) : ∀ (L : List α) (i : Nat), (L.map f).eraseIdx i = (L.eraseIdx i).map f
  | [], i => by simp
  | x :: L, 0 => by simp
  | x :: L, i + 1 => by simp [erase_map f L i]
theorem mapDel_me {h : Heap} {b cl : Nat} {n : Int} {L : List (Nat × ByteArray × Nat)} {y : Nat × ByteArray × Nat} (g : h.get b = some (.map (L.map me) cl)) (hy : lkI n L = some y) :
    mapDel Try.prog 64 h (.mp b) (.int .i64 n) = some (.tup [], h.set b (.map ((L.eraseIdx y.1).map me) cl)) := by
  unfold mapDel
  rw [Try.underlying64]
  simp only [akey_n, g, afind_meI, hy, Option.map_some, Nat.add_zero, if_true]
  rw [erase_map]
def readS (s : Sb) (ci ch : Int) : Option (Nat × ByteArray × Nat) := if ci < 0 then none else match s.cls[ci.toNat]? with
  | some c => lkI ch c.live
  | none => none
theorem read_ok (hk : 70000 < k) (O : SlO h b s vc) (hl : s.cls.length ≤ 20) (ci ch : Int) :
    ∃ v' h', acall Try.prog (k + 1) 22 [.ptr b 0, .agg [.int .i64 ci, .int .i64 ch]] h = some (v', h') ∧ v' = .tup [.str (((readS s ci ch).map (·.2.1)).getD .empty), .bool (readS s ci ch).isSome] ∧ Keep h.next nob h h' := by
  have rwH : (AV.agg [.int .i64 ci, .int .i64 ch]).row1 = some [.int .i64 ci, .int .i64 ch] := rfl
  obtain ⟨h1, e1⟩ : ∃ h1, h.new (.cells [.int .i64 ci, .int .i64 ch] false) = h1 := ⟨_, rfl⟩
  have k1 : Keep h.next nob h h1 := by rw [← e1]; exact Keep.new (Nat.le_refl _) _
  have g1 : h1.get h.next = some (.cells [.int .i64 ci, .int .i64 ch] false) := by rw [← e1]; exact get_new_self _ _
  have l0 := ldc (P := Try.prog) (ty := 3) g1 ta3 (i := 0) (x := .int .i64 ci) rfl
  have l1 := ldc (P := Try.prog) (ty := 3) g1 ta3 (i := 1) (x := .int .i64 ch) rfl
  have O1 := O.ext k1
  have sl := O1.own.sl.len'
  have l3 := O1.ld3 (ty := 61) ta61
  unfold readS
  rw [acall_text [] Try.func22 (by kernel_rfl)]
  refine afuncT_ex rfl (by simp [Try.f22]) ?_
  by_cases c0 : ci < 0
  · rw [if_pos c0]
    simp [Try.f22, rwH, e1, l0, isLt c0]
    exact ⟨rfl, k1⟩
  rw [if_neg c0]
  obtain ⟨i, rfl⟩ := Int.eq_ofNat_of_zero_le (show 0 ≤ ci by omega)
  rw [Int.toNat_natCast]
  by_cases hil : i < s.cls.length
  rotate_left
  · rw [List.getElem?_eq_none (by omega)]
    simp [Try.f22, rwH, e1, l0, l3, sl, isLe (show (s.cls.length : Int) ≤ (i : Int) by omega)]
    exact ⟨rfl, k1⟩
  obtain ⟨c, hc⟩ : ∃ c, s.cls[i]? = some c := ⟨s.cls[i], by simp⟩
  rw [hc]
  simp only
  have ix := O1.own.sl.idx (P := Try.prog) Try.underlying61 ts66 (j := i) hil .i64
  have lm := O1.ldc hc (o := 2) (x := .mp c.mb) (by omega) rfl (ty := 64) ta64
  have E := mapGet_me (n := ch) (O1.live c (List.mem_of_getElem? hc)).1
  cases hy : lkI ch c.live with
  | none =>
    rw [hy] at E
    simp [Try.f22, rwH, e1, l0, l1, l3, sl, isLt (show (i : Int) < (s.cls.length : Int) by omega), ix, lm, E]
    exact ⟨rfl, k1⟩
  | some y =>
    rw [hy] at E
    simp [Try.f22, rwH, e1, l0, l1, l3, sl, isLt (show (i : Int) < (s.cls.length : Int) by omega), ix, lm, E]
    exact k1
end
end Go.Proofs.Ytmoigchjmmjljaa
