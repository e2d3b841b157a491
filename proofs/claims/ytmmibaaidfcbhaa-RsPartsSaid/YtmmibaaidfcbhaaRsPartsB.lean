/- Contracts of the functions that the law reaches, over the abstract machine. -/
import Derived.Test.YtmmibaaidfcbhaaRsPartsA
import Derived.Test.YtmmibaaidfcbhaaMachC
import Derived.Test.YtmmibaaidfcbhaaMachA
import Derived.Test.YtmmibaaidfcbhaaMachB
import Derived.Test.YtmmibaaidfcbhaaMachD
/- Contracts of the book of memory: Within. -/
namespace Go.Proofs.Ytmmibaaidfcbhaa
open Go Go.YtmmibaaidfcbhaaAbs
set_option linter.unusedSimpArgs false
set_option linter.unusedVariables false
/-- Within. -/
theorem within_ok (k : Nat) (n lo hi : Int) (hl : lo ≤ hi) (h1 : -1000000000000 ≤ lo) (h2 : hi ≤ 1000000000000) (h : Heap) :
    acall Try.prog (k + 1) 14 [.int .i64 n, .int .i64 lo, .int .i64 hi] h = some (.int .i64 (lo + n % (hi - lo + 1)), h) := by
  rw [acall_text [] Try.func14 (by kernel_rfl)]
  refine afuncT_of rfl (by simp [Try.f14]) ?_
  have w1 := i64w (hi - lo) (by omega) (by omega)
  have w2 := i64w (hi - lo + 1) (by omega) (by omega)
  have hne : ¬ hi - lo + 1 = 0 := by omega
  have e1 : n % (hi - lo + 1) < hi - lo + 1 := Int.emod_lt_of_pos _ (by omega)
  have e2 : 0 ≤ n % (hi - lo + 1) := Int.emod_nonneg _ (by omega)
  have e0 := Int.tmod_eq_emod (a := n) (b := hi - lo + 1)
  by_cases hr : n.tmod (hi - lo + 1) < 0
  · have e3 : n.tmod (hi - lo + 1) + (hi - lo + 1) = n % (hi - lo + 1) := by
      split at e0 <;> omega
    have w3 := i64w (n.tmod (hi - lo + 1) + hi) (by omega) (by omega)
    have w4 := i64w (n.tmod (hi - lo + 1) + hi - lo) (by omega) (by omega)
    have w5 := i64w (n.tmod (hi - lo + 1) + hi - lo + 1) (by omega) (by omega)
    have w6 := i64w (lo + (n.tmod (hi - lo + 1) + hi - lo + 1)) (by omega) (by omega)
    simp [Try.f14, w1, w2, w3, w4, w5, w6, hne, isLt hr]
    omega
  · have e3 : n.tmod (hi - lo + 1) = n % (hi - lo + 1) := by
      split at e0 <;> omega
    have w6 := i64w (lo + n % (hi - lo + 1)) (by omega) (by omega)
    simp [Try.f14, w1, w2, w6, hne, isLe e2, e3]

end Go.Proofs.Ytmmibaaidfcbhaa
/- depotlaw2: what its laws have in common. -/
namespace Go.Proofs.Ytmmibaaidfcbhaa
open Go Go.YtmmibaaidfcbhaaAbs
set_option linter.unusedSimpArgs false
set_option linter.unusedVariables false
set_option maxRecDepth 4000

/-- Within, as a number that isn't below nought. -/
theorem within_nat (k : Nat) (a lo hi : Int) (h0 : 0 ≤ lo) (hl : lo ≤ hi) (h2 : hi ≤ 1000000000000) (h : Heap) :
    ∃ n : Nat, acall Try.prog (k + 1) 14 [.int .i64 a, .int .i64 lo, .int .i64 hi] h = some (.int .i64 (n : Nat), h) ∧ lo ≤ (n : Int) ∧ (n : Int) ≤ hi := by
  have W := within_ok k a lo hi hl (by omega) h2 h
  have m1 : 0 ≤ a % (hi - lo + 1) := Int.emod_nonneg _ (by omega)
  have m2 : a % (hi - lo + 1) < hi - lo + 1 := Int.emod_lt_of_pos _ (by omega)
  refine ⟨(lo + a % (hi - lo + 1)).toNat, ?_, by omega, by omega⟩
  rw [W, Int.toNat_of_nonneg (by omega)]
section
variable {n : Nat} {M : Mt}
theorem sq_right (h : RowsN n M) (hn : M.length = n) (n1 : 1 ≤ n) (n2 : n ≤ 12) : rightM M = true ∧ (rowA M 0).length = n := by
  have hw0 : (rowA M 0).length = n := h.row (by omega)
  exact ⟨by rw [rightM_iff, hw0]; exact ⟨by omega, h⟩, hw0⟩
theorem sq_inv (h : RowsN n M) (hn : M.length = n) (n1 : 1 ≤ n) (n2 : n ≤ 12) : invP M = invA M := by
  obtain ⟨a, b⟩ := sq_right h hn n1 n2
  unfold invP
  rw [if_pos ⟨a, by omega⟩]
theorem sq_rank (h : RowsN n M) (hn : M.length = n) (n1 : 1 ≤ n) (n2 : n ≤ 12) : rankP M = rankA n M := by
  obtain ⟨a, b⟩ := sq_right h hn n1 n2
  unfold rankP
  rw [if_pos a, b]
end
end Go.Proofs.Ytmmibaaidfcbhaa
/- rs: a code in the heap; New, K, N, Size; the document's Size; short. -/
namespace Go.Proofs.Ytmmibaaidfcbhaa
open Go Go.YtmmibaaidfcbhaaAbs
set_option linter.unusedSimpArgs false
set_option linter.unusedVariables false
set_option maxRecDepth 4000

/-- How many bytes a fragment has. -/
def szN (k n : Nat) : Nat := (n + k - 1) / k
def codeC (k m : Nat) (rv : AV) : List AV := .int .i64 (k : Nat) :: .int .i64 ((k + m : Nat) : Int) :: (fieldC ++ [rv])
theorem codeC_len (k m : Nat) (rv : AV) : (codeC k m rv).length = 769 := by simp [codeC, fieldC_len]
/-- A code of k and m. -/
structure Cd (h : Heap) (c : AV) (b k m : Nat) (rv : AV) : Prop where
  ptr : c = .ptr b 0
  lt : b < h.next
  get : h.get b = some (.cells (codeC k m rv) false)
  rows : ∃ rs, Rd h rv rs (cauM k m)
  k1 : 1 ≤ k
  k8 : k ≤ 8
  km : m + k ≤ 12
section
variable {h h' : Heap} {c : AV} {b k m : Nat} {rv : AV}
theorem Cd.ext (C : Cd h c b k m rv) (K : Keep h.next nob h h') : Cd h' c b k m rv := by
  obtain ⟨rs, R⟩ := C.rows
  exact ⟨C.ptr, Nat.lt_of_lt_of_le C.lt K.1, by rw [K.2 b C.lt id]; exact C.get, ⟨rs, R.ext K⟩, C.k1, C.k8, C.km⟩
theorem Cd.fld (C : Cd h c b k m rv) : Fld h (.ptr b 2) := ⟨b, 2, _, _, rfl, C.lt, C.get, fun j hj => by
  unfold codeC
  rw [show 2 + j = j + 1 + 1 by omega, List.getElem?_cons_succ, List.getElem?_cons_succ, List.getElem?_append_left (by rw [fieldC_len]; exact hj)]⟩
theorem Cd.ldk (C : Cd h c b k m rv) : aload Try.prog h 3 b 0 = some (.int .i64 (k : Nat)) := ldc C.get ta3 rfl
theorem Cd.ldn (C : Cd h c b k m rv) : aload Try.prog h 3 b 1 = some (.int .i64 ((k + m : Nat) : Int)) := ldc C.get ta3 rfl
theorem Cd.ldr (C : Cd h c b k m rv) : aload Try.prog h 53 b 768 = some rv := ldc C.get ta53 (by
  unfold codeC
  rw [show 768 = 766 + 1 + 1 by rfl, List.getElem?_cons_succ, List.getElem?_cons_succ, List.getElem?_append_right (by rw [fieldC_len]; exact Nat.le_refl _), fieldC_len]; rfl)
end
theorem zz_last : zz63.drop 768 = [.nils] := by kernel_rfl
theorem code_row (n m : Nat) (rv : AV) (h : rv.one = true) : (AV.agg (.int .i64 (n : Nat) :: .int .i64 ((n : Int) + (m : Int)) :: (fieldC ++ [rv]))).row1 = some (codeC n m rv) := by
  rw [row1_agg (by simp [fieldC_one, h])]
  simp [codeC]
theorem code_set (n m : Nat) (u v : AV) : (codeC n m u).set 768 v = codeC n m v := by
  unfold codeC
  rw [show 768 = 766 + 1 + 1 by rfl, List.set_cons_succ, List.set_cons_succ, List.set_append_right _ _ (by rw [fieldC_len]; exact Nat.le_refl _), fieldC_len]; rfl
theorem new_ok (k : Nat) (hk : 1000 < k) (h : Heap) (n m : Nat) (n1 : 1 ≤ n) (n2 : n ≤ 8) (hm : m + n ≤ 12) :
    ∃ v h', acall Try.prog (k + 3) 10 [.int .i64 (n : Nat), .int .i64 (m : Nat)] h = some (v, h') ∧ ∃ b rv, v = .tup [.ptr b 0, .int .i64 0] ∧ Cd h' (.ptr b 0) b n m rv ∧ Keep h.next nob h h' := by
  rw [acall_text [] Try.func10 (by kernel_rfl)]
  refine afuncT_ex rfl (by simp [Try.f10]) ?_
  obtain ⟨_, h1, E1, rfl, k1⟩ := make_ok (k + 1) (by omega) h
  have row : (AV.agg fieldC).row1 = some fieldC := row1_agg fieldC_one
  have s1 := i64w ((12 : Int) - (n : Int)) (by omega) (by omega)
  have s2 := i64w ((n : Int) + (m : Int)) (by omega) (by omega)
  have g2 : (h1.new (.cells (codeC n m .nils) false)).get h1.next = some (.cells (codeC n m .nils) false) := get_new_self _ _
  have k2 : Keep h.next nob h (h1.new (.cells (codeC n m .nils) false)) := k1.trans (Keep.new k1.1 _)
  have l2 : h1.next < (h1.new (.cells (codeC n m .nils) false)).next := Nat.lt_succ_self _
  obtain ⟨h2, e2⟩ : ∃ h2, h1.new (.cells (codeC n m .nils) false) = h2 := ⟨_, rfl⟩
  obtain ⟨b, hb⟩ : ∃ b, h1.next = b := ⟨_, rfl⟩
  have hbn := k1.1
  rw [e2] at g2 k2 l2
  rw [hb] at g2 l2 hbn
  have f2 : Fld h2 (.ptr b 2) := ⟨b, 2, _, _, rfl, l2, g2, fun j hj => by
    unfold codeC
    rw [show 2 + j = j + 1 + 1 by omega, List.getElem?_cons_succ, List.getElem?_cons_succ, List.getElem?_append_left (by rw [fieldC_len]; exact hj)]⟩
  obtain ⟨rv, h3, E3, N3⟩ := cauchy_ok k (by omega) h2 (.ptr b 2) f2 n m (by omega) (by omega) (by omega)
  obtain ⟨rs, R3⟩ := N3.rd
  have g3 : h3.get b = some (.cells (codeC n m .nils) false) := by rw [N3.kb.2 b l2 id]; exact g2
  have ro : rv.one = true := R3.sl.oneV
  have lay : alay h3 b 768 [rv] = some (h3.set b (.cells (codeC n m rv) false)) := by
    unfold alay
    rw [g3]
    simp only
    rw [layAt_set (by rw [codeC_len]; omega), code_set]
  have rwr := row1_one ro
  have crow := code_row n m .nils rfl
  simp [Try.f10, isLe (show (1 : Int) ≤ (n : Int) by omega), isLe (show (n : Int) ≤ 8 by omega), isLe (show (0 : Int) ≤ (m : Int) by omega), s1, s2, isLe (show (m : Int) ≤ 12 - (n : Int) by omega), E1, afill, row, fieldC_len, zz_last, crow, hb, e2, E3, rwr, ro, lay]
  obtain ⟨rsx, Rx, Ax, fx, Kx⟩ := N3
  have kx := Kx.1
  have Rx' := Rx.keep (F := fun d => d = b) (h' := h3.set b (.cells (codeC n m rv) false)) (Keep.set (F := fun d => d = b) (.inl rfl) _) (fun d hd q => by subst q; have := fx _ hd; omega)
  exact ⟨⟨rv, rfl, Nat.lt_of_lt_of_le l2 kx, get_set_self _ _ _, ⟨rsx, rows_rd Rx'⟩, n1, n2, hm⟩, Nat.le_trans k2.1 kx, fun d hd _ => by
    rw [get_set_ne (by omega), Kx.2 d (Nat.lt_of_lt_of_le hd k2.1) id, k2.2 d hd id]⟩
theorem new_no (k : Nat) (h : Heap) (n m : Int) (hn : ¬ cauIn n m) : acall Try.prog (k + 1) 10 [.int .i64 n, .int .i64 m] h = some (.tup [.nilp, .int .i64 1], h) := by
  rw [acall_text [] Try.func10 (by kernel_rfl)]
  refine afuncT_of rfl (by simp [Try.f10]) ?_
  unfold cauIn at hn
  by_cases q1 : n < 1
  · simp [Try.f10, isLt q1]
  by_cases q2 : 8 < n
  · simp [Try.f10, isLe (show 1 ≤ n by omega), isLt q2]
  by_cases q3 : m < 0
  · simp [Try.f10, isLe (show 1 ≤ n by omega), isLe (show n ≤ 8 by omega), isLt q3]
  · simp [Try.f10, isLe (show 1 ≤ n by omega), isLe (show n ≤ 8 by omega), isLe (show 0 ≤ m by omega), i64w (12 - n) (by omega) (by omega), isLt (show 12 - n < m by omega)]
section
variable {h : Heap} {b k m : Nat} {rv : AV}
theorem n_ok (f : Nat) (C : Cd h (.ptr b 0) b k m rv) : acall Try.prog (f + 1) 22 [.ptr b 0] h = some (.int .i64 ((k + m : Nat) : Int), h) := by
  rw [acall_text [] Try.func22 (by kernel_rfl)]
  refine afuncT_of rfl (by simp [Try.f22]) ?_
  have l := C.ldn
  simp [Try.f22, l]
theorem k_ok (f : Nat) (C : Cd h (.ptr b 0) b k m rv) : acall Try.prog (f + 1) 25 [.ptr b 0] h = some (.int .i64 (k : Nat), h) := by
  rw [acall_text [] Try.func25 (by kernel_rfl)]
  refine afuncT_of rfl (by simp [Try.f25]) ?_
  have l := C.ldk
  simp [Try.f25, l]
theorem sz_eq {k n : Nat} (hk : 1 ≤ k) : szN k n = if 0 < n % k then n / k + 1 else n / k := by
  unfold szN
  have e := Nat.div_add_mod n k
  have l := Nat.mod_lt n hk
  obtain ⟨q, hq⟩ : ∃ q, n / k = q := ⟨_, rfl⟩
  obtain ⟨r, hr⟩ : ∃ r, n % k = r := ⟨_, rfl⟩
  rw [hq, hr] at e ⊢
  rw [hr] at l
  subst e
  by_cases h0 : 0 < r
  · rw [if_pos h0, show k * q + r + k - 1 = k * (q + 1) + (r - 1) by rw [Nat.mul_succ]; omega, Nat.mul_add_div (by omega), Nat.div_eq_of_lt (by omega)]
  · rw [if_neg h0, show k * q + r + k - 1 = k * q + (k - 1) by omega, Nat.mul_add_div (by omega), Nat.div_eq_of_lt (by omega)]
    first | rfl | omega
theorem size_ok (f : Nat) (C : Cd h (.ptr b 0) b k m rv) (n : Nat) (hn : n < 100000000000) : acall Try.prog (f + 1) 23 [.ptr b 0, .int .i64 (n : Nat)] h = some (.int .i64 (szN k n : Nat), h) := by
  rw [acall_text [] Try.func23 (by kernel_rfl)]
  refine afuncT_of rfl (by simp [Try.f23]) ?_
  have l := C.ldk
  have k1 := C.k1
  by_cases h0 : n = 0
  · subst h0
    have e : szN k 0 = 0 := by unfold szN; rw [Nat.div_eq_of_lt (by omega)]
    simp [Try.f23, e]
  · have hne : ¬ (k : Int) = 0 := by omega
    have e1 : ((n : Nat) : Int).tdiv (k : Int) = ((n / k : Nat) : Int) := by rw [Int.ofNat_tdiv]
    have e2 : ((n : Nat) : Int).tmod (k : Int) = ((n % k : Nat) : Int) := by rw [Int.ofNat_tmod]
    have hle := Nat.div_le_self n k
    rw [sz_eq k1]
    generalize n / k = q at *
    generalize n % k = r at *
    have hk0 : ¬ k = 0 := by omega
    by_cases hr : 0 < r
    · rw [if_pos hr]
      simp [Try.f23, isLt (show (0 : Int) < (n : Int) by omega), h0, l, hne, hk0, e1, e2, isLt (show (0 : Int) < (r : Int) by omega), i64w ((q : Nat) : Int) (by omega) (by omega), i64w (((q : Nat) : Int) + 1) (by omega) (by omega), hr, show ¬ r = 0 by omega]
    · rw [if_neg hr]
      simp [Try.f23, isLt (show (0 : Int) < (n : Int) by omega), h0, l, hne, hk0, e1, e2, isLe (show (r : Int) ≤ (0 : Int) by omega), i64w ((q : Nat) : Int) (by omega) (by omega), hr, show r = 0 by omega]
end
end Go.Proofs.Ytmmibaaidfcbhaa
/- rs: mix, Encode. -/
namespace Go.Proofs.Ytmmibaaidfcbhaa
open Go Go.YtmmibaaidfcbhaaAbs
set_option linter.unusedSimpArgs false
set_option linter.unusedVariables false
set_option maxRecDepth 4000

theorem lc_nil (n : Nat) : lc n [] [] = zv n := rfl
theorem lc_snoc {n : Nat} {x : UInt8} {r : Vc} (hr : r.length = n) : ∀ {u : Vc} {M : Mt}, RowsN n M → u.length = M.length → lc n (u ++ [x]) (M ++ [r]) = addL (lc n u M) (smul x r)
  | [], [], _, _ => by
    show addL (smul x r) (zv n) = addL (zv n) (smul x r)
    rw [addL_zv (by simp [hr])]
    have : addL (zv n) (smul x r) = addL (smul x r) (zv n) := by
      refine vc_ext (by rw [addL_len (by simp [hr]), addL_len (by simp [hr])]; simp [hr]) fun j hj => ?_
      rw [addL_get _ _ _ (by simp [hr]), addL_get _ _ _ (by simp [hr]), UInt8.xor_comm]
    rw [this, addL_zv (by simp [hr])]
  | y :: u, s :: M, h, hl => by
    have hl' : u.length = M.length := by simpa using hl
    show addL (smul y s) (lc n (u ++ [x]) (M ++ [r])) = addL (addL (smul y s) (lc n u M)) (smul x r)
    rw [lc_snoc hr h.tl hl', addL_assoc (by rw [lc_len h.tl, smul_len, h.hd]) (by rw [lc_len h.tl, smul_len, hr])]
  | [], _ :: _, _, hl => by simp at hl
  | _ :: _, [], _, hl => by simp at hl
theorem RowsN.take {n : Nat} {M : Mt} (h : RowsN n M) (j : Nat) : RowsN n (M.take j) := fun r hr => h r (List.mem_of_mem_take hr)
theorem addL_smul0 {n : Nat} {a r : Vc} (ha : a.length = n) (hr : r.length = n) : addL a (smul 0 r) = a := by
  rw [smul_zero, addL_zv (by rw [ha, hr])]
theorem takeP {α : Type} {A : List α} {i : Nat} {L : α} (h : A[i]? = some L) : A.take i ++ [L] = A.take (i + 1) := by rw [List.take_add_one, h]; rfl
theorem take_lc {n : Nat} {u : Vc} {D : Mt} (hD : RowsN n D) (hl : u.length = D.length) {j : Nat} {x : UInt8} (hx : u[j]? = some x) : lc n (u.take (j + 1)) (D.take (j + 1)) = addL (lc n (u.take j) (D.take j)) (smul x (rowA D j)) := by
  have hj := (List.getElem?_eq_some_iff.1 hx).1
  rw [← takeP hx, ← takeP (rowA_mem (A := D) (i := j) (by omega)).1]
  exact lc_snoc (hD.row (by omega)) (hD.take j) (by rw [List.length_take, List.length_take]; omega)

set_option maxHeartbeats 4000000 in
theorem mix_ok (f : Nat) (h : Heap) (b sz : Nat) (F : Fld h (.ptr b 2)) (rv dv : AV) (u : Vc) (rs : List AV) (D : Mt) (S : Sl 1 u.length h rv (u.map bb)) (R : Rd h dv rs D) (hD : RowsN sz D) (hl : u.length = D.length) (hs : sz + 50 < f) (hm : sz < 1000000000) (hu : u.length ≤ 12) :
    ∃ v' h', acall Try.prog (f + 2) 30 [.ptr b 0, rv, dv, .int .i64 (sz : Nat)] h = some (v', h') ∧ Mine 1 sz h' v' ((lc sz u D).map bb) ∧ (∀ d, Has v' d → h.next ≤ d) ∧ Keep h.next nob h h' := by
  rw [acall_text [9] Try.func30 (by kernel_rfl)]
  refine afuncT_ex rfl (by simp [Try.f30]) ?_
  have lr := S.len'
  have Mz := new_row h (zv sz) sz (zv_len sz)
  rw [zv_bb] at Mz
  have Kz : Keep h.next nob h (h.new (.cells (List.replicate sz (.int .u8 0)) false)) := Keep.new (Nat.le_refl _) _
  obtain ⟨ov, hov⟩ : ∃ ov, AV.sl h.next 0 sz sz 1 true = ov := ⟨_, rfl⟩
  have Fz : ∀ d, Has ov d → h.next ≤ d := fun d hd => by rw [← hov] at hd; cases hd; exact Nat.le_refl _
  simp [Try.f30, lr, aalloc_make (P := Try.prog) el47 (z := [.int .u8 0]) az5 rfl rfl sz sz (Nat.le_refl _) (by omega), flat1, afill]
  rw [hov] at Mz ⊢
  refine W_cutLoop 0 (fun st => st.t.get 9 = some ov ∧ Mine 1 sz st.h ov ((lc sz u D).map bb) ∧ Keep h.next nob h st.h) ?_ ?_
  · refine W_loop (fun mm st => ∃ j : Nat, mm = u.length - j ∧ j ≤ u.length ∧ st.t.get 0 = some (.ptr b 0) ∧ st.t.get 2 = some dv ∧ st.t.get 9 = some ov ∧ st.t.get 16 = some rv ∧ st.t.get 17 = some (.int .i64 (u.length : Nat)) ∧ st.t.get 18 = some (.int .i64 (j : Nat)) ∧ Mine 1 sz st.h ov ((lc sz (u.take j) (D.take j)).map bb) ∧ Keep h.next nob h st.h) u.length (by omega)
      ⟨0, by omega, by omega, by simp, by simp, by simp, by simp, by simp, by simp, by rw [List.take_zero, List.take_zero, lc_nil, zv_bb]; exact Mz, Kz⟩ ?_
    rintro mm ⟨t, h3⟩ ⟨j, rfl, hj, q0, q2, q9, q16, q17, q18, M3, K3⟩
    simp only at q0 q2 q9 q16 q17 q18 M3 K3
    by_cases hlt : j < u.length
    · obtain ⟨x, hx⟩ := getb hlt
      have S3 := S.ext K3
      have R3 := R.ext K3
      have ixr := S3.idx1 (P := Try.prog) Try.underlying47 ts5 (j := j) hlt .i64
      have ldr : aload Try.prog h3 5 rv.blk (rv.off + j) = some (.int .u8 (x.toNat : Nat)) := S3.ld (P := Try.prog) ta5 (bb_get hx)
      have hstep := take_lc hD hl hx
      obtain ⟨A, hA⟩ : ∃ A, lc sz (u.take j) (D.take j) = A := ⟨_, rfl⟩
      have hAl : A.length = sz := by rw [← hA]; exact lc_len (hD.take j)
      have hDl := hD.row (k := j) (by omega)
      rw [hA] at M3 hstep
      by_cases hz : x = 0
      · subst hz
        rw [addL_smul0 hAl hDl] at hstep
        simp [q0, q2, q9, q16, q17, q18, isLt (show (j : Int) < (u.length : Int) by omega), ixr, ldr, i64w ((j : Int) + 1) (by omega) (by omega)]
        exact ⟨u.length - (j + 1), by omega, j + 1, rfl, by omega, by simp, by rw [hstep]; exact M3, K3⟩
      · have hz' := (b_not0 hz).1
        have hz2 := (b_not0 hz).2.1
        obtain ⟨r, hr, Sr⟩ := R3.get (i := j) (by omega)
        have ixd := R3.sl.idx1 (P := Try.prog) Try.underlying53 ts47 (j := j) (by omega) .i64
        have ldd := R3.sl.ld (P := Try.prog) ta47 hr
        have lrr := Sr.len'
        rw [hDl] at lrr
        obtain ⟨B, hB⟩ : ∃ B, addL A (smul x (rowA D j)) = B := ⟨_, rfl⟩
        have hBl : B.length = A.length := by rw [← hB]; exact addL_len (by rw [smul_len]; omega)
        simp [q0, q2, q9, q16, q17, q18, isLt (show (j : Int) < (u.length : Int) by omega), ixr, ldr, hz, hz', hz2, ixd, ldd, lrr]
        refine W_cutLoop 2 (fun st => st.t.get 0 = some (.ptr b 0) ∧ st.t.get 2 = some dv ∧ st.t.get 9 = some ov ∧ st.t.get 16 = some rv ∧ st.t.get 17 = some (.int .i64 (u.length : Nat)) ∧ st.t.get 18 = some (.int .i64 (j : Nat)) ∧ Mine 1 sz st.h ov (B.map bb) ∧ Keep h.next nob h st.h) ?_ ?_
        · refine W_loop (fun mm st => ∃ i : Nat, mm = sz - i ∧ i ≤ sz ∧ st.t.get 0 = some (.ptr b 0) ∧ st.t.get 2 = some dv ∧ st.t.get 9 = some ov ∧ st.t.get 11 = some (.int .u8 (x.toNat : Nat)) ∧ st.t.get 16 = some rv ∧ st.t.get 17 = some (.int .i64 (u.length : Nat)) ∧ st.t.get 18 = some (.int .i64 (j : Nat)) ∧ st.t.get 28 = some r ∧ st.t.get 29 = some (.int .i64 (sz : Nat)) ∧ st.t.get 30 = some (.int .i64 (i : Nat)) ∧ Mine 1 sz st.h ov ((mixL B A i).map bb) ∧ Keep h.next nob h st.h) sz (by omega)
            ⟨0, by omega, by omega, by simp [q0], by simp [q2], by simp [q9], by simp, by simp [q16], by simp [q17], by simp [q18], by simp, by simp, by simp, by rw [mixL_0]; exact M3, K3⟩ ?_
          clear q0 q2 q9 q16 q17 q18
          rintro mm ⟨t, h5⟩ ⟨i, rfl, hi, q0, q2, q9, q11, q16, q17, q18, q28, q29, q30, M5, K5⟩
          simp only at q0 q2 q9 q11 q16 q17 q18 q28 q29 q30 M5 K5
          by_cases his : i < sz
          · obtain ⟨y, hy⟩ : ∃ y, (rowA D j)[i]? = some y := ⟨(rowA D j)[i]'(by omega), by simp⟩
            obtain ⟨a, ha⟩ : ∃ a, A[i]? = some a := ⟨A[i]'(by omega), by simp⟩
            obtain ⟨r', hr', Sr5⟩ := (R.ext K5).get (i := j) (by omega)
            have er : r' = r := Option.some.inj (hr'.symm.trans hr)
            subst er
            have F5 := F.ext K5
            have ixy := row_ix Sr5 (j := i) (by omega)
            have ldy := row_ld Sr5 (j := i) (by omega)
            rw [hy, Option.getD_some] at ldy
            have lmx : (mixL B A i).length = sz := by rw [mixL_len hBl]; omega
            have ixo := M5.sl.idx1 (P := Try.prog) Try.underlying47 ts5 (j := i) (by omega) .i64
            have ldo : aload Try.prog h5 5 ov.blk (ov.off + i) = some (.int .u8 (a.toNat : Nat)) := M5.sl.ld (P := Try.prog) (e := 5) ta5 (j := i) (x := bb a) (by rw [List.getElem?_map, mixL_get hBl (Nat.le_refl _), ha]; rfl)
            have mul := mulB_ok f h5 _ F5 x y
            obtain ⟨h6, a6, M6, K6, n6⟩ := M5.lay1 (j := i) (x := .int .u8 ((a ^^^ gm x y).toNat : Nat)) his rfl
            have e6 : ((mixL B A i).map bb).set i (.int .u8 ((a ^^^ gm x y).toNat : Nat)) = (mixL B A (i + 1)).map bb := by
              rw [← mixL_set hBl (show B[i]? = some (a ^^^ gm x y) by rw [← hB]; exact addL_at ha (smul_at hy)), List.map_set]; rfl
            rw [e6] at M6
            rw [UInt8.toNat_xor] at a6
            have K6' : Keep h.next nob h h6 := K5.trans ⟨K6.1, fun d hd _ => K6.2 d (Nat.lt_of_lt_of_le hd K5.1) fun q => by have := Fz d q; omega⟩
            have ag : Agree h5.next h5 h5 := fun _ _ => rfl
            have olt := M5.sl.blk_lt (by omega)
            simp [q0, q2, q9, q11, q16, q17, q18, q28, q29, q30, isLt (show (i : Int) < (sz : Int) by omega), ixy, ldy]
            refine W_split 10 h5.next (by rfl) (by kernel_rfl) (by rfl) ?_
            dsimp only [List.take, List.drop]
            simp [obl, mayEff, mayRead, sameAV, q0, q2, q9, q11, q16, q17, q18, q28, q29, q30, ixo, ldo, mul, ag, olt, a6, xor_u8, i64w ((i : Int) + 1) (by omega) (by omega)]
            exact ⟨sz - (i + 1), by omega, i + 1, rfl, by omega, by simp, M6, K6'⟩
          · have e : i = B.length := by omega
            rw [e, mixL_all hBl] at M5
            simp [q0, q2, q9, q11, q16, q17, q18, q28, q29, q30, isLe (show (sz : Int) ≤ (i : Int) by omega)]
            exact ⟨M5, K5⟩
        · clear q0 q2 q9 q16 q17 q18
          rintro ⟨t, h5⟩ ⟨q0, q2, q9, q16, q17, q18, M5, K5⟩
          simp only at q0 q2 q9 q16 q17 q18 M5 K5
          simp [q0, q2, q9, q16, q17, q18, i64w ((j : Int) + 1) (by omega) (by omega)]
          exact ⟨u.length - (j + 1), by omega, j + 1, rfl, by omega, by simp, by rw [hstep, hB]; exact M5, K5⟩
    · have e : j = u.length := by omega
      rw [e, List.take_length, hl, List.take_length] at M3
      simp [q0, q2, q9, q16, q17, q18, e]
      exact ⟨M3, K3⟩
  · rintro ⟨t, h3⟩ ⟨q9, M3, K3⟩
    simp only at q9 M3 K3
    simp [q9]
    exact ⟨M3, Fz, K3⟩
theorem cauM_get {k m i : Nat} (h : i < k + m) : (cauM k m)[i]? = some (cauR k i) := by simp [cauM, h]
/-- Bytes, and noughts up to a length. -/
def padL (L : Vc) (n : Nat) : Vc := L ++ List.replicate (n - L.length) 0
theorem padL_len {L : Vc} {n : Nat} (h : L.length ≤ n) : (padL L n).length = n := by simp [padL]; omega
/-- A value in k rows. -/
def dataM (k sz : Nat) (L : Vc) : Mt := (List.range k).map fun i => ((padL L (k * sz)).drop (i * sz)).take sz
@[simp] theorem dataM_len (k sz : Nat) (L : Vc) : (dataM k sz L).length = k := by simp [dataM]
theorem mul_ge {k i sz : Nat} (h : i < k) : (i + 1) * sz ≤ k * sz := Nat.mul_le_mul_right _ h
theorem dataM_rows {k sz : Nat} {L : Vc} (h : L.length ≤ k * sz) : RowsN sz (dataM k sz L) := fun r hr => by
  obtain ⟨i, hi, rfl⟩ := List.mem_map.1 hr
  have := mul_ge (sz := sz) (List.mem_range.1 hi)
  rw [Nat.succ_mul] at this
  rw [List.length_take, List.length_drop, padL_len h]; omega
theorem dataM_row {k sz : Nat} {L : Vc} {i : Nat} (h : i < k) : (dataM k sz L)[i]? = some (((padL L (k * sz)).drop (i * sz)).take sz) := by simp [dataM, h]
theorem szN_fits {k n : Nat} (hk : 1 ≤ k) : n ≤ k * szN k n ∧ k * szN k n < n + k := by
  unfold szN
  have e := Nat.div_add_mod (n + k - 1) k
  have l := Nat.mod_lt (n + k - 1) hk
  omega
theorem szN_le {k n : Nat} (hk : 1 ≤ k) : szN k n ≤ n := by
  unfold szN
  rcases Nat.eq_zero_or_pos n with h | h
  · subst h; rw [Nat.div_eq_of_lt (by omega)]; exact Nat.le_refl _
  · have := Nat.div_lt_of_lt_mul (m := n + k - 1) (n := k) (k := n + 1) (by rw [Nat.mul_succ]; have : n ≤ k * n := Nat.le_mul_of_pos_left n hk; omega)
    omega
/-- The fragments of a value. -/
def encP (k m : Nat) (L : Vc) : Mt := mtT (szN k L.length) (cauM k m) (dataM k (szN k L.length) L)
@[simp] theorem encP_len (k m : Nat) (L : Vc) : (encP k m L).length = k + m := by simp [encP, mtT, cauM]
theorem encP_rows {k m : Nat} (hk : 1 ≤ k) (L : Vc) : RowsN (szN k L.length) (encP k m L) := mtT_rows (dataM_rows (szN_fits hk).1) _
/-- A text of these bytes. -/
def tx (L : Vc) : AV := .str ⟨⟨L⟩⟩
def bl (s : ByteArray) : Vc := s.data.toList
theorem bl_len (s : ByteArray) : (bl s).length = s.size := rfl
theorem bl_tx (s : ByteArray) : tx (bl s) = .str s := rfl
theorem acopy_str {P : Program} {dt e : TypeId} (hu : P.underlying dt = some (.slice e)) (hs : tsize P e = some 1) {h h' : Heap} {s : ByteArray} {b i m cap : Nat} {ex : Bool} (hnm : s.size ≤ m) (hlay : alay h b i ((bl s).map bb) = some h') :
    acopy P h dt (.sl b i m cap 1 ex) (.str s) = some (.int .i64 (s.size : Nat), h') := by
  have hlen : (bl s).length = s.size := rfl
  unfold acopy
  simp only [hu, hs]
  rw [show alen (.sl b i m cap 1 ex) = some m from rfl, show alen (.str s) = some s.size from rfl]
  simp only
  rw [show Nat.min s.size m = s.size from Nat.min_eq_left hnm, show acells h 1 s.size (.str s) = some ((bl s).map bb) from by
    show (if (1 : Nat) = 1 then some ((s.data.toList.take s.size).map fun b => AV.int .u8 (b.toNat : Nat)) else none) = _
    rw [if_pos rfl, show s.data.toList.take s.size = s.data.toList from List.take_of_length_le (Nat.le_refl _)]; rfl]
  simp only
  rw [if_neg (by rw [bb_one]; simp [hlen])]
  simp only [hlay]
  simp
theorem lay_pref (h : Heap) (L : Vc) {n : Nat} (hn : L.length ≤ n) : alay (h.new (.cells (List.replicate n (.int .u8 0)) false)) h.next 0 (L.map bb) = some (h.new (.cells ((padL L n).map bb) false)) := by
  unfold alay
  rw [get_new_self]
  simp only
  rw [layAt_all _ _ _ (by rw [List.length_map, List.length_replicate]; omega)]
  simp [padL]
  rfl
theorem pad_sl (h : Heap) (L : Vc) {n : Nat} (hn : L.length ≤ n) : Sl 1 n (h.new (.cells ((padL L n).map bb) false)) (.sl h.next 0 n n 1 true) ((padL L n).map bb) :=
  .inr (.inr ⟨h.next, 0, n, true, _, false, rfl, Nat.lt_succ_self _, get_new_self _ _, by rw [List.length_map, padL_len hn, Nat.mul_one], by rw [List.length_map, padL_len hn]; omega, by rw [List.drop_zero, List.take_of_length_le (by rw [List.length_map, padL_len hn]; omega)], Nat.le_refl _⟩)

set_option maxHeartbeats 4000000 in
theorem enc_ok (f : Nat) (h : Heap) (b k m : Nat) (rv : AV) (C : Cd h (.ptr b 0) b k m rv) (s : ByteArray) (hs : s.size + 100 < f) (hm : s.size < 10000000) :
    ∃ v' h', acall Try.prog (f + 3) 11 [.ptr b 0, .str s] h = some (v', h') ∧ Mine 1 (k + m) h' v' ((encP k m (bl s)).map tx) ∧ (∀ d, Has v' d → h.next ≤ d) ∧ Keep h.next nob h h' := by
  rw [acall_text [] Try.func11 (by kernel_rfl)]
  refine afuncT_ex rfl (by simp [Try.f11]) ?_
  have k1 := C.k1
  have k8 := C.k8
  have km := C.km
  obtain ⟨sz, hsz⟩ : ∃ sz, szN k s.size = sz := ⟨_, rfl⟩
  have E1 := size_ok (f + 1) C s.size (by omega)
  rw [hsz] at E1
  obtain ⟨q1, q2⟩ := szN_fits (k := k) (n := s.size) k1
  have q3 := szN_le (k := k) (n := s.size) k1
  rw [hsz] at q1 q2 q3
  have hN8 : k * sz ≤ 8 * sz := Nat.mul_le_mul_right _ k8
  obtain ⟨N, hN⟩ : ∃ N, k * sz = N := ⟨_, rfl⟩
  rw [hN] at q1 q2 hN8
  have sN : fwrap .i64 ((k : Int) * (sz : Int)) = (N : Nat) := by rw [← Int.natCast_mul, hN, i64w _ (by omega) (by omega)]
  have l0 := C.ldk
  have lay := lay_pref h (bl s) (n := N) q1
  have Ka : Keep h.next nob h (h.new (.cells ((padL (bl s) N).map bb) false)) := Keep.new (Nat.le_refl _) _
  have Sa := pad_sl h (bl s) (n := N) q1
  have cp := acopy_str (P := Try.prog) (dt := 47) Try.underlying47 ts5 (h := h.new (.cells (List.replicate N (.int .u8 0)) false)) (s := s) (b := h.next) (i := 0) (m := N) (cap := N) (ex := true) q1 lay
  obtain ⟨h1, e1⟩ : ∃ h1, h.new (.cells ((padL (bl s) N).map bb) false) = h1 := ⟨_, rfl⟩
  obtain ⟨al, hal⟩ : ∃ al, AV.sl h.next 0 N N 1 true = al := ⟨_, rfl⟩
  rw [e1] at cp Ka Sa
  rw [hal] at cp Sa
  have C1 := C.ext Ka
  have l1 := C1.ldk
  have Md := Mine.new (sz := 1) (n := k) (m := k) h1 (List.replicate k .nils) (by simp) (Nat.le_refl _) (by simp) true
  rw [Nat.mul_one, List.take_of_length_le (by simp)] at Md
  have Kd : Keep h1.next nob h1 (h1.new (.cells (List.replicate k .nils) false)) := Keep.new (Nat.le_refl _) _
  obtain ⟨dv, hdv⟩ : ∃ dv, AV.sl h1.next 0 k k 1 true = dv := ⟨_, rfl⟩
  have Fd : ∀ d, Has dv d → h1.next ≤ d := fun d hd => by rw [← hdv] at hd; cases hd; exact Nat.le_refl _
  have ld : ∀ (k' : Heap) (e : TypeId), vlen' k' dv (some (.slice e)) = some (.int .i64 (k : Nat)) := fun k' e => by rw [← hdv]; rfl
  simp [Try.f11, E1, l0, sN, aalloc_make (P := Try.prog) el47 (z := [.int .u8 0]) az5 rfl rfl N N (Nat.le_refl _) (by omega), flat1, afill, hal, cp, l1, aalloc_make (P := Try.prog) el53 (z := [.nils]) az47 rfl rfl k k (Nat.le_refl _) (by omega)]
  rw [hdv] at Md ⊢
  simp [ld]
  obtain ⟨D, hD⟩ : ∃ D, dataM k sz (bl s) = D := ⟨_, rfl⟩
  have hDl : D.length = k := by rw [← hD]; simp
  have hDr : RowsN sz D := by rw [← hD]; exact dataM_rows (by rw [hN]; exact q1)
  refine W_cutLoop 0 (fun st => st.t.get 0 = some (.ptr b 0) ∧ st.t.get 5 = some (.int .i64 (sz : Nat)) ∧ st.t.get 7 = some dv ∧ (∃ rs, Rd st.h dv rs D) ∧ Keep h.next nob h st.h) ?_ ?_
  · refine W_loop (fun mm st => ∃ (i : Nat) (rs : List AV), mm = k - i ∧ i ≤ k ∧ st.t.get 0 = some (.ptr b 0) ∧ st.t.get 5 = some (.int .i64 (sz : Nat)) ∧ st.t.get 6 = some al ∧ st.t.get 7 = some dv ∧ st.t.get 32 = some (.int .i64 (k : Nat)) ∧ st.t.get 33 = some (.int .i64 (i : Nat)) ∧ rs.length = k ∧ Mine 1 k st.h dv rs ∧ (∀ (j : Nat) (r : AV) (L : Vc), j < i → rs[j]? = some r → D[j]? = some L → Sl 1 L.length h1 r (L.map bb)) ∧ Keep h1.next nob h1 st.h) k (by omega)
      ⟨0, List.replicate k .nils, by omega, by omega, by simp, by simp, by simp, by simp, by simp, by simp, by simp, Md, fun j r L hj => absurd hj (Nat.not_lt_zero _), Kd⟩ ?_
    rintro mm ⟨t, h3⟩ ⟨i, rs, rfl, hi, q0, q5, q6, q7, q32, q33, hrs, M3, R3, K3⟩
    simp only at q0 q5 q6 q7 q32 q33 M3 K3
    by_cases hlt : i < k
    · have hmul := mul_ge (sz := sz) hlt
      rw [hN] at hmul
      obtain ⟨p, hp⟩ : ∃ p, i * sz = p := ⟨_, rfl⟩
      obtain ⟨q, hq⟩ : ∃ q, (i + 1) * sz = q := ⟨_, rfl⟩
      have hpq : q = p + sz := by rw [← hq, Nat.succ_mul, hp]
      rw [hq] at hmul
      have sp : fwrap .i64 ((i : Int) * (sz : Int)) = (p : Nat) := by rw [← Int.natCast_mul, hp, i64w _ (by omega) (by omega)]
      have sq : fwrap .i64 (((i : Int) + 1) * (sz : Int)) = (q : Nat) := by rw [show ((i : Int) + 1) * (sz : Int) = (((i + 1) * sz : Nat) : Int) by simp, hq, i64w _ (by omega) (by omega)]
      obtain ⟨r, a1, a2⟩ := Sa.sub (P := Try.prog) (ty := 47) Try.underlying47 ts5 (k := .i64) (k' := .i64) (i := p) (j := q) (by omega) hmul
      rw [Nat.mul_one, Nat.mul_one, show q - p = sz by omega, ← List.map_drop, ← List.map_take] at a2
      have hDi : D[i]? = some (((padL (bl s) N).drop p).take sz) := by rw [← hD, dataM_row hlt, hN, hp]
      have hLl := hDr _ (List.mem_of_getElem? hDi)
      have ixd := M3.sl.idx1 (P := Try.prog) Try.underlying53 ts47 (j := i) hlt .i64
      obtain ⟨h4, b1, b2, b3, b4⟩ := M3.lay1 (j := i) (x := r) hlt a2.oneV
      have rwr := row1_one a2.oneV
      simp [q0, q5, q6, q7, q32, q33, isLt (show (i : Int) < (k : Int) by omega), sp, i64w ((i : Int) + 1) (by omega) (by omega), sq, a1, ixd, rwr, a2.oneV, b1]
      refine ⟨k - (i + 1), by omega, i + 1, rfl, by omega, by simp, rs.set i r, by simp [hrs], b2, fun j r' L hj hr hL => ?_, K3.trans ⟨b3.1, fun d hd _ => b3.2 d (Nat.lt_of_lt_of_le hd K3.1) fun q => by have := Fd d q; omega⟩⟩
      by_cases hji : i = j
      · subst hji
        rw [List.getElem?_set_self (by omega)] at hr
        rw [hDi] at hL
        cases hr
        cases hL
        rw [hLl]
        exact a2
      · rw [List.getElem?_set_ne hji] at hr
        exact R3 j r' L (by omega) hr hL
    · have e : i = k := by omega
      subst e
      simp [q0, q5, q6, q7, q32, q33]
      exact ⟨⟨rs, by rw [hDl]; exact M3.sl, fun j r L hr hL => (R3 j r L (by have := (List.getElem?_eq_some_iff.1 hL).1; omega) hr hL).ext K3⟩, Ka.trans (K3.weak Ka.1 fun _ _ q => q)⟩
  rintro ⟨t, h3⟩ ⟨q0, q5, q7, ⟨rs, R3⟩, K3⟩
  simp only at q0 q5 q7 R3 K3
  have C3 := C.ext K3
  have ln := C3.ldn
  obtain ⟨n, hn⟩ : ∃ n, k + m = n := ⟨_, rfl⟩
  rw [hn] at ln ⊢
  have Ko : Keep h3.next nob h3 (h3.new (.cells (List.replicate n (.str .empty)) false)) := Keep.new (Nat.le_refl _) _
  have C4 := C3.ext Ko
  have lr := C4.ldr
  obtain ⟨rsc, Rc⟩ := C4.rows
  have lrc := Rc.sl.len'
  rw [show (cauM k m).length = n by simp [cauM, hn]] at lrc
  have Mo := Mine.new (sz := 1) (n := n) (m := n) h3 (List.replicate n (.str .empty)) (by simp) (Nat.le_refl _) (by simp) true
  rw [Nat.mul_one, List.take_of_length_le (by simp)] at Mo
  obtain ⟨ov, hov⟩ : ∃ ov, AV.sl h3.next 0 n n 1 true = ov := ⟨_, rfl⟩
  have Fo : ∀ d, Has ov d → h3.next ≤ d := fun d hd => by rw [← hov] at hd; cases hd; exact Nat.le_refl _
  simp [q0, q5, q7, ln, aalloc_make (P := Try.prog) el26 (z := [.str .empty]) az9 rfl rfl n n (Nat.le_refl _) (by omega), flat1, lr, lrc]
  rw [hov] at Mo ⊢
  have R4 := R3.ext Ko
  obtain ⟨h4, e4⟩ : ∃ h4, h3.new (.cells (List.replicate n (.str .empty)) false) = h4 := ⟨_, rfl⟩
  rw [e4] at Mo Ko R4 Rc C4 ⊢
  obtain ⟨E, hE⟩ : ∃ E, encP k m (bl s) = E := ⟨_, rfl⟩
  have hEe : E = mtT sz (cauM k m) D := by rw [← hE]; unfold encP; rw [bl_len, hsz, hD]
  have hEl : E.length = n := by rw [← hE, encP_len, hn]
  rw [hE]
  have hml : (E.map tx).length = (List.replicate n (AV.str .empty)).length := by simp [hEl]
  refine W_cutLoop 2 (fun st => st.t.get 9 = some ov ∧ Mine 1 n st.h ov (E.map tx) ∧ Keep h3.next nob h3 st.h) ?_ ?_
  · refine W_loop (fun mm st => ∃ (i : Nat), mm = n - i ∧ i ≤ n ∧ st.t.get 0 = some (.ptr b 0) ∧ st.t.get 5 = some (.int .i64 (sz : Nat)) ∧ st.t.get 7 = some dv ∧ st.t.get 9 = some ov ∧ st.t.get 57 = some rv ∧ st.t.get 58 = some (.int .i64 (n : Nat)) ∧ st.t.get 59 = some (.int .i64 (i : Nat)) ∧ Mine 1 n st.h ov (mixL (E.map tx) (List.replicate n (.str .empty)) i) ∧ Keep h3.next nob h3 st.h ∧ Keep h4.next (Has ov) h4 st.h) n (by omega)
      ⟨0, by omega, by omega, by simp [q0], by simp [q5], by simp [q7], by simp, by simp, by simp, by simp, by rw [mixL_0]; exact Mo, Ko, Keep.refl _ _ _⟩ ?_
    clear q0 q5 q7
    rintro mm ⟨t, h5⟩ ⟨i, rfl, hi, q0, q5, q7, q9, q57, q58, q59, M5, K5, K45⟩
    simp only at q0 q5 q7 q9 q57 q58 q59 M5 K5 K45
    have olt : ∀ d, Has ov d → h3.next ≤ d ∧ d < h4.next := fun d hd => ⟨Fo d hd, Mo.lt hd⟩
    by_cases hlt : i < n
    · have C5 := C3.ext K5
      obtain ⟨rs5, Rc5⟩ := C5.rows
      have R5 := R3.ext K5
      obtain ⟨r, hr, Sr⟩ := Rc5.get (i := i) (by simp [cauM]; omega)
      have hcr : rowA (cauM k m) i = cauR k i := rowA_get (cauM_get (by omega))
      rw [hcr] at Sr
      have ixr := Rc5.sl.idx1 (P := Try.prog) Try.underlying53 ts47 (j := i) (by simp [cauM]; omega) .i64
      have ldr := Rc5.sl.ld (P := Try.prog) ta47 hr
      obtain ⟨w, h6, E6, M6, F6, K6⟩ := mix_ok f h5 b sz C5.fld r dv (cauR k i) _ D Sr R5 hDr (by rw [cauR_len, hDl]) (by omega) (by omega) (by rw [cauR_len]; omega)
      have M6o := M5.ext K6
      have cv : aconv Try.prog h6 47 9 w = some (.str ⟨⟨lc sz (cauR k i) D⟩⟩, h6) := aconv_bs M6.sl Try.underlying47 Try.underlying9 Try.underlying5
      have hEi : E[i]? = some (lc sz (cauR k i) D) := by
        rw [hEe]
        unfold mtT
        rw [List.getElem?_map, cauM_get (show i < k + m by omega)]; rfl
      have ixo := M6o.sl.idx1 (P := Try.prog) Try.underlying26 ts9 (j := i) hlt .i64
      obtain ⟨h7, a7, M7, K7, n7⟩ := M6o.lay1 (j := i) (x := tx (lc sz (cauR k i) D)) hlt rfl
      rw [mixL_set hml (show (E.map tx)[i]? = some (tx (lc sz (cauR k i) D)) by rw [List.getElem?_map, hEi]; rfl)] at M7
      have a7 : alay h6 ov.blk (ov.off + i) [.str ⟨⟨lc sz (cauR k i) D⟩⟩] = some h7 := a7
      have K7' : Keep h3.next nob h3 h7 := (K5.trans (K6.weak K5.1 fun _ _ q => q)).trans ⟨K7.1, fun d hd _ => K7.2 d (Nat.lt_of_lt_of_le hd (Nat.le_trans K5.1 K6.1)) fun q => by have := Fo d q; omega⟩
      have K47 : Keep h4.next (Has ov) h4 h7 := (K45.trans (K6.weak K45.1 fun _ _ q => q.elim)).trans (K7.weak (Nat.le_trans K45.1 K6.1) fun _ _ q => q)
      simp [q0, q5, q7, q9, q57, q58, q59, isLt (show (i : Int) < (n : Int) by omega), ixr, ldr, E6, cv, ixo, a7, i64w ((i : Int) + 1) (by omega) (by omega)]
      exact ⟨n - (i + 1), by omega, i + 1, rfl, by omega, by simp, M7, K7', K47⟩
    · have e : i = (E.map tx).length := by rw [List.length_map]; omega
      rw [e, mixL_all hml] at M5
      simp [q0, q5, q7, q9, q57, q58, q59, isLe (show (n : Int) ≤ (i : Int) by omega)]
      exact ⟨M5, K5⟩
  · clear q0 q5 q7
    rintro ⟨t, h5⟩ ⟨q9, M5, K5⟩
    simp only at q9 M5 K5
    simp [q9]
    exact ⟨M5, fun d hd => Nat.le_trans K3.1 (Fo d hd), K3.trans (K5.weak K3.1 fun _ _ q => q)⟩
end Go.Proofs.Ytmmibaaidfcbhaa
/- depotlaw3: short; a code of any two numbers. -/
namespace Go.Proofs.Ytmmibaaidfcbhaa
open Go Go.YtmmibaaidfcbhaaAbs
set_option linter.unusedSimpArgs false
set_option linter.unusedVariables false
set_option maxRecDepth 4000

def shortN (n : Nat) (s : ByteArray) : ByteArray := if s.size ≤ n then s else s.extract 0 n
theorem shortN_le (n : Nat) (s : ByteArray) : (shortN n s).size ≤ n := by
  unfold shortN
  split
  · assumption
  · simp
    omega
theorem short3_ok (k : Nat) (s : ByteArray) (n : Nat) (h : Heap) : acall Try.prog (k + 1) 15 [.str s, .int .i64 (n : Nat)] h = some (.str (shortN n s), h) := by
  rw [acall_text [] Try.func15 (by kernel_rfl)]
  refine afuncT_of rfl (by simp [Try.f15]) ?_
  unfold shortN
  by_cases hb : s.size ≤ n
  · rw [if_pos hb]
    simp [Try.f15, isLe (show (s.size : Int) ≤ (n : Int) by omega)]
  · rw [if_neg hb]
    simp [Try.f15, isLt (show (n : Int) < (s.size : Int) by omega), aslice_strTo Try.underlying9 (s := s) (k := .i64) (n := (n : Int)) (by omega) (by omega)]
/-- A code of any two numbers, brought into their bounds. -/
theorem rs_start (k : Nat) (hk : 2000 < k) (h : Heap) (a0 a1 : Int) : ∃ n m : Nat, acall Try.prog (k + 10) 14 [.int .i64 a0, .int .i64 1, .int .i64 8] h = some (.int .i64 (n : Nat), h) ∧ fwrap .i64 (12 - (n : Int)) = 12 - (n : Int) ∧
    acall Try.prog (k + 10) 14 [.int .i64 a1, .int .i64 0, .int .i64 (12 - (n : Int))] h = some (.int .i64 (m : Nat), h) ∧
    ∃ h' b rv, acall Try.prog (k + 10) 10 [.int .i64 (n : Nat), .int .i64 (m : Nat)] h = some (.tup [.ptr b 0, .int .i64 0], h') ∧ Cd h' (.ptr b 0) b n m rv ∧ Keep h.next nob h h' := by
  obtain ⟨n, W1, n1, n2⟩ := within_nat (k + 9) a0 1 8 (by omega) (by omega) (by omega) h
  obtain ⟨m, W2, m1, m2⟩ := within_nat (k + 9) a1 0 (12 - (n : Int)) (by omega) (by omega) (by omega) h
  obtain ⟨v, h', E, b, rv, rfl, C, K⟩ := new_ok (k + 7) (by omega) h n m (by omega) (by omega) (by omega)
  exact ⟨n, m, W1, i64w _ (by omega) (by omega), W2, h', b, rv, E, C, K⟩
theorem szN_mono {k x y : Nat} (h : x ≤ y) : szN k x ≤ szN k y := Nat.div_le_div_right (by omega)
theorem szN_more {k x : Nat} (hk : 1 ≤ k) : szN k (x + k) = szN k x + 1 := by
  unfold szN
  rw [show x + k + k - 1 = (x + k - 1) + k by omega, Nat.add_div_right _ hk]
/-- An element of a row of texts. -/
theorem txs_at {n : Nat} {h : Heap} {v : AV} {E : Mt} (S : Sl 1 n h v (E.map tx)) {i : Nat} (hi : i < E.length) : aindex Try.prog 26 v (.int .i64 (i : Nat)) = some (.ptr v.blk (v.off + i)) ∧ aload Try.prog h 9 v.blk (v.off + i) = some (tx (rowA E i)) ∧ v.blk < h.next := by
  have hl := S.length
  rw [List.length_map, Nat.mul_one] at hl
  exact ⟨S.idx1 (P := Try.prog) Try.underlying26 ts9 (by omega) .i64, S.ld (P := Try.prog) ta9 (by rw [List.getElem?_map, (rowA_mem hi).1]; rfl), S.blk_lt (by omega)⟩
@[simp] theorem nn_code (b : Nat) : aeql Try.prog 22 (.ptr b 0) .nilp = some false := by simp [aeql, Try.underlying22]
end Go.Proofs.Ytmmibaaidfcbhaa
/- The document's Size and Encode. -/
namespace Go.Proofs.Ytmmibaaidfcbhaa
open Go Go.YtmmibaaidfcbhaaAbs
set_option linter.unusedSimpArgs false
set_option linter.unusedVariables false
set_option maxRecDepth 4000

theorem rsize_ok (f : Nat) (h : Heap) (k n : Nat) (hk : 1 ≤ k) (h8 : k ≤ 8) (hn : n < 100000000000) : acall Try.prog (f + 1) 26 [.int .i64 (k : Nat), .int .i64 (n : Nat)] h = some (.int .i64 (szN k n : Nat), h) := by
  rw [acall_text [] Try.func26 (by kernel_rfl)]
  refine afuncT_of rfl (by simp [Try.f26]) ?_
  have hne : ¬ (k : Int) = 0 := by omega
  have hk0 : ¬ k = 0 := by omega
  have e0 : (n : Int) + (k : Int) - 1 = ((n + k - 1 : Nat) : Int) := by omega
  have e1 : ((n + k - 1 : Nat) : Int).tdiv (k : Int) = ((szN k n : Nat) : Int) := by unfold szN; rw [Int.ofNat_tdiv]
  have hle : szN k n ≤ n := szN_le hk
  simp [Try.f26, isLe (show (1 : Int) ≤ (k : Int) by omega), isLe (show (0 : Int) ≤ (n : Int) by omega), i64w ((n : Int) + (k : Int)) (by omega) (by omega), i64w ((n : Int) + (k : Int) - 1) (by omega) (by omega), hne, hk0, e0, i64w (((n + k - 1 : Nat)) : Int) (by omega) (by omega), e1, i64w ((szN k n : Nat) : Int) (by omega) (by omega)]
theorem rsize_no (f : Nat) (h : Heap) (k : Nat) (hk : 1 ≤ k) (n : Int) (hn : n < 0) : acall Try.prog (f + 1) 26 [.int .i64 (k : Nat), .int .i64 n] h = some (.int .i64 0, h) := by
  rw [acall_text [] Try.func26 (by kernel_rfl)]
  refine afuncT_of rfl (by simp [Try.f26]) ?_
  simp [Try.f26, isLe (show (1 : Int) ≤ (k : Int) by omega), isLt hn]
/-- An entry of the value's rows. -/
theorem dataM_at {k sz : Nat} {L : Vc} {j i : Nat} (hj : j < k) (hi : i < sz) : (rowA (dataM k sz L) j)[i]?.getD 0 = (L[j * sz + i]?).getD 0 := by
  rw [rowA_get (dataM_row hj), List.getElem?_take, if_pos hi, List.getElem?_drop]
  unfold padL
  by_cases h : j * sz + i < L.length
  · rw [List.getElem?_append_left h]
  · rw [List.getElem?_append_right (by omega), List.getElem?_eq_none (l := L) (by omega), List.getElem?_replicate]
    split <;> rfl
set_option maxHeartbeats 4000000 in
theorem renc_ok (f : Nat) (h : Heap) (k m : Nat) (k1 : 1 ≤ k) (k8 : k ≤ 8) (km : m + k ≤ 12) (s : ByteArray) (hs : s.size + 400 < f) (hm : s.size < 10000000) :
    ∃ v' h', acall Try.prog (f + 4) 16 [.int .i64 (k : Nat), .int .i64 (m : Nat), .str s] h = some (v', h') ∧ Mine 1 (k + m) h' v' ((encP k m (bl s)).map tx) ∧ (∀ d, Has v' d → h.next ≤ d) ∧ Keep h.next nob h h' := by
  rw [acall_text [15] Try.func16 (by kernel_rfl)]
  refine afuncT_ex rfl (by simp [Try.f16]) ?_
  obtain ⟨cv, h1, E1, Nc⟩ := rcauchy_ok f (by omega) h k m k1 k8 km
  obtain ⟨rsc, Rc⟩ := Nc.rd
  have K1 := Nc.kb
  obtain ⟨sz, hsz⟩ : ∃ sz, szN k s.size = sz := ⟨_, rfl⟩
  have E2 := rsize_ok (f + 2) h1 k s.size k1 k8 (by omega)
  rw [hsz] at E2
  obtain ⟨q1, q2⟩ := szN_fits (k := k) (n := s.size) k1
  have q3 := szN_le (k := k) (n := s.size) k1
  rw [hsz] at q1 q2 q3
  obtain ⟨D, hD⟩ : ∃ D, dataM k sz (bl s) = D := ⟨_, rfl⟩
  have hDl : D.length = k := by rw [← hD]; simp
  have hDr : RowsN sz D := by rw [← hD]; exact dataM_rows q1
  obtain ⟨n, hn⟩ : ∃ n, k + m = n := ⟨_, rfl⟩
  have lc0 := Rc.sl.len'
  rw [show (cauM k m).length = n by simp [cauM, hn]] at lc0
  obtain ⟨E, hE⟩ : ∃ E, encP k m (bl s) = E := ⟨_, rfl⟩
  have hEe : E = mtT sz (cauM k m) D := by rw [← hE]; unfold encP; rw [bl_len, hsz, hD]
  have hEl : E.length = n := by rw [← hE, encP_len, hn]
  rw [hE, hn]
  simp [Try.f16, E1, E2]
  refine W_cutLoop 0 (fun st => ∃ ov, st.t.get 9 = some ov ∧ Mine 1 n st.h ov (E.map tx) ∧ (∀ d, Has ov d → h1.next ≤ d) ∧ Keep h1.next nob h1 st.h) ?_ ?_
  · refine W_loop (fun mm st => ∃ (i : Nat) (ov : AV), mm = n - i ∧ i ≤ n ∧ st.t.get 0 = some (.int .i64 (k : Nat)) ∧ st.t.get 2 = some (.str s) ∧ st.t.get 7 = some cv ∧ st.t.get 8 = some (.int .i64 (sz : Nat)) ∧ st.t.get 9 = some ov ∧ st.t.get 10 = some (.int .i64 (i : Nat)) ∧ Mine 1 i st.h ov ((E.take i).map tx) ∧ (∀ d, Has ov d → h1.next ≤ d) ∧ Keep h1.next nob h1 st.h) n (by omega)
      ⟨0, .nils, by omega, by omega, by simp, by simp, by simp, by simp, by simp, by simp, Mine.nil 1 h1, (fun d hd => by cases hd), Keep.refl _ _ _⟩ ?_
    rintro mm ⟨t, h3⟩ ⟨i, ov, rfl, hi, q0, qs, q7, q8, q9, q10, M3, F3, K3⟩
    simp only at q0 qs q7 q8 q9 q10 M3 K3
    by_cases hlt : i < n
    · have Mz := new_row h3 (zv sz) sz (zv_len sz)
      rw [zv_bb] at Mz
      have Kz : Keep h3.next nob h3 (h3.new (.cells (List.replicate sz (.int .u8 0)) false)) := Keep.new (Nat.le_refl _) _
      obtain ⟨pv, hpv⟩ : ∃ pv, AV.sl h3.next 0 sz sz 1 true = pv := ⟨_, rfl⟩
      have Fz : ∀ d, Has pv d → h3.next ≤ d := fun d hd => by rw [← hpv] at hd; cases hd; exact Nat.le_refl _
      simp [q0, qs, q7, q8, q9, q10, lc0, isLt (show (i : Int) < (n : Int) by omega), aalloc_make (P := Try.prog) el47 (z := [.int .u8 0]) az5 rfl rfl sz sz (Nat.le_refl _) (by omega), flat1, afill]
      rw [hpv] at Mz ⊢
      have hcr : rowA (cauM k m) i = cauR k i := rowA_get (cauM_get (by omega))
      refine W_cutLoop 2 (fun st => st.t.get 0 = some (.int .i64 (k : Nat)) ∧ st.t.get 2 = some (.str s) ∧ st.t.get 7 = some cv ∧ st.t.get 8 = some (.int .i64 (sz : Nat)) ∧ st.t.get 9 = some ov ∧ st.t.get 10 = some (.int .i64 (i : Nat)) ∧ st.t.get 11 = some pv ∧ Mine 1 sz st.h pv ((lc sz (cauR k i) D).map bb) ∧ Keep h3.next nob h3 st.h) ?_ ?_
      · refine W_loop (fun mm st => ∃ (j : Nat), mm = k - j ∧ j ≤ k ∧ st.t.get 0 = some (.int .i64 (k : Nat)) ∧ st.t.get 2 = some (.str s) ∧ st.t.get 7 = some cv ∧ st.t.get 8 = some (.int .i64 (sz : Nat)) ∧ st.t.get 9 = some ov ∧ st.t.get 10 = some (.int .i64 (i : Nat)) ∧ st.t.get 11 = some pv ∧ st.t.get 12 = some (.int .i64 (j : Nat)) ∧ Mine 1 sz st.h pv ((lc sz ((cauR k i).take j) (D.take j)).map bb) ∧ Keep h3.next nob h3 st.h) k (by omega)
          ⟨0, by omega, by omega, by simp [q0], by simp [qs], by simp [q7], by simp [q8], by simp [q9], by simp [q10], by simp, by simp, by rw [List.take_zero, List.take_zero, lc_nil, zv_bb]; exact Mz, Kz⟩ ?_
        clear q0 qs q7 q8 q9 q10
        rintro mm ⟨t, h5⟩ ⟨j, rfl, hj, q0, qs, q7, q8, q9, q10, q11, q12, M5, K5⟩
        simp only at q0 qs q7 q8 q9 q10 q11 q12 M5 K5
        by_cases hjk : j < k
        · obtain ⟨x, hx⟩ : ∃ x, (cauR k i)[j]? = some x := ⟨(cauR k i)[j]'(by simpa using hjk), by simp⟩
          have hstep := take_lc hDr (show (cauR k i).length = D.length by rw [cauR_len, hDl]) hx
          obtain ⟨A, hA⟩ : ∃ A, lc sz ((cauR k i).take j) (D.take j) = A := ⟨_, rfl⟩
          have hAl : A.length = sz := by rw [← hA]; exact lc_len (hDr.take j)
          have hDj := hDr.row (k := j) (by omega)
          rw [hA] at M5 hstep
          obtain ⟨B, hB⟩ : ∃ B, addL A (smul x (rowA D j)) = B := ⟨_, rfl⟩
          have hBl : B.length = A.length := by rw [← hB]; exact addL_len (by rw [smul_len]; omega)
          have hjs : j * sz + sz ≤ k * sz := by have := mul_ge (sz := sz) hjk; rw [Nat.succ_mul] at this; exact this
          have hjs8 : k * sz ≤ 8 * sz := Nat.mul_le_mul_right _ k8
          obtain ⟨p, hp⟩ : ∃ p, j * sz = p := ⟨_, rfl⟩
          have sp : fwrap .i64 ((j : Int) * (sz : Int)) = (p : Nat) := by rw [← Int.natCast_mul, hp, i64w _ (by omega) (by omega)]
          simp [q0, qs, q7, q8, q9, q10, q11, q12, isLt (show (j : Int) < (k : Int) by omega)]
          refine W_cutLoop 4 (fun st => st.t.get 0 = some (.int .i64 (k : Nat)) ∧ st.t.get 2 = some (.str s) ∧ st.t.get 7 = some cv ∧ st.t.get 8 = some (.int .i64 (sz : Nat)) ∧ st.t.get 9 = some ov ∧ st.t.get 10 = some (.int .i64 (i : Nat)) ∧ st.t.get 11 = some pv ∧ st.t.get 12 = some (.int .i64 (j : Nat)) ∧ Mine 1 sz st.h pv (B.map bb) ∧ Keep h3.next nob h3 st.h) ?_ ?_
          · refine W_loop (fun mm st => ∃ (e : Nat), mm = sz - e ∧ e ≤ sz ∧ st.t.get 0 = some (.int .i64 (k : Nat)) ∧ st.t.get 2 = some (.str s) ∧ st.t.get 7 = some cv ∧ st.t.get 8 = some (.int .i64 (sz : Nat)) ∧ st.t.get 9 = some ov ∧ st.t.get 10 = some (.int .i64 (i : Nat)) ∧ st.t.get 11 = some pv ∧ st.t.get 12 = some (.int .i64 (j : Nat)) ∧ st.t.get 13 = some (.int .i64 (e : Nat)) ∧ Mine 1 sz st.h pv ((mixL B A e).map bb) ∧ Keep h3.next nob h3 st.h) sz (by omega)
              ⟨0, by omega, by omega, by simp [q0], by simp [qs], by simp [q7], by simp [q8], by simp [q9], by simp [q10], by simp [q11], by simp [q12], by simp, by rw [mixL_0]; exact M5, K5⟩ ?_
            clear q0 qs q7 q8 q9 q10 q11 q12 M5 K5
            rintro mm ⟨t, h6⟩ ⟨e, rfl, he, q0, qs, q7, q8, q9, q10, q11, q12, q13, M6, K6⟩
            simp only at q0 qs q7 q8 q9 q10 q11 q12 q13 M6 K6
            by_cases hes : e < sz
            · obtain ⟨a, ha⟩ : ∃ a, A[e]? = some a := ⟨A[e]'(by omega), by simp⟩
              have hDe : (rowA D j)[e]? = some (((bl s)[p + e]?).getD 0) := by
                have := dataM_at (L := bl s) hjk hes
                rw [hD, hp] at this
                rw [List.getElem?_eq_getElem (by omega)] at this ⊢
                rw [← this]; rfl
              obtain ⟨z, hz⟩ : ∃ z, p + e = z := ⟨_, rfl⟩
              rw [hz] at hDe
              have sz2 : fwrap .i64 ((p : Int) + (e : Int)) = (z : Nat) := by rw [i64w _ (by omega) (by omega)]; omega
              have hset := mixL_set (X := B) (Y := A) hBl (j := e) (x := a ^^^ gm x (((bl s)[z]?).getD 0)) (by rw [← hB]; exact addL_at ha (smul_at hDe))
              by_cases hzl : z < s.size
              · have hb : s.data[z]? = some s.data[z] := by simp
                have hbl : (bl s)[z]? = some s.data[z] := by simp [bl]
                rw [hbl, Option.getD_some] at hset
                generalize s.data[z] = y at *
                have Rc6 := ((Rc.ext K3).ext K6)
                obtain ⟨r, hr, Sr⟩ := Rc6.get (i := i) (by simp [cauM]; omega)
                rw [hcr] at Sr
                have ixc := Rc6.sl.idx1 (P := Try.prog) Try.underlying53 ts47 (j := i) (by simp [cauM]; omega) .i64
                have ldc' := Rc6.sl.ld (P := Try.prog) ta47 hr
                have ixe := row_ix Sr (j := j) (by simpa using hjk)
                have lde := row_ld Sr (j := j) (by simpa using hjk)
                rw [hx, Option.getD_some] at lde
                have ixp := M6.sl.idx1 (P := Try.prog) Try.underlying47 ts5 (j := e) hes .i64
                have ldp : aload Try.prog h6 5 pv.blk (pv.off + e) = some (.int .u8 (a.toNat : Nat)) := M6.sl.ld (P := Try.prog) (e := 5) ta5 (j := e) (x := bb a) (by rw [List.getElem?_map, mixL_get hBl (Nat.le_refl _), ha]; rfl)
                have mul := rmul_ok (f + 2) (by omega) h6 x y
                obtain ⟨h7, a7, M7, K7, n7⟩ := M6.lay1 (j := e) (x := .int .u8 ((a ^^^ gm x y).toNat : Nat)) hes rfl
                have e7 : ((mixL B A e).map bb).set e (.int .u8 ((a ^^^ gm x y).toNat : Nat)) = (mixL B A (e + 1)).map bb := by
                  rw [← hset, List.map_set]; rfl
                rw [e7] at M7
                rw [UInt8.toNat_xor] at a7
                have K7' : Keep h3.next nob h3 h7 := K6.trans ⟨K7.1, fun d hd _ => K7.2 d (Nat.lt_of_lt_of_le hd K6.1) fun q => by have := Fz d q; omega⟩
                have ag : Agree h6.next h6 h6 := fun _ _ => rfl
                have plt := M6.sl.blk_lt (by omega)
                have clt := Rc6.sl.blk_lt (by simp [cauM]; omega)
                have rlt := Sr.blk_lt (by simp; omega)
                have smr := Sr.same
                simp [q0, qs, q7, q8, q9, q10, q11, q12, q13, isLt (show (e : Int) < (sz : Int) by omega), sp, sz2, isLt (show (z : Int) < (s.size : Int) by omega)]
                refine W_split 21 h6.next (by rfl) (by kernel_rfl) (by rfl) ?_
                dsimp only [List.take, List.drop]
                simp [obl, mayEff, mayRead, sameAV, q0, qs, q7, q8, q9, q10, q11, q12, q13, ixp, ldp, ixc, ldc', ixe, lde, sp, sz2, hb, mul, ag, plt, clt, rlt, smr, a7, xor_u8, i64w ((e : Int) + 1) (by omega) (by omega)]
                exact ⟨sz - (e + 1), by omega, e + 1, rfl, by omega, by simp, M7, K7'⟩
              · have hbl : (bl s)[z]? = none := List.getElem?_eq_none (by rw [bl_len]; omega)
                rw [hbl, Option.getD_none, gm_zero, UInt8.xor_zero, set_self (L := mixL B A e) (x := a) (by rw [mixL_get hBl (Nat.le_refl _), ha])] at hset
                rw [hset] at M6
                simp [q0, qs, q7, q8, q9, q10, q11, q12, q13, isLt (show (e : Int) < (sz : Int) by omega), sp, sz2, isLe (show (s.size : Int) ≤ (z : Int) by omega), i64w ((e : Int) + 1) (by omega) (by omega)]
                exact ⟨sz - (e + 1), by omega, e + 1, rfl, by omega, by simp, M6, K6⟩
            · have e' : e = B.length := by omega
              rw [e', mixL_all hBl] at M6
              simp [q0, qs, q7, q8, q9, q10, q11, q12, q13, isLe (show (sz : Int) ≤ (e : Int) by omega)]
              exact ⟨M6, K6⟩
          · clear q0 qs q7 q8 q9 q10 q11 q12
            rintro ⟨t, h6⟩ ⟨q0, qs, q7, q8, q9, q10, q11, q12, M6, K6⟩
            simp only at q0 qs q7 q8 q9 q10 q11 q12 M6 K6
            simp [q0, qs, q7, q8, q9, q10, q11, q12, i64w ((j : Int) + 1) (by omega) (by omega)]
            exact ⟨k - (j + 1), by omega, j + 1, rfl, by omega, by simp, by rw [hstep, hB]; exact M6, K6⟩
        · rw [List.take_of_length_le (l := cauR k i) (by simp; omega), List.take_of_length_le (l := D) (by omega)] at M5
          simp [q0, qs, q7, q8, q9, q10, q11, q12, isLe (show (k : Int) ≤ (j : Int) by omega)]
          exact ⟨M5, K5⟩
      clear q0 qs q7 q8 q9 q10
      rintro ⟨t, h5⟩ ⟨q0, qs, q7, q8, q9, q10, q11, M5, K5⟩
      simp only at q0 qs q7 q8 q9 q10 q11 M5 K5
      have cvt : aconv Try.prog h5 47 9 pv = some (.str ⟨⟨lc sz (cauR k i) D⟩⟩, h5) := aconv_bs M5.sl Try.underlying47 Try.underlying9 Try.underlying5
      have hEi : E[i]? = some (lc sz (cauR k i) D) := by
        rw [hEe]
        unfold mtT
        rw [List.getElem?_map, cauM_get (show i < k + m by omega)]; rfl
      have M3' := M3.ext K5
      obtain ⟨ov', h6, a6, M6, F6, K6⟩ := M3'.push (P := Try.prog) el26 (a := [tx (lc sz (cauR k i) D)]) (ex := true) rfl rfl (by omega)
      have a6 : aappend Try.prog (h5.new (.cells [.str ⟨⟨lc sz (cauR k i) D⟩⟩] false)) 26 26 ov (.sl h5.next 0 1 1 1 true) = some (ov', h6) := a6
      have e6 : (E.take i).map tx ++ [tx (lc sz (cauR k i) D)] = (E.take (i + 1)).map tx := by rw [← takeP hEi, List.map_append]; rfl
      rw [e6] at M6
      have K36 : Keep h1.next nob h1 h6 := (K3.trans (K5.weak K3.1 fun _ _ q => q)).trans ⟨K6.1, fun d hd _ => K6.2 d (Nat.lt_of_lt_of_le hd (Nat.le_trans K3.1 K5.1)) fun q => by have := F3 d q; omega⟩
      simp [q0, qs, q7, q8, q9, q10, q11, cvt, aalloc, afill, a6, i64w ((i : Int) + 1) (by omega) (by omega)]
      exact ⟨n - (i + 1), by omega, i + 1, rfl, by omega, by simp, by rw [← List.map_take]; exact M6, fun d hd => by
        rcases F6 d hd with z | z
        · exact F3 d z
        · have := K3.1; have := K5.1; omega, K36⟩
    · have e : i = E.length := by omega
      rw [e, List.take_length, hEl] at M3
      simp [q0, qs, q7, q8, q9, q10, lc0, isLe (show (n : Int) ≤ (i : Int) by omega)]
      exact ⟨M3, F3, K3⟩
  · rintro ⟨t, h3⟩ ⟨ov, q9, M3, F3, K3⟩
    simp only at q9 M3 K3
    simp [q9]
    exact ⟨M3, fun d hd => Nat.le_trans K1.1 (F3 d hd), K1.trans (K3.weak K1.1 fun _ _ q => q)⟩
end Go.Proofs.Ytmmibaaidfcbhaa
/- Fragments in plain words: sums, the first k, how many differ. -/
namespace Go.Proofs.Ytmmibaaidfcbhaa
open Go Go.YtmmibaaidfcbhaaAbs
set_option linter.unusedSimpArgs false
set_option linter.unusedVariables false

theorem addL_comm (a b : Vc) : addL a b = addL b a := by
  unfold addL
  rw [List.zipWith_comm]
  congr 1
  funext x y
  exact UInt8.xor_comm y x
theorem smul_addL (c : UInt8) {a b : Vc} (h : a.length = b.length) : smul c (addL a b) = addL (smul c a) (smul c b) := by
  refine vc_ext (by rw [smul_len, addL_len h, addL_len (by rw [smul_len, smul_len, h]), smul_len]) fun j hj => ?_
  rw [smul_get, addL_get _ _ _ h, addL_get _ _ _ (by rw [smul_len, smul_len, h]), smul_get, smul_get, gm_xor]
theorem mtT_rowR {n : Nat} {A B : Mt} {i : Nat} (hi : i < A.length) : rowA (mtT n A B) i = lc n (rowA A i) B := by
  unfold mtT rowA
  rw [List.getElem?_map, (rowA_mem hi).1]; rfl
theorem lc_addM {n : Nat} : ∀ {u : Vc} {A B : Mt}, RowsN n A → RowsN n B → A.length = B.length → lc n u (List.zipWith addL A B) = addL (lc n u A) (lc n u B)
  | [], A, B, hA, hB, _ => by
    have e : ∀ M : Mt, lc n [] M = zv n := fun M => by cases M <;> rfl
    rw [e, e, e, addL_zv (by simp)]
  | x :: u, [], [], _, _, _ => by show zv n = addL (zv n) (zv n); rw [addL_zv (by simp)]
  | x :: u, a :: A, b :: B, hA, hB, hl => by
    have ih := lc_addM (u := u) hA.tl hB.tl (by simpa using hl)
    have la := hA.hd
    have lb := hB.hd
    have lA := lc_len (u := u) hA.tl
    have lB := lc_len (u := u) hB.tl
    show addL (smul x (addL a b)) (lc n u (List.zipWith addL A B)) = addL (addL (smul x a) (lc n u A)) (addL (smul x b) (lc n u B))
    rw [ih, smul_addL x (by omega), addL_assoc (by rw [smul_len, smul_len]; omega) (by rw [smul_len, addL_len (by omega)]; omega), addL_assoc (by rw [smul_len]; omega) (by rw [addL_len (by rw [smul_len]; omega), smul_len]; omega)]
    congr 1
    rw [← addL_assoc (by rw [smul_len]; omega) (by omega), addL_comm (smul x b) (lc n u A), addL_assoc (by rw [smul_len]; omega) (by rw [smul_len]; omega)]
  | x :: u, [], _ :: _, _, _, hl => by simp at hl
  | x :: u, _ :: _, [], _, _, hl => by simp at hl
theorem rep_addL (n : Nat) : addL (List.replicate n 0) (List.replicate n 0) = List.replicate n 0 := by
  have := addL_zv (v := zv n) (n := n) (by simp)
  exact this
theorem padL_addL {X Y : Vc} (h : X.length = Y.length) (n : Nat) : padL (addL X Y) n = addL (padL X n) (padL Y n) := by
  unfold padL
  rw [addL_len h, ← h]
  unfold addL
  rw [List.zipWith_append h]
  congr 1
  exact (rep_addL _).symm
theorem dataM_addL {k sz : Nat} {X Y : Vc} (h : X.length = Y.length) : dataM k sz (addL X Y) = List.zipWith addL (dataM k sz X) (dataM k sz Y) := by
  unfold dataM
  rw [List.zipWith_map, List.zipWith_self]
  refine List.map_congr_left fun i _ => ?_
  rw [padL_addL h]
  unfold addL
  rw [List.drop_zipWith, List.take_zipWith]
theorem enc_row {k m i : Nat} {L : Vc} (hi : i < k + m) : rowA (encP k m L) i = lc (szN k L.length) (cauR k i) (dataM k (szN k L.length) L) := by
  unfold encP
  rw [mtT_rowR (by simp [cauM]; omega), rowA_get (cauM_get hi)]
theorem enc_add {k m i : Nat} {X Y : Vc} (hk : 1 ≤ k) (h : X.length = Y.length) (hi : i < k + m) : rowA (encP k m (addL X Y)) i = addL (rowA (encP k m X) i) (rowA (encP k m Y) i) := by
  rw [enc_row hi, enc_row hi, enc_row hi, addL_len h, ← h, dataM_addL h]
  have f := (szN_fits (k := k) (n := X.length) hk).1
  exact lc_addM (dataM_rows f) (dataM_rows (by rw [← h]; exact f)) (by simp)
theorem enc_id {k m i : Nat} {L : Vc} (hk : 1 ≤ k) (hi : i < k) : rowA (encP k m L) i = ((padL L (k * szN k L.length)).drop (i * szN k L.length)).take (szN k L.length) := by
  rw [enc_row (by omega), cauR_id hi, lc_ev1 (dataM_rows (szN_fits hk).1) (dataM_len _ _ _) (dataM_row hi)]
/-- Pieces of one size, one behind the other. -/
theorem pieces {α : Type} (P : List α) (sz : Nat) : ∀ i : Nat, ((List.range i).map fun j => (P.drop (j * sz)).take sz).flatten = P.take (i * sz)
  | 0 => by simp
  | i + 1 => by
    rw [List.range_succ, List.map_append, List.flatten_append, pieces P sz i, Nat.succ_mul, List.take_add]
    simp
/-! Texts of bytes. -/
theorem ba_cat (L L' : Vc) : (⟨⟨L⟩⟩ : ByteArray) ++ ⟨⟨L'⟩⟩ = ⟨⟨L ++ L'⟩⟩ := by
  apply ByteArray.ext
  simp
theorem ba_take (s : ByteArray) (n : Nat) : s.extract 0 n = ⟨⟨(bl s).take n⟩⟩ := by
  apply ByteArray.ext
  apply Array.ext'
  simp [bl]
theorem ba_eta (s : ByteArray) : (⟨⟨bl s⟩⟩ : ByteArray) = s := rfl
theorem ba_size (L : Vc) : (⟨⟨L⟩⟩ : ByteArray).size = L.length := rfl
theorem bl_mk (L : Vc) : bl ⟨⟨L⟩⟩ = L := rfl
theorem min3c {call : CallO} {t : Tr AV} {h : Heap} {d : Option Tmp} {ty t1 t2 t3 : TypeId} {pos : String} {af : Array Edge} {g : Option (Nat × Bool)} {x y : Operand} {m n : Nat} (hx : ev t x = .int .i64 (m : Nat)) (hy : ev t y = .int .i64 (n : Nat)) :
    aop Try.prog call t h ⟨d, .call ⟨.builtin .min, List.toArray [x, y, .const (.int .i64 100)], List.toArray [t1, t2, t3]⟩, ty, pos, af, g⟩ = some (.int .i64 ((min (min m n) 100 : Nat) : Int), h) := aop_min3 (l := 100) hx hy rfl
theorem sl_old {sz n : Nat} {h : Heap} {v : AV} {l : List AV} (S : Sl sz n h v l) : oldSl h.next v := by
  rcases S with ⟨rfl, _⟩ | ⟨rfl, _⟩ | ⟨b, i, cap, ex, c, ro, rfl, hb, _⟩
  · trivial
  · trivial
  · exact hb
theorem agree_keep {h1 h2 : Heap} {N : Nat} (hN : N ≤ h1.next) (K : Keep h1.next nob h1 h2) : Agree N h1 h2 := fun c hc => K.2 c (Nat.lt_of_lt_of_le hc hN) id
end Go.Proofs.Ytmmibaaidfcbhaa
/- Any k of the fragments tell the value; two values differ in more than m fragments. -/
namespace Go.Proofs.Ytmmibaaidfcbhaa
open Go Go.YtmmibaaidfcbhaaAbs
set_option linter.unusedSimpArgs false
set_option linter.unusedVariables false

theorem selA_rows {k : Nat} (sel : List Nat) : RowsN k (sel.map (cauR k)) := fun r hr => by
  obtain ⟨s, _, rfl⟩ := List.mem_map.1 hr
  simp
/-- Whichever k rows are taken, they can be turned back. -/
theorem dec_back {k sz : Nat} (hk : k ≤ 200) {sel : List Nat} (hl : sel.length = k) (hn : sel.Nodup) (hs : ∀ s, s ∈ sel → s < 256) : ∃ B, invA (sel.map (cauR k)) = (B, true) ∧ RowsN k B ∧ B.length = k ∧ ∀ D : Mt, RowsN sz D → D.length = k → mtT sz B (mtT sz (sel.map (cauR k)) D) = D := by
  obtain ⟨B, e, rB, lB, t1, t2⟩ := invA_ok (selA_rows (k := k) sel) (by simp [hl]) (cau_apart hk hl hn hs)
  exact ⟨B, e, rB, lB, fun D hD lD => by rw [← mtT_assoc hD (selA_rows sel), t1, id_mtT hD lD]⟩
theorem data_pad {k sz : Nat} {L : Vc} (h : L.length ≤ k * sz) : (dataM k sz L).flatten = padL L (k * sz) := by
  unfold dataM
  rw [pieces, List.take_of_length_le (by rw [padL_len h]; exact Nat.le_refl _)]
theorem pad_take {L : Vc} {n : Nat} : (padL L n).take L.length = L := by
  unfold padL
  rw [List.take_append_of_le_length (Nat.le_refl _), List.take_length]
theorem data_inj {k sz : Nat} {X Y : Vc} (h : X.length = Y.length) (hX : X.length ≤ k * sz) (e : dataM k sz X = dataM k sz Y) : X = Y := by
  have e1 := data_pad hX
  have e2 := data_pad (k := k) (sz := sz) (L := Y) (by omega)
  rw [e, e2] at e1
  rw [← pad_take (L := X) (n := k * sz), ← e1, h, pad_take]
/-- In how many of the first i do they differ? -/
def diffs (P Q : Mt) (i : Nat) : Nat := ((List.range i).filter fun j => decide (rowA P j ≠ rowA Q j)).length
theorem diffs_succ (P Q : Mt) (i : Nat) : diffs P Q (i + 1) = diffs P Q i + (if rowA P i = rowA Q i then 0 else 1) := by
  unfold diffs
  rw [List.range_succ, List.filter_append, List.length_append]
  congr 1
  by_cases h : rowA P i = rowA Q i
  · simp [h]
  · simp [h]
theorem diffs_le (P Q : Mt) (i : Nat) : diffs P Q i ≤ i := by
  unfold diffs
  have := List.length_filter_le (fun j => decide (rowA P j ≠ rowA Q j)) (List.range i)
  rwa [List.length_range] at this
theorem dist_ok {k m : Nat} (hk : 1 ≤ k) (hk8 : k ≤ 8) (hm : m + k ≤ 12) {X Y : Vc} (h : X.length = Y.length) (hne : X ≠ Y) : m + 1 ≤ diffs (encP k m X) (encP k m Y) (k + m) := by
  obtain ⟨sz, hsz⟩ : ∃ sz, szN k X.length = sz := ⟨_, rfl⟩
  have hsy : szN k Y.length = sz := by rw [← h, hsz]
  have fX : X.length ≤ k * sz := by rw [← hsz]; exact (szN_fits hk).1
  have fY : Y.length ≤ k * sz := by omega
  have sp := filter_split (fun j => decide (rowA (encP k m X) j ≠ rowA (encP k m Y) j)) (List.range (k + m))
  rw [List.length_range] at sp
  have key : ((List.range (k + m)).filter fun a => !decide (rowA (encP k m X) a ≠ rowA (encP k m Y) a)).length < k := by
    refine Nat.lt_of_not_le fun hge => hne ?_
    obtain ⟨sel, hsel⟩ : ∃ sel, ((List.range (k + m)).filter fun a => !decide (rowA (encP k m X) a ≠ rowA (encP k m Y) a)).take k = sel := ⟨_, rfl⟩
    have hl : sel.length = k := by rw [← hsel, List.length_take]; omega
    have hn : sel.Nodup := by rw [← hsel]; exact (List.nodup_range.filter _).sublist (List.take_sublist _ _)
    have hs : ∀ s, s ∈ sel → s < k + m ∧ rowA (encP k m X) s = rowA (encP k m Y) s := fun s hs => by
      rw [← hsel] at hs
      have := List.mem_filter.1 (List.mem_of_mem_take hs)
      exact ⟨List.mem_range.1 this.1, by simpa using this.2⟩
    obtain ⟨B, _, rB, lB, back⟩ := dec_back (sz := sz) (show k ≤ 200 by omega) hl hn fun s h => by have := (hs s h).1; omega
    have e1 := back (dataM k sz X) (dataM_rows fX) (by simp)
    have e2 := back (dataM k sz Y) (dataM_rows fY) (by simp)
    have e3 : mtT sz (sel.map (cauR k)) (dataM k sz X) = mtT sz (sel.map (cauR k)) (dataM k sz Y) := by
      unfold mtT
      rw [List.map_map, List.map_map]
      refine List.map_congr_left fun s h => ?_
      obtain ⟨a, b⟩ := hs s h
      rw [enc_row a, enc_row a, hsz, hsy] at b
      exact b
    rw [e3] at e1
    exact data_inj h fX (e1.symm.trans e2)
  unfold diffs
  omega
end Go.Proofs.Ytmmibaaidfcbhaa
/- rs: the first k of other places. -/
namespace Go.Proofs.Ytmmibaaidfcbhaa
open Go Go.YtmmibaaidfcbhaaAbs
set_option linter.unusedSimpArgs false
set_option linter.unusedVariables false
set_option maxRecDepth 4000

/-- A fragment: its place, its bytes. -/
abbrev Pt := Int × ByteArray
def ptC (p : Pt) : List AV := [.int .i64 p.1, .str p.2]
theorem ptC_len (p : Pt) : (ptC p).length = 2 := rfl
theorem ptC_one (p : Pt) : (ptC p).all AV.one = true := rfl
def seenP (acc : List Pt) (a : Int) : Bool := acc.any fun q => decide (q.1 = a)
def stepP (k : Nat) (acc : List Pt) (p : Pt) : List Pt := if seenP acc p.1 = true ∨ k ≤ acc.length then acc else acc ++ [p]
/-- The first k of other places. -/
def pickP (k : Nat) (l : List Pt) : List Pt := l.foldl (stepP k) []
theorem fold_full {k : Nat} : ∀ {l acc : List Pt}, k ≤ acc.length → l.foldl (stepP k) acc = acc
  | [], _, _ => rfl
  | p :: l, acc, h => by
    rw [List.foldl_cons, show stepP k acc p = acc by unfold stepP; rw [if_pos (.inr h)]]
    exact fold_full h
theorem fold_take {k : Nat} {l : List Pt} {i : Nat} {p : Pt} (h : l[i]? = some p) : (l.take (i + 1)).foldl (stepP k) [] = stepP k ((l.take i).foldl (stepP k) []) p := by
  rw [← takeP h, List.foldl_append]; rfl
theorem fold_done {k : Nat} {l : List Pt} {i : Nat} (h : k ≤ ((l.take i).foldl (stepP k) []).length) : pickP k l = (l.take i).foldl (stepP k) [] := by
  unfold pickP
  conv => lhs; rw [← List.take_append_drop i l, List.foldl_append]
  exact fold_full h
theorem fold_sub {k : Nat} : ∀ {l acc : List Pt} {p : Pt}, p ∈ l.foldl (stepP k) acc → p ∈ acc ∨ p ∈ l
  | [], _, _, h => .inl h
  | q :: l, acc, p, h => by
    rw [List.foldl_cons] at h
    rcases fold_sub h with z | z
    · unfold stepP at z
      split at z
      · exact .inl z
      · rcases List.mem_append.1 z with y | y
        · exact .inl y
        · rw [List.mem_singleton] at y; exact .inr (by rw [y]; exact List.mem_cons_self ..)
    · exact .inr (List.mem_cons_of_mem _ z)
theorem fold_nodup {k : Nat} : ∀ {l acc : List Pt}, (acc.map (·.1)).Nodup → ((l.foldl (stepP k) acc).map (·.1)).Nodup
  | [], _, h => h
  | q :: l, acc, h => by
    rw [List.foldl_cons]
    refine fold_nodup ?_
    unfold stepP
    split
    · exact h
    · rename_i hn
      rw [List.map_append, List.nodup_append]
      refine ⟨h, by simp, fun a ha b hb e => ?_⟩
      simp at hb
      subst hb
      obtain ⟨x, hx, hxa⟩ := List.mem_map.1 ha
      refine hn (.inl ?_)
      unfold seenP
      rw [List.any_eq_true]
      exact ⟨x, hx, by simp [hxa, e]⟩
theorem fold_le {k : Nat} : ∀ {l acc : List Pt}, acc.length ≤ k → (l.foldl (stepP k) acc).length ≤ k
  | [], _, h => h
  | q :: l, acc, h => by
    rw [List.foldl_cons]
    refine fold_le ?_
    unfold stepP
    split
    · exact h
    · rename_i hn
      rw [List.length_append]
      simp
      omega
/-- Which places were seen. -/
def seenC (acc : List Pt) : List AV := (List.range 12).map fun (i : Nat) => if seenP acc (i : Int) = true then .int .i64 1 else .int .i64 0
theorem seenC_at {acc : List Pt} {a : Nat} (h : a < 12) : (seenC acc)[a]? = some (if seenP acc (a : Int) = true then .int .i64 1 else .int .i64 0) := by simp [seenC, h]
theorem seenC_set {acc : List Pt} {p : Pt} {a : Nat} (h : a < 12) (e : p.1 = (a : Int)) : (seenC acc).set a (.int .i64 1) = seenC (acc ++ [p]) := by
  refine List.ext_getElem? fun i => ?_
  by_cases hi : i < 12
  · rw [seenC_at hi]
    by_cases q : a = i
    · subst q
      rw [List.getElem?_set_self (by simp [seenC, h]), if_pos]
      unfold seenP
      rw [List.any_append]
      simp [e]
    · rw [List.getElem?_set_ne q, seenC_at hi]
      have : seenP (acc ++ [p]) (i : Int) = seenP acc (i : Int) := by
        unfold seenP
        rw [List.any_append]
        have : ¬ p.1 = (i : Int) := by omega
        simp [this]
      rw [this]
  · rw [List.getElem?_eq_none (by simp [seenC]; omega), List.getElem?_eq_none (by simp [seenC]; omega)]
theorem seenC_nil : seenC [] = List.replicate 12 (.int .i64 0) := by rfl
/-- Rows and bytes so far. -/
structure Cho (h0 h : Heap) (sb : Nat) (vr vd : AV) (rs ds : List AV) (k : Nat) (acc : List Pt) : Prop where
  r : Mine 1 acc.length h vr rs
  d : Mine 1 acc.length h vd ds
  ap : ∀ b, Has vr b → ¬ Has vd b
  nr : ∀ b, Has vr b → h0.next ≤ b
  nd : ∀ b, Has vd b → h0.next ≤ b
  row : ∀ (i : Nat) (r : AV) (p : Pt), rs[i]? = some r → acc[i]? = some p → Sl 1 k h0 r ((cauR k p.1.toNat).map bb)
  dat : ∀ (i : Nat) (r : AV) (p : Pt), ds[i]? = some r → acc[i]? = some p → ∃ b, r = .sl b 0 p.2.size p.2.size 1 false ∧ h.get b = some (.cells ((bl p.2).map bb) false) ∧ b < h.next ∧ h0.next ≤ b ∧ b ≠ sb ∧ ¬ Has vr b ∧ ¬ Has vd b
  seen : h.get sb = some (.cells (seenC acc) false) ∧ sb < h.next ∧ h0.next ≤ sb ∧ ¬ Has vr sb ∧ ¬ Has vd sb
  kb : Keep h0.next nob h0 h
section
variable {h0 h h1 : Heap} {sb : Nat} {vr vd : AV} {rs ds : List AV} {k : Nat} {acc : List Pt}
theorem Cho.ext (C : Cho h0 h sb vr vd rs ds k acc) (K : Keep h.next nob h h1) : Cho h0 h1 sb vr vd rs ds k acc := by
  refine ⟨C.r.ext K, C.d.ext K, C.ap, C.nr, C.nd, C.row, fun i r p hr hp => ?_, ?_, C.kb.trans (K.weak C.kb.1 fun _ _ q => q)⟩
  · obtain ⟨b, b1, b2, b3, b4⟩ := C.dat i r p hr hp
    exact ⟨b, b1, by rw [K.2 b b3 id]; exact b2, Nat.lt_of_lt_of_le b3 K.1, b4⟩
  · obtain ⟨s1, s2, s3⟩ := C.seen
    exact ⟨by rw [K.2 sb s2 id]; exact s1, Nat.lt_of_lt_of_le s2 K.1, s3⟩
theorem Cho.rows (C : Cho h0 h sb vr vd rs ds k acc) : Rd h vr rs (acc.map fun p => cauR k p.1.toNat) := by
  refine ⟨by rw [List.length_map]; exact C.r.sl, fun i r L hr hL => ?_⟩
  rw [List.getElem?_map] at hL
  cases hp : acc[i]? with
  | none => rw [hp] at hL; cases hL
  | some p =>
    rw [hp] at hL
    cases hL
    rw [cauR_len]
    exact (C.row i r p hr hp).ext C.kb
theorem Cho.data (C : Cho h0 h sb vr vd rs ds k acc) : Rd h vd ds (acc.map fun p => bl p.2) := by
  refine ⟨by rw [List.length_map]; exact C.d.sl, fun i r L hr hL => ?_⟩
  rw [List.getElem?_map] at hL
  cases hp : acc[i]? with
  | none => rw [hp] at hL; cases hL
  | some p =>
    rw [hp] at hL
    cases hL
    obtain ⟨b, b1, b2, b3, _⟩ := C.dat i r p hr hp
    rw [b1]
    exact .inr (.inr ⟨b, 0, _, _, _, _, rfl, b3, b2, by simp [bl_len], by simp [bl_len], by rw [List.drop_zero, List.take_of_length_le (by simp [bl_len])], by simp [bl_len]⟩)
/-- One more. -/
theorem Cho.push (C : Cho h0 h sb vr vd rs ds k acc) {p : Pt} {row : AV} (Sr : Sl 1 k h0 row ((cauR k p.1.toNat).map bb)) (hi : acc.length < 1000) {h2 : Heap} (K2 : Keep h.next (fun c => c = sb) h h2) (g2 : h2.get sb = some (.cells (seenC (acc ++ [p])) false)) :
    ∃ vr' h4 vd' h6, aappend Try.prog ((h2.bump 19).at_ (h2.next + 9) (.cells [row] false)) 53 53 vr (.sl (h2.next + 9) 0 1 1 1 true) = some (vr', h4) ∧ nextOk h2.next 19 h4 = true ∧
      (∀ G : Nat → Prop, (∀ c, G c → c < h2.next ∧ ¬ Has vr c) → AgreeG G ((h2.bump 19).at_ (h2.next + 9) (.cells [row] false)) h4) ∧ Keep h2.next (Has vr) h2 h4 ∧
      aappend Try.prog ((h4.at_ (h2.next + 14) (.cells ((bl p.2).map bb) false)).at_ (h2.next + 15) (.cells [.sl (h2.next + 14) 0 p.2.size p.2.size 1 false] false)) 53 53 vd (.sl (h2.next + 15) 0 1 1 1 true) = some (vd', h6) ∧ nextOk h2.next 19 h6 = true ∧
      Cho h0 h6 sb vr' vd' (rs ++ [row]) (ds ++ [.sl (h2.next + 14) 0 p.2.size p.2.size 1 false]) k (acc ++ [p]) := by
  obtain ⟨sn1, sn2, sn3, sn4, sn5⟩ := C.seen
  have hk := C.kb.1
  have hK2 := K2.1
  have V1 : Mine 1 acc.length h2 vr rs := C.r.keep K2 fun d hd q => by subst q; exact sn4 hd
  have V2 : Mine 1 acc.length h2 vd ds := C.d.keep K2 fun d hd q => by subst q; exact sn5 hd
  have kA : Keep h2.next nob h2 ((h2.bump 19).at_ (h2.next + 9) (.cells [row] false)) := ⟨Nat.le_add_right _ _, fun c hc _ => by rw [get_at_lt hc]; rfl⟩
  have nA : ((h2.bump 19).at_ (h2.next + 9) (.cells [row] false)).next = h2.next + 19 := rfl
  have gA : ((h2.bump 19).at_ (h2.next + 9) (.cells [row] false)).get (h2.next + 9) = some (.cells [row] false) := by rw [Heap.get_at, if_pos rfl]
  generalize (h2.bump 19).at_ (h2.next + 9) (.cells [row] false) = hA at *
  obtain ⟨vr', h4, e1, m1, fr1, k1⟩ := (V1.ext kA).pushB (P := Try.prog) el53 gA (by simp [Sr.oneV]) rfl (by omega) (ex := true) (k := 1)
  have n4 := k1.1
  have K4 : Keep h2.next (Has vr) h2 h4 := ⟨by omega, fun d hd hn => by rw [k1.2 d (by omega) hn, kA.2 d hd id]⟩
  obtain ⟨hB, eB⟩ : ∃ hB, (h4.at_ (h2.next + 14) (.cells ((bl p.2).map bb) false)).at_ (h2.next + 15) (.cells [.sl (h2.next + 14) 0 p.2.size p.2.size 1 false] false) = hB := ⟨_, rfl⟩
  have nB : hB.next = h4.next := by rw [← eB]; rfl
  have gB : hB.get (h2.next + 15) = some (.cells [.sl (h2.next + 14) 0 p.2.size p.2.size 1 false] false) := by rw [← eB, Heap.get_at, if_pos rfl]
  have gC : hB.get (h2.next + 14) = some (.cells ((bl p.2).map bb) false) := by rw [← eB, Heap.get_at, if_neg (by omega), Heap.get_at, if_pos rfl]
  have oB : ∀ c, c ≠ h2.next + 14 → c ≠ h2.next + 15 → hB.get c = h4.get c := fun c hc hc' => by rw [← eB, Heap.get_at, if_neg (fun z => hc' z.symm), Heap.get_at, if_neg (fun z => hc z.symm)]
  have V2B : Mine 1 acc.length hB vd ds := (V2.keep K4 fun d hd z => C.ap d z hd).keep (F := fun c => c = h2.next + 14 ∨ c = h2.next + 15) ⟨by omega, fun c hc hn => oB c (fun z => hn (.inl z)) (fun z => hn (.inr z))⟩ fun d hd z => by
    have := V2.lt hd
    rcases z with z | z <;> omega
  obtain ⟨vd', h6, e2, m2, fr2, k2⟩ := V2B.pushB (P := Try.prog) el53 gB (by simp) rfl (by omega) (ex := true) (k := 1)
  have n6 := k2.1
  have lr := C.r.length
  have ld := C.d.length
  have hvr : ∀ c, Has vr' c → Has vr c ∨ (h2.next + 19 ≤ c ∧ c < h4.next) := fun c hc => by
    rcases fr1 c hc with w | w
    · exact .inl w
    · exact .inr ⟨by omega, m1.lt hc⟩
  have hvd : ∀ c, Has vd' c → Has vd c ∨ h4.next ≤ c := fun c hc => by
    rcases fr2 c hc with w | w
    · exact .inl w
    · exact .inr (by omega)
  have ltr : ∀ c, Has vr c → c < h.next := fun c hc => C.r.lt hc
  have ltd : ∀ c, Has vd c → c < h.next := fun c hc => C.d.lt hc
  have m1B : Mine 1 (acc.length + 1) hB vr' (rs ++ [row]) := m1.keep (F := fun c => c = h2.next + 14 ∨ c = h2.next + 15) ⟨by omega, fun c hc hn => oB c (fun z => hn (.inl z)) (fun z => hn (.inr z))⟩ fun d hd z => by
    rcases hvr d hd with w | w
    · have := ltr d w; rcases z with z | z <;> omega
    · rcases z with z | z <;> omega
  have m16 : Mine 1 (acc.length + 1) h6 vr' (rs ++ [row]) := m1B.keep k2 fun d hd z => by
    have := ltd d z
    rcases hvr d hd with w | w
    · exact C.ap d w z
    · omega
  -- what stays where it was
  have stay : ∀ c, c < h.next → c ≠ sb → ¬ Has vr c → ¬ Has vd c → h6.get c = h.get c := fun c hc h1 h2' h3 => by
    rw [k2.2 c (by omega) h3, oB c (by omega) (by omega), K4.2 c (by omega) h2', K2.2 c hc h1]
  have off : ∀ c, c < h.next → ¬ Has vr c → ¬ Has vd c → ¬ Has vr' c ∧ ¬ Has vd' c := fun c hc h1 h2' => ⟨fun z => by
    rcases hvr c z with w | w
    · exact h1 w
    · omega, fun z => by
    rcases hvd c z with w | w
    · exact h2' w
    · omega⟩
  refine ⟨vr', h4, vd', h6, e1, ?_, fun G hG c hc => ?_, K4, by rw [← eB] at e2; exact e2, ?_, ⟨by rw [List.length_append]; exact m16, by rw [List.length_append]; exact m2, fun b hb hb' => ?_, fun b hb => ?_, fun b hb => ?_, fun i r q hr hq => ?_, fun i r q hr hq => ?_, ?_, ?_⟩⟩
  · unfold nextOk
    split
    · rfl
    · exact Nat.ble_eq_true_of_le (by omega)
  · obtain ⟨c1, c2⟩ := hG c hc
    exact k1.2 c (by omega) c2
  · unfold nextOk
    split
    · rfl
    · exact Nat.ble_eq_true_of_le (by omega)
  · rcases hvr b hb with w | w <;> rcases hvd b hb' with y | y
    · exact C.ap b w y
    · have := ltr b w; omega
    · have := ltd b y; omega
    · omega
  · rcases hvr b hb with w | w
    · exact C.nr b w
    · omega
  · rcases hvd b hb with w | w
    · exact C.nd b w
    · omega
  · by_cases hj : i < acc.length
    · rw [List.getElem?_append_left (by omega)] at hr
      rw [List.getElem?_append_left hj] at hq
      exact C.row i r q hr hq
    · have e : i = acc.length := by
        have := (List.getElem?_eq_some_iff.1 hq).1
        rw [List.length_append] at this
        simp at this
        omega
      rw [e, List.getElem?_append_right (by omega), show acc.length - rs.length = 0 by omega] at hr
      rw [e, List.getElem?_append_right (by omega), Nat.sub_self] at hq
      cases hr
      cases hq
      exact Sr
  · by_cases hj : i < acc.length
    · rw [List.getElem?_append_left (by omega)] at hr
      rw [List.getElem?_append_left hj] at hq
      obtain ⟨b, b1, b2, b3, b4, b5, b6, b7⟩ := C.dat i r q hr hq
      obtain ⟨o1, o2⟩ := off b b3 b6 b7
      exact ⟨b, b1, by rw [stay b b3 b5 b6 b7]; exact b2, by omega, b4, b5, o1, o2⟩
    · have e : i = acc.length := by
        have := (List.getElem?_eq_some_iff.1 hq).1
        rw [List.length_append] at this
        simp at this
        omega
      rw [e, List.getElem?_append_right (by omega), show acc.length - ds.length = 0 by omega] at hr
      rw [e, List.getElem?_append_right (by omega), Nat.sub_self] at hq
      cases hr
      cases hq
      refine ⟨h2.next + 14, rfl, ?_, by omega, by omega, by omega, fun z => ?_, fun z => ?_⟩
      · rw [k2.2 _ (by omega) (fun z => by have := ltd _ z; omega), gC]
      · rcases hvr _ z with w | w
        · have := ltr _ w; omega
        · omega
      · rcases hvd _ z with w | w
        · have := ltd _ w; omega
        · omega
  · obtain ⟨o1, o2⟩ := off sb sn2 sn4 sn5
    refine ⟨?_, by omega, sn3, o1, o2⟩
    rw [k2.2 sb (by omega) sn5, oB sb (by omega) (by omega), K4.2 sb (by omega) sn4, g2]
  · refine C.kb.trans ⟨by omega, fun d hd _ => ?_⟩
    have hd1 : d < h.next := Nat.lt_of_lt_of_le hd hk
    exact stay d hd1 (by omega) (fun z => by have := C.nr d z; omega) (fun z => by have := C.nd d z; omega)
end
end Go.Proofs.Ytmmibaaidfcbhaa
/- rs: chosen. -/
namespace Go.Proofs.Ytmmibaaidfcbhaa
open Go Go.YtmmibaaidfcbhaaAbs
set_option linter.unusedSimpArgs false
set_option linter.unusedVariables false
set_option maxRecDepth 4000

/-- A fragment in a row of them. -/
theorem pt_at {h : Heap} {lv : AV} {l : List Pt} (S : Sl 2 l.length h lv (cat ptC l)) {i : Nat} {p : Pt} (hp : l[i]? = some p) : aindex Try.prog 34 lv (.int .i64 (i : Nat)) = some (.ptr lv.blk (lv.off + i * 2)) ∧ aload Try.prog h 31 lv.blk (lv.off + i * 2) = some (.agg (ptC p)) ∧
    aload Try.prog h 3 lv.blk (lv.off + i * 2) = some (.int .i64 p.1) ∧ aload Try.prog h 9 lv.blk (lv.off + i * 2 + 1) = some (.str p.2) ∧ lv.blk < h.next := by
  have hi := (List.getElem?_eq_some_iff.1 hp).1
  have hl := cat_len ptC_len l
  refine ⟨S.idx (P := Try.prog) Try.underlying34 ts31 hi .i64, ?_, ?_, ?_, S.blk_lt (by omega)⟩
  · have := S.lds (P := Try.prog) (e := 31) (m := 2) ta31 ts31 (j := i * 2) (by omega) (by omega)
    rw [cat_at ptC_len hp] at this
    exact this
  · have := S.ld (P := Try.prog) (e := 3) ta3 (j := i * 2) (x := .int .i64 p.1) (by have := cat_get ptC_len hp (o := 0) (by omega); simpa [ptC] using this)
    exact this
  · have := S.ld (P := Try.prog) (e := 9) ta9 (j := i * 2 + 1) (x := .str p.2) (by have := cat_get ptC_len hp (o := 1) (by omega); simpa [ptC] using this)
    rw [← Nat.add_assoc] at this
    exact this
/-- Are they of this code? -/
def allIn (k m each : Nat) (l : List Pt) : Prop := ∀ p, p ∈ l → 0 ≤ p.1 ∧ p.1 < ((k + m : Nat) : Int) ∧ p.2.size = each
set_option maxHeartbeats 8000000 in
theorem chosen_ok (f : Nat) (h : Heap) (b k m each : Nat) (rv : AV) (C : Cd h (.ptr b 0) b k m rv) (lv : AV) (l : List Pt) (S : Sl 2 l.length h lv (cat ptC l)) (hv : allIn k m each l) (hl : l.length + 10 < f) (hm : l.length < 1000000) :
    ∃ v' h', acall Try.prog (f + 1) 31 [.ptr b 0, lv] h = some (v', h') ∧ ∃ vr vd, v' = .tup [vr, vd] ∧ (∃ rs, Rd h' vr rs ((pickP k l).map fun p => cauR k p.1.toNat)) ∧ (∃ ds, Rd h' vd ds ((pickP k l).map fun p => bl p.2)) ∧ Keep h.next nob h h' := by
  rw [acall_text [7] Try.func31 (by kernel_rfl)]
  refine afuncT_ex rfl (by simp [Try.f31]) ?_
  have ll := S.len'
  have k1 := C.k1
  have k8 := C.k8
  have km := C.km
  have K1 : Keep h.next nob h (h.new (.cells (seenC []) false)) := Keep.new (Nat.le_refl _) _
  have C0 : Cho h (h.new (.cells (seenC []) false)) h.next .nils .nils [] [] k [] := ⟨Mine.nil 1 _, Mine.nil 1 _, (fun d hd => by cases hd), (fun d hd => by cases hd), (fun d hd => by cases hd), (fun i r p hr => by simp at hr), (fun i r p hr => by simp at hr), ⟨get_new_self _ _, Nat.lt_succ_self _, Nat.le_refl _, (fun q => by cases q), (fun q => by cases q)⟩, K1⟩
  have ez : List.replicate 12 (AV.int .i64 0) = seenC [] := seenC_nil.symm
  obtain ⟨sb, hsb⟩ : ∃ sb, h.next = sb := ⟨_, rfl⟩
  simp [Try.f31, ll, aalloc]
  have eh : h.new (.cells [AV.int .i64 0, AV.int .i64 0, AV.int .i64 0, AV.int .i64 0, AV.int .i64 0, AV.int .i64 0, AV.int .i64 0, AV.int .i64 0, AV.int .i64 0, AV.int .i64 0, AV.int .i64 0, AV.int .i64 0] false) = h.new (.cells (seenC []) false) := rfl
  rw [eh, hsb]
  rw [hsb] at C0
  obtain ⟨rsc, Rc⟩ := C.rows
  refine W_cutLoop 0 (fun st => ∃ vr vd rs ds, st.t.get 4 = some vr ∧ st.t.get 5 = some vd ∧ Cho h st.h sb vr vd rs ds k (pickP k l)) ?_ ?_
  · refine W_loop (fun mm st => ∃ (i : Nat) (vr vd : AV) (rs ds : List AV), mm = l.length - i ∧ i ≤ l.length ∧ st.t.get 0 = some (.ptr b 0) ∧ st.t.get 4 = some vr ∧ st.t.get 5 = some vd ∧ st.t.get 6 = some (.ptr sb 0) ∧ st.t.get 9 = some lv ∧ st.t.get 10 = some (.int .i64 (l.length : Nat)) ∧ st.t.get 11 = some (.int .i64 (i : Nat)) ∧
        Cho h st.h sb vr vd rs ds k ((l.take i).foldl (stepP k) []) ∧ ((l.take i).foldl (stepP k) []).length < k) l.length (by omega)
      ⟨0, .nils, .nils, [], [], by omega, by omega, by simp, by simp, by simp, by simp [hsb], by simp, by simp, by simp, C0, k1⟩ ?_
    rintro mm ⟨t, h3⟩ ⟨i, vr, vd, rs, ds, rfl, hi, q0, q4, q5, q6, q9, q10, q11, Ch, hlk⟩
    simp only at q0 q4 q5 q6 q9 q10 q11 Ch
    by_cases hlt : i < l.length
    · obtain ⟨p, hp⟩ : ∃ p, l[i]? = some p := ⟨l[i], by simp⟩
      obtain ⟨ix, ldp, _, _, _⟩ := pt_at (S.ext Ch.kb) hp
      obtain ⟨v0, v1, v2⟩ := hv p (List.mem_of_getElem? hp)
      obtain ⟨a, ha⟩ : ∃ a : Nat, p.1 = (a : Int) := ⟨p.1.toNat, by omega⟩
      have hak : a < k + m := by omega
      have ha12 : a < 12 := by omega
      have hstep := fold_take (k := k) hp
      obtain ⟨acc, hacc⟩ : ∃ acc, (l.take i).foldl (stepP k) [] = acc := ⟨_, rfl⟩
      rw [hacc] at Ch hlk hstep
      have rowp : (AV.agg (ptC p)).row1 = some (ptC p) := row1_agg (ptC_one p)
      have lay4 : alay (h3.new (.cells [.int .i64 0, .str .empty] false)) h3.next 0 (ptC p) = some (h3.new (.cells (ptC p) false)) := alay_new rfl
      have g8 : (h3.new (.cells (ptC p) false)).get h3.next = some (.cells (ptC p) false) := get_new_self _ _
      have K4 : Keep h3.next nob h3 (h3.new (.cells (ptC p) false)) := Keep.new (Nat.le_refl _) _
      have l8 : h3.next < (h3.new (.cells (ptC p) false)).next := Nat.lt_succ_self _
      obtain ⟨b8, hb8⟩ : ∃ b8, h3.next = b8 := ⟨_, rfl⟩
      obtain ⟨h4, e4⟩ : ∃ h4, h3.new (.cells (ptC p) false) = h4 := ⟨_, rfl⟩
      rw [e4] at lay4 g8 K4 l8
      rw [hb8] at lay4 g8 l8
      have Ch4 := Ch.ext K4
      obtain ⟨s1, s2, s3, s4, s5⟩ := Ch4.seen
      have at4 : aload Try.prog h4 3 b8 0 = some (.int .i64 (a : Nat)) := by rw [← ha]; exact ldc g8 ta3 rfl
      have ixs : aindex Try.prog 81 (.ptr sb 0) (.int .i64 (a : Nat)) = some (.ptr sb a) := by
        simp [aindex, Try.underlying81]
        omega
      have lds : aload Try.prog h4 3 sb a = some (if seenP acc (a : Int) = true then .int .i64 1 else .int .i64 0) := ldc s1 ta3 (seenC_at ha12)
      cases hs : seenP acc (a : Int) with
      | true =>
        have est : stepP k acc p = acc := by unfold stepP; rw [ha, hs, if_pos (.inl rfl)]
        rw [est] at hstep
        simp [hs] at lds
        simp [q0, q4, q5, q6, q9, q10, q11, isLt (show (i : Int) < (l.length : Int) by omega), ix, ldp, aalloc, rowp, ptC_len, hb8, lay4, at4, ixs, lds, i64w ((i : Int) + 1) (by omega) (by omega)]
        exact ⟨l.length - (i + 1), by omega, i + 1, rfl, by omega, by simp, ⟨rs, ds, by rw [hstep]; exact Ch4⟩, by rw [hstep]; exact hlk⟩
      | false =>
        have est : stepP k acc p = acc ++ [p] := by unfold stepP; rw [ha, hs, if_neg (by rintro (q | q); cases q; omega)]
        rw [est] at hstep
        simp [hs] at lds
        have lay5 : alay h4 sb a [.int .i64 1] = some (h4.set sb (.cells (seenC (acc ++ [p])) false)) := by
          unfold alay
          rw [s1]
          simp only
          rw [layAt_set (by simp [seenC, ha12]), seenC_set ha12 ha]
        have K5 : Keep h4.next (fun c => c = sb) h4 (h4.set sb (.cells (seenC (acc ++ [p])) false)) := Keep.set (F := fun c => c = sb) (.inl rfl) _
        have g5 : (h4.set sb (.cells (seenC (acc ++ [p])) false)).get sb = some (.cells (seenC (acc ++ [p])) false) := get_set_self _ _ _
        have g85 : (h4.set sb (.cells (seenC (acc ++ [p])) false)).get b8 = some (.cells (ptC p) false) := by rw [get_set_ne (by have := Ch.seen.2.1; omega)]; exact g8
        have n5 : (h4.set sb (.cells (seenC (acc ++ [p])) false)).next = h4.next := rfl
        obtain ⟨h5, e5⟩ : ∃ h5, h4.set sb (.cells (seenC (acc ++ [p])) false) = h5 := ⟨_, rfl⟩
        rw [e5] at lay5 K5 g5 g85 n5
        have K05 : Keep h.next nob h h5 := Ch4.kb.trans ⟨K5.1, fun d hd _ => K5.2 d (Nat.lt_of_lt_of_le hd Ch4.kb.1) fun q => by omega⟩
        have C5 := C.ext K05
        have ldr := C5.ldr
        have R5 := Rc.ext K05
        obtain ⟨row, hr, Sr⟩ := Rc.get (i := a) (by simp [cauM]; omega)
        have hcr : rowA (cauM k m) a = cauR k a := rowA_get (cauM_get hak)
        rw [hcr, cauR_len] at Sr
        have Sr' : Sl 1 k h row ((cauR k p.1.toNat).map bb) := by rw [ha, Int.toNat_natCast]; exact Sr
        have ixr := R5.sl.idx1 (P := Try.prog) Try.underlying53 ts47 (j := a) (by simp [cauM]; omega) .i64
        have ldrow := R5.sl.ld (P := Try.prog) ta47 hr
        obtain ⟨vr', h6, vd', h7, f1, f2, f3, f4, f5, f6, Ch7⟩ := Ch4.push Sr' (by omega) K5 g5
        have at5 : aload Try.prog (h5.bump 19) 3 b8 0 = some (.int .i64 (a : Nat)) := by rw [← ha]; exact ldc (h := h5.bump 19) g85 ta3 rfl
        have ldr' : aload Try.prog (h5.bump 19) 53 b 768 = some rv := ldr
        have ldrow' : aload Try.prog (h5.bump 19) 47 rv.blk (rv.off + a) = some row := ldrow
        have nrb8 : ¬ Has vr b8 := fun z => by have := Ch.r.lt z; omega
        have ld6 : aload Try.prog h6 9 b8 1 = some (.str p.2) := ldc (by rw [f4.2 b8 (by omega) nrb8]; exact g85) ta9 rfl
        have rvlt : rv.blk < h.next := Rc.sl.blk_lt (by simp [cauM]; omega)
        have hk05 := K05.1
        have clt := C.lt
        have nrb : ¬ Has vr b := fun z => by have := Ch.nr _ z; omega
        have nrv : ¬ Has vr rv.blk := fun z => by have := Ch.nr _ z; omega
        have G1 := f3 (fun c => c = b ∨ c = b8 ∨ c = rv.blk) (fun c hc => by
          rcases hc with rfl | rfl | rfl
          · exact ⟨by omega, nrb⟩
          · exact ⟨by omega, nrb8⟩
          · exact ⟨by omega, nrv⟩)
        have rwr := row1_one (show row.one = true from Sr.oneV)
        have smr := Sr.same
        have smv := R5.sl.same
        have l7 := Ch7.r.sl.len'
        have ldk := (C.ext Ch7.kb).ldk
        have hbm : ∀ L : List UInt8, L.map (fun b : UInt8 => AV.int .u8 (b.toNat : Nat)) = L.map bb := fun L => rfl
        have eb : p.2.data.toList = bl p.2 := rfl
        have cvp := @alate_conv Try.prog
        simp [q0, q4, q5, q6, q9, q10, q11, isLt (show (i : Int) < (l.length : Int) by omega), ix, ldp, aalloc, rowp, ptC_len, hb8, lay4, at4, ixs, lds, lay5]
        refine W_lateG [0, 0, 2, 6, 14, 0, 32, 126, 254, 510, 1023, 0, 0, 4096, 12288, 28672, 65535, 131071, 262143] [9, 14, 15] 14 (fun c => c = b ∨ c = b8 ∨ c = rv.blk) (by rfl) (by kernel_rfl) (by kernel_rfl) (by kernel_rfl) (by kernel_rfl) (fun c hc => by rcases hc with rfl | rfl | rfl <;> (show _ < h5.next) <;> omega) ?_
        simp [resv, memN, isEff, isAlloc, isStore, mayEff, mayRead, alate_build, alate_conv (s := p.2) Try.underlying9 Try.underlying47 Try.underlying5, aalloc, afill, insFl, oblG, sameAV, Nat.testBit_eq_decide_div_mod_eq, q0, q4, q5, q6, q9, q10, q11, ldr', at5, ixr, ldrow', rwr, show row.one = true from Sr.oneV, smr, smv, eb, hbm, f1, f2, G1, ld6, f5, f6, l7, ldk]
        refine onD (fun q => ?_) (fun q => ?_)
        · have ed : pickP k l = acc ++ [p] := by rw [fold_done (i := i + 1) (by rw [hstep, List.length_append]; simp; omega), hstep]
          rw [ed]
          simp [q0, q4, q5, q6, q9, q10, q11]
          exact ⟨_, _, Ch7⟩
        · simp [q0, q4, q5, q6, q9, q10, q11, i64w ((i : Int) + 1) (by omega) (by omega)]
          exact ⟨l.length - (i + 1), by omega, i + 1, rfl, by omega, by simp, ⟨_, _, by rw [hstep]; exact Ch7⟩, by rw [hstep, List.length_append]; simp; omega⟩
    · have e : i = l.length := by omega
      rw [e, List.take_length] at Ch hlk
      simp [q0, q4, q5, q6, q9, q10, q11, isLe (show (l.length : Int) ≤ (i : Int) by omega)]
      exact ⟨rs, ds, Ch⟩
  · rintro ⟨t, h3⟩ ⟨vr, vd, rs, ds, q4, q5, Ch⟩
    simp only at q4 q5 Ch
    simp [q4, q5]
    exact ⟨vr, vd, ⟨rfl, rfl⟩, ⟨_, Ch.rows⟩, ⟨_, Ch.data⟩, by first | exact Ch.kb | (rw [← hsb]; exact Ch.kb)⟩
end Go.Proofs.Ytmmibaaidfcbhaa
/- rs: Decode. -/
namespace Go.Proofs.Ytmmibaaidfcbhaa
open Go Go.YtmmibaaidfcbhaaAbs
set_option linter.unusedSimpArgs false
set_option linter.unusedVariables false
set_option maxRecDepth 4000

def okPt (k m each : Nat) (p : Pt) : Bool := decide (0 ≤ p.1 ∧ p.1 < ((k + m : Nat) : Int) ∧ p.2.size = each)
theorem allIn_iff {k m each : Nat} {l : List Pt} : l.all (okPt k m each) = true ↔ allIn k m each l := by
  unfold allIn okPt
  rw [List.all_eq_true]
  simp
/-- All bytes, one row behind the other. -/
def wholeP (k each : Nat) (c : List Pt) : Vc := (mtT each (invA (c.map fun p => cauR k p.1.toNat)).1 (c.map fun p => bl p.2)).flatten
/-- What is told. -/
def decP (k m : Nat) (size : Int) (l : List Pt) : Vc × Int :=
  if size < 0 ∨ 1048576 < size then ([], 1)
  else if l.all (okPt k m (szN k size.toNat)) = false then ([], 4)
  else if (pickP k l).length < k then ([], 3)
  else if ((wholeP k (szN k size.toNat) (pickP k l)).drop size.toNat).all (fun x => decide (x = 0)) = false then ([], 4)
  else ((wholeP k (szN k size.toNat) (pickP k l)).take size.toNat, 0)
theorem pick_sub {k : Nat} {l : List Pt} {p : Pt} (h : p ∈ pickP k l) : p ∈ l := by
  rcases fold_sub h with z | z
  · cases z
  · exact z
theorem pick_le {k : Nat} (l : List Pt) : (pickP k l).length ≤ k := fold_le (Nat.zero_le _)
/-- The places of those that were chosen. -/
def selP (c : List Pt) : List Nat := c.map fun p => p.1.toNat
theorem sel_map (k : Nat) (c : List Pt) : (c.map fun p => cauR k p.1.toNat) = (selP c).map (cauR k) := by simp [selP]
theorem sel_nodup {k m each : Nat} {l : List Pt} (hv : allIn k m each l) : (selP (pickP k l)).Nodup := by
  have h : ((pickP k l).map (·.1)).Nodup := fold_nodup (by simp)
  have hp : ∀ p, p ∈ pickP k l → 0 ≤ p.1 := fun p hp => (hv p (pick_sub hp)).1
  unfold selP
  generalize pickP k l = c at *
  induction c with
  | nil => simp
  | cons p c ih =>
    rw [List.map_cons, List.nodup_cons] at h ⊢
    refine ⟨fun q => h.1 ?_, ih h.2 fun q hq => hp q (List.mem_cons_of_mem _ hq)⟩
    obtain ⟨q', hq', e⟩ := List.mem_map.1 q
    refine List.mem_map.2 ⟨q', hq', ?_⟩
    have a := hp p (List.mem_cons_self ..)
    have b := hp q' (List.mem_cons_of_mem _ hq')
    omega
theorem mtT_lenR (n : Nat) (A B : Mt) : (mtT n A B).length = A.length := by simp [mtT]
theorem flat_len {n : Nat} : ∀ {M : Mt}, RowsN n M → M.flatten.length = M.length * n
  | [], _ => by simp
  | r :: M, h => by rw [List.flatten_cons, List.length_append, flat_len h.tl, h.hd, List.length_cons, Nat.succ_mul, Nat.add_comm]
def bbs (M : Mt) : List AV := M.flatten.map bb
theorem flat_snoc (M : Mt) (r : Vc) : (M ++ [r]).flatten = M.flatten ++ r := by simp
theorem row_two (v : Vc) (e : Int) : AV.tup [AV.str ⟨⟨v⟩⟩, .int .i64 e] = .tup [tx v, .int .i64 e] := rfl
set_option maxHeartbeats 8000000 in
theorem dec_ok (f : Nat) (h : Heap) (b k m : Nat) (rv : AV) (C : Cd h (.ptr b 0) b k m rv) (size : Int) (hs1 : -9223372036854775808 ≤ size) (lv : AV) (l : List Pt) (S : Sl 2 l.length h lv (cat ptC l)) (hl : l.length + 1000 < f) (hm : l.length < 1000000) (hb : ∀ p, p ∈ l → p.2.size ≤ 400) :
    ∃ v' h', acall Try.prog (f + 6) 12 [.ptr b 0, .int .i64 size, lv] h = some (v', h') ∧ v' = .tup [tx (decP k m size l).1, .int .i64 (decP k m size l).2] ∧ Keep h.next nob h h' := by
  rw [acall_text [] Try.func12 (by kernel_rfl)]
  refine afuncT_ex rfl (by simp [Try.f12]) ?_
  have ll := S.len'
  have k1 := C.k1
  have k8 := C.k8
  have km := C.km
  by_cases h0 : size < 0
  · have e : decP k m size l = ([], 1) := by unfold decP; rw [if_pos (.inl h0)]
    rw [e]
    simp [Try.f12, isLt h0]
    exact ⟨rfl, Keep.refl _ _ _⟩
  by_cases h1 : 1048576 < size
  · have e : decP k m size l = ([], 1) := by unfold decP; rw [if_pos (.inr h1)]
    rw [e]
    simp [Try.f12, isLe (show 0 ≤ size by omega), isLt h1]
    exact ⟨rfl, Keep.refl _ _ _⟩
  obtain ⟨n, rfl⟩ : ∃ n : Nat, size = (n : Int) := ⟨size.toNat, by omega⟩
  have ed : decP k m (n : Int) l = if l.all (okPt k m (szN k n)) = false then ([], 4) else if (pickP k l).length < k then ([], 3) else if ((wholeP k (szN k n) (pickP k l)).drop n).all (fun x => decide (x = 0)) = false then ([], 4) else ((wholeP k (szN k n) (pickP k l)).take n, 0) := by
    unfold decP
    rw [if_neg (by omega), Int.toNat_natCast]
  have E1 := size_ok (f + 4) C n (by omega)
  obtain ⟨q1, q2⟩ := szN_fits (k := k) (n := n) k1
  have q3 := szN_le (k := k) (n := n) k1
  obtain ⟨sz, hsz⟩ : ∃ sz, szN k n = sz := ⟨_, rfl⟩
  rw [hsz] at E1 q1 q2 q3 ed
  obtain ⟨D, hD⟩ : ∃ D, decP k m (n : Int) l = D := ⟨_, rfl⟩
  rw [hD] at ed ⊢
  simp [Try.f12, isLe (show 0 ≤ (n : Int) by omega), isLe (show (n : Int) ≤ 1048576 by omega), E1, ll]
  refine W_loop (fun mm st => ∃ i : Nat, mm = l.length - i ∧ i ≤ l.length ∧ (∀ j p, j < i → l[j]? = some p → okPt k m sz p = true) ∧ st.t.get 0 = some (.ptr b 0) ∧ st.t.get 1 = some (.int .i64 (n : Nat)) ∧ st.t.get 2 = some lv ∧ st.t.get 8 = some (.int .i64 (sz : Nat)) ∧ st.t.get 29 = some lv ∧ st.t.get 30 = some (.int .i64 (l.length : Nat)) ∧ st.t.get 31 = some (.int .i64 (i : Nat)) ∧ Keep h.next nob h st.h) l.length (by omega)
    ⟨0, by omega, by omega, fun j p hj => absurd hj (Nat.not_lt_zero _), by simp, by simp, by simp, by simp, by simp, by simp, by simp, Keep.refl _ _ _⟩ ?_
  rintro mm ⟨t, h3⟩ ⟨i, rfl, hi, hok, q0, q1', q2', q8, q29, q30, q31, K3⟩
  simp only at q0 q1' q2' q8 q29 q30 q31 K3
  by_cases hlt : i < l.length
  · obtain ⟨p, hp⟩ : ∃ p, l[i]? = some p := ⟨l[i], by simp⟩
    obtain ⟨ix, ldp, _, _, _⟩ := pt_at (S.ext K3) hp
    have rowp : (AV.agg (ptC p)).row1 = some (ptC p) := row1_agg (ptC_one p)
    have lay4 : alay (h3.new (.cells [.int .i64 0, .str .empty] false)) h3.next 0 (ptC p) = some (h3.new (.cells (ptC p) false)) := alay_new rfl
    have g8 : (h3.new (.cells (ptC p) false)).get h3.next = some (.cells (ptC p) false) := get_new_self _ _
    have K4 : Keep h3.next nob h3 (h3.new (.cells (ptC p) false)) := Keep.new (Nat.le_refl _) _
    obtain ⟨b8, hb8⟩ : ∃ b8, h3.next = b8 := ⟨_, rfl⟩
    obtain ⟨h4, e4⟩ : ∃ h4, h3.new (.cells (ptC p) false) = h4 := ⟨_, rfl⟩
    have K04 : Keep h.next nob h h4 := by rw [← e4]; exact K3.trans (Keep.new K3.1 _)
    rw [e4] at lay4 g8
    rw [hb8] at lay4 g8
    have at4 : aload Try.prog h4 3 b8 0 = some (.int .i64 p.1) := ldc g8 ta3 rfl
    have da4 : aload Try.prog h4 9 b8 1 = some (.str p.2) := ldc g8 ta9 rfl
    have ldn := (C.ext K04).ldn
    have bad : okPt k m sz p = false → D = ([], 4) := fun q => by
      rw [ed, if_pos]
      cases hz : l.all (okPt k m sz) with
      | false => rfl
      | true =>
        rw [List.all_eq_true] at hz
        rw [hz p (List.mem_of_getElem? hp)] at q
        cases q
    by_cases c1 : p.1 < 0
    · have hD4 := bad (by unfold okPt; simp; omega)
      rw [hD4]
      simp [q0, q1', q2', q8, q29, q30, q31, isLt (show (i : Int) < (l.length : Int) by omega), ix, ldp, aalloc, rowp, ptC_len, hb8, lay4, at4, isLt c1]
      exact ⟨rfl, K04⟩
    by_cases c2 : ((k + m : Nat) : Int) ≤ p.1
    · have hD4 := bad (by unfold okPt; simp; omega)
      rw [hD4]
      simp [q0, q1', q2', q8, q29, q30, q31, isLt (show (i : Int) < (l.length : Int) by omega), ix, ldp, aalloc, rowp, ptC_len, hb8, lay4, at4, isLe (show 0 ≤ p.1 by omega), ldn, isLe (show (k : Int) + (m : Int) ≤ p.1 by omega)]
      exact ⟨rfl, K04⟩
    by_cases c3 : p.2.size = sz
    rotate_left
    · have hD4 := bad (by unfold okPt; simp; omega)
      have c3' : ¬ ((p.2.size : Nat) : Int) = (sz : Int) := by omega
      rw [hD4]
      simp [q0, q1', q2', q8, q29, q30, q31, isLt (show (i : Int) < (l.length : Int) by omega), ix, ldp, aalloc, rowp, ptC_len, hb8, lay4, at4, isLe (show 0 ≤ p.1 by omega), ldn, isLt (show p.1 < (k : Int) + (m : Int) by omega), da4, c3, c3']
      exact ⟨rfl, K04⟩
    simp [q0, q1', q2', q8, q29, q30, q31, isLt (show (i : Int) < (l.length : Int) by omega), ix, ldp, aalloc, rowp, ptC_len, hb8, lay4, at4, isLe (show 0 ≤ p.1 by omega), ldn, isLt (show p.1 < (k : Int) + (m : Int) by omega), da4, c3, i64w ((i : Int) + 1) (by omega) (by omega)]
    refine ⟨l.length - (i + 1), by omega, i + 1, rfl, by omega, fun j a' b' hj hp' => ?_, by simp, K04⟩
    by_cases hji : j = i
    · rw [hji, hp] at hp'
      cases hp'
      unfold okPt
      simp
      exact ⟨by omega, by omega, c3⟩
    · exact hok j (a', b') (by omega) hp'
  have hall : allIn k m sz l := allIn_iff.1 (by
    rw [List.all_eq_true]
    intro p hp
    obtain ⟨j, hj⟩ := List.getElem?_of_mem hp
    exact hok j p (by have := (List.getElem?_eq_some_iff.1 hj).1; omega) hj)
  rw [if_neg (by rw [allIn_iff.2 hall]; simp)] at ed
  have C3 := C.ext K3
  obtain ⟨_, h4, E4, vr, vd, rfl, ⟨rs, Rr⟩, ⟨ds, Rdd⟩, K4⟩ := chosen_ok (f + 4) h3 b k m sz rv C3 lv l (S.ext K3) hall (by omega) hm
  have C4 := C3.ext K4
  have lr := Rr.sl.len'
  rw [List.length_map] at lr
  have ldk := C4.ldk
  obtain ⟨c, hc⟩ : ∃ c, pickP k l = c := ⟨_, rfl⟩
  have hcl := pick_le (k := k) l
  have hcn := sel_nodup hall
  have hcs : ∀ p, p ∈ c → p ∈ l := fun p hp => pick_sub (by rw [hc]; exact hp)
  rw [hc] at ed Rr Rdd lr hcl hcn
  by_cases hlt3 : c.length < k
  · rw [if_pos hlt3] at ed
    rw [ed]
    simp [q0, q1', q2', q8, q29, q30, q31, isLe (show (l.length : Int) ≤ (i : Int) by omega), E4, lr, ldk, isLt (show (c.length : Int) < (k : Int) by omega)]
    exact ⟨rfl, K3.trans (K4.weak K3.1 fun _ _ q => q)⟩
  rw [if_neg hlt3] at ed
  have hck : c.length = k := by omega
  -- the inverse
  obtain ⟨B, eB, rB, lB, back⟩ := dec_back (k := k) (sz := sz) (by omega) (sel := selP c) (by simp [selP, hck]) hcn (fun s hs => by
    obtain ⟨p, hp, rfl⟩ := List.mem_map.1 hs
    have := hall p (hcs p hp)
    omega)
  obtain ⟨A, hA⟩ : ∃ A, (c.map fun p => cauR k p.1.toNat) = A := ⟨_, rfl⟩
  have hAs := sel_map k c
  rw [← hAs, hA] at eB
  have rA : RowsN k A := by rw [← hA, hAs]; exact selA_rows _
  have lA : A.length = k := by rw [← hA]; simp [hck]
  rw [hA] at Rr
  obtain ⟨vi, h5, B', b', E5, hp5, K5, N5, _⟩ := invert_ok (f + 1) (by omega) h4 _ C4.fld vr _ A Rr
  rw [sq_inv rA lA k1 (by omega), eB] at hp5
  cases hp5
  have N5 := N5 rfl
  obtain ⟨rsi, Ri⟩ := N5.rd
  have C5 := C4.ext K5
  have ldk5 := C5.ldk
  have li := Ri.sl.len'
  rw [lB] at li
  have Rd5 := Rdd.ext K5
  obtain ⟨Dm, hDm⟩ : ∃ Dm, (c.map fun p => bl p.2) = Dm := ⟨_, rfl⟩
  have rD : RowsN sz Dm := fun r hr => by
    rw [← hDm] at hr
    obtain ⟨p, hp, rfl⟩ := List.mem_map.1 hr
    rw [bl_len]
    exact (hall p (hcs p hp)).2.2
  have lD : Dm.length = k := by rw [← hDm]; simp [hck]
  rw [hDm] at Rd5
  have hsz4 : sz ≤ 400 := by
    cases c with
    | nil => simp at hck; omega
    | cons p c =>
      have := hcs p (List.mem_cons_self ..)
      have a := (hall p this).2.2
      have b := hb p this
      omega
  have hwh : wholeP k sz c = (mtT sz B Dm).flatten := by unfold wholeP; rw [hA, eB, hDm]
  have hN8 : k * sz ≤ 8 * sz := Nat.mul_le_mul_right _ k8
  obtain ⟨N, hN⟩ : ∃ N, k * sz = N := ⟨_, rfl⟩
  rw [hN] at q1 q2 hN8
  have sN : fwrap .i64 ((k : Int) * (sz : Int)) = (N : Nat) := by rw [← Int.natCast_mul, hN, i64w _ (by omega) (by omega)]
  have rM : RowsN sz (mtT sz B Dm) := mtT_rows rD B
  obtain ⟨Wm, hWm⟩ : ∃ Wm, mtT sz B Dm = Wm := ⟨_, rfl⟩
  have lWm : Wm.length = k := by rw [← hWm, mtT_lenR, lB]
  rw [hWm] at hwh rM
  rw [hwh] at ed
  have lW : Wm.flatten.length = N := by rw [flat_len rM, lWm, hN]
  have K05 : Keep h.next nob h h5 := (K3.trans (K4.weak K3.1 fun _ _ q => q)).trans (K5.weak (Nat.le_trans K3.1 K4.1) fun _ _ q => q)
  have Ma := Mine.new (sz := 1) (n := 0) (m := N) h5 (List.replicate N (.int .u8 0)) (by simp) (Nat.zero_le _) (by simp) true
  simp at Ma
  have Ka : Keep h5.next nob h5 (h5.new (.cells (List.replicate N (.int .u8 0)) false)) := Keep.new (Nat.le_refl _) _
  obtain ⟨av, hav⟩ : ∃ av, AV.sl h5.next 0 0 N 1 true = av := ⟨_, rfl⟩
  have Fa : ∀ d, Has av d → h5.next ≤ d := fun d hd => by rw [← hav] at hd; cases hd; exact Nat.le_refl _
  simp [q0, q1', q2', q8, q29, q30, q31, isLe (show (l.length : Int) ≤ (i : Int) by omega), E4, lr, ldk, isLe (show (k : Int) ≤ (c.length : Int) by omega), E5, ldk5, sN, aalloc_make0 (P := Try.prog) el47 (z := [.int .u8 0]) az5 rfl rfl N (by omega), flat1, li]
  rw [hav] at Ma ⊢
  refine W_cutLoop 2 (fun st => ∃ av', st.t.get 1 = some (.int .i64 (n : Nat)) ∧ st.t.get 15 = some av' ∧ Mine 1 N st.h av' (bbs Wm) ∧ Keep h5.next nob h5 st.h) ?_ ?_
  · refine W_loop (fun mm st => ∃ (i : Nat) (av' : AV), mm = k - i ∧ i ≤ k ∧ st.t.get 0 = some (.ptr b 0) ∧ st.t.get 1 = some (.int .i64 (n : Nat)) ∧ st.t.get 8 = some (.int .i64 (sz : Nat)) ∧ st.t.get 12 = some vd ∧ st.t.get 15 = some av' ∧ st.t.get 83 = some vi ∧ st.t.get 84 = some (.int .i64 (k : Nat)) ∧ st.t.get 85 = some (.int .i64 (i : Nat)) ∧ Mine 1 (i * sz) st.h av' (bbs (Wm.take i)) ∧ (∀ d, Has av' d → h5.next ≤ d) ∧ Keep h5.next nob h5 st.h) k (by omega)
      ⟨0, av, by omega, by omega, by simp [q0], by simp [q1'], by simp [q8], by simp, by simp, by simp, by simp, by simp, by simpa [bbs] using Ma, Fa, Ka⟩ ?_
    clear q0 q1' q2' q8 q29 q30 q31 K3
    rintro mm ⟨t, h6⟩ ⟨i, av', rfl, hi, q0, q1', q8, q12, q15, q83, q84, q85, M6, F6, K6⟩
    simp only at q0 q1' q8 q12 q15 q83 q84 q85 M6 K6
    by_cases hik : i < k
    · have C6 := C5.ext K6
      have Ri6 := Ri.ext K6
      have Rd6 := Rd5.ext K6
      obtain ⟨r, hr, Sr⟩ := Ri6.get (i := i) (by omega)
      have lr' := rB.row (k := i) (by omega)
      have ixr := Ri6.sl.idx1 (P := Try.prog) Try.underlying53 ts47 (j := i) (by omega) .i64
      have ldr := Ri6.sl.ld (P := Try.prog) ta47 hr
      obtain ⟨w, h7, E7, M7, F7, K7⟩ := mix_ok (f + 3) h6 b sz C6.fld r vd (rowA B i) _ Dm Sr Rd6 rD (by omega) (by omega) (by omega) (by omega)
      have hWi : Wm[i]? = some (lc sz (rowA B i) Dm) := by
        rw [← hWm]
        unfold mtT
        rw [List.getElem?_map, (rowA_mem (A := B) (i := i) (by omega)).1]; rfl
      have M67 := M6.ext K7
      have hle : i * sz ≤ 8 * 400 := Nat.mul_le_mul (by omega) hsz4
      obtain ⟨av2, h8, a1, a2, a3, a4⟩ := M67.append (P := Try.prog) el47 (xt := 47) (by rw [Try.underlying47]; rfl) M7.sl.alen M7.sl.acells (bb_one _) (by rw [List.length_map, lc_len rD, Nat.mul_one]) (by omega)
      unfold bbs at a2
      rw [← List.map_append, ← flat_snoc, takeP hWi, show i * sz + sz = (i + 1) * sz by rw [Nat.succ_mul]] at a2
      have K8 : Keep h5.next nob h5 h8 := (K6.trans (K7.weak K6.1 fun _ _ q => q)).trans ⟨a4.1, fun d hd _ => a4.2 d (Nat.lt_of_lt_of_le hd (Nat.le_trans K6.1 K7.1)) fun q => by have := F6 d q; omega⟩
      simp [q0, q1', q8, q12, q15, q83, q84, q85, isLt (show (i : Int) < (k : Int) by omega), ixr, ldr, E7, a1, i64w ((i : Int) + 1) (by omega) (by omega)]
      exact ⟨k - (i + 1), by omega, i + 1, rfl, by omega, by simp, a2, fun d hd => by
        rcases a3 d hd with z | z
        · exact F6 d z
        · have := K6.1; have := K7.1; omega, K8⟩
    · have e : i = k := by omega
      rw [e, hN, List.take_of_length_le (by omega)] at M6
      simp [q0, q1', q8, q12, q15, q83, q84, q85, isLe (show (k : Int) ≤ (i : Int) by omega)]
      exact ⟨M6, K6⟩
  clear q0 q1' q2' q8 q29 q30 q31 K3
  rintro ⟨t, h6⟩ ⟨av', q1', q15, M6, K6⟩
  simp only at q1' q15 M6 K6
  unfold bbs at M6
  have K06 : Keep h.next nob h h6 := K05.trans (K6.weak K05.1 fun _ _ q => q)
  obtain ⟨s1, b1, b2⟩ := M6.sl.from (P := Try.prog) (ty := 47) Try.underlying47 ts5 (k := .i64) (j := n) q1
  obtain ⟨s2, c1, c2⟩ := M6.sl.to (P := Try.prog) (ty := 47) Try.underlying47 ts5 (k := .i64) (j := n) q1
  rw [Nat.mul_one, ← List.map_drop] at b2
  rw [Nat.mul_one, ← List.map_take] at c2
  obtain ⟨W0, hW0⟩ : ∃ W0, Wm.flatten.drop n = W0 := ⟨_, rfl⟩
  rw [hW0] at b2 ed
  have lW0 : W0.length = N - n := by rw [← hW0, List.length_drop, lW]
  have l1 := b2.len'
  have cv : aconv Try.prog h6 47 9 s2 = some (.str ⟨⟨Wm.flatten.take n⟩⟩, h6) := aconv_bs c2 Try.underlying47 Try.underlying9 Try.underlying5
  obtain ⟨T, hT⟩ : ∃ T, N - n = T := ⟨_, rfl⟩
  rw [hT] at l1 lW0 b2
  simp [q1', q15, b1, l1]
  refine W_loop (fun mm st => ∃ i : Nat, mm = T - i ∧ i ≤ T ∧ (∀ j, j < i → W0[j]? = some 0) ∧ st.t.get 1 = some (.int .i64 (n : Nat)) ∧ st.t.get 15 = some av' ∧ st.t.get 99 = some s1 ∧ st.t.get 100 = some (.int .i64 (T : Nat)) ∧ st.t.get 101 = some (.int .i64 (i : Nat)) ∧ st.h = h6) T (by omega)
    ⟨0, by omega, by omega, fun j hj => absurd hj (Nat.not_lt_zero _), by simp [q1'], by simp [q15], by simp, by simp, by simp, by simp⟩ ?_
  clear q1' q15
  rintro mm ⟨t, h7⟩ ⟨i, rfl, hi, hz, q1', q15, q99, q100, q101, e⟩
  simp only at q1' q15 q99 q100 q101 e
  replace e := e.symm
  subst e
  by_cases hiT : i < T
  · obtain ⟨x, hx⟩ : ∃ x, W0[i]? = some x := ⟨W0[i]'(by omega), by simp⟩
    have ixs := b2.idx1 (P := Try.prog) Try.underlying47 ts5 (j := i) hiT .i64
    have lds : aload Try.prog h6 5 s1.blk (s1.off + i) = some (.int .u8 (x.toNat : Nat)) := b2.ld (P := Try.prog) ta5 (bb_get hx)
    by_cases hx0 : x = 0
    · subst hx0
      simp [q1', q15, q99, q100, q101, isLt (show (i : Int) < (T : Int) by omega), ixs, lds, i64w ((i : Int) + 1) (by omega) (by omega)]
      refine ⟨T - (i + 1), by omega, i + 1, rfl, by omega, fun j hj => ?_, by simp⟩
      by_cases hji : j = i
      · rw [hji]; exact hx
      · exact hz j (by omega)
    · have x1 := (b_not0 hx0).1
      have x2 := (b_not0 hx0).2.1
      rw [if_pos (by
        cases hq : W0.all (fun x => decide (x = 0)) with
        | false => rfl
        | true =>
          rw [List.all_eq_true] at hq
          have := hq x (List.mem_of_getElem? hx)
          simp at this
          exact absurd this hx0)] at ed
      rw [ed]
      simp [q1', q15, q99, q100, q101, isLt (show (i : Int) < (T : Int) by omega), ixs, lds, hx0, x1, x2]
      exact ⟨rfl, K06⟩
  · rw [if_neg (by
      have : W0.all (fun x => decide (x = 0)) = true := by
        rw [List.all_eq_true]
        intro x hx
        obtain ⟨j, hj⟩ := List.getElem?_of_mem hx
        have := hz j (by have := (List.getElem?_eq_some_iff.1 hj).1; omega)
        rw [hj] at this
        simpa using this
      rw [this]; simp)] at ed
    rw [ed]
    simp [q1', q15, q99, q100, q101, isLe (show (T : Int) ≤ (i : Int) by omega), c1, cv]
    exact ⟨rfl, K06⟩
end Go.Proofs.Ytmmibaaidfcbhaa
/- rs: Rebuild; a value's own fragments. -/
namespace Go.Proofs.Ytmmibaaidfcbhaa
open Go Go.YtmmibaaidfcbhaaAbs
set_option linter.unusedSimpArgs false
set_option linter.unusedVariables false
set_option maxRecDepth 4000

def rebP (k m : Nat) (size at_ : Int) (l : List Pt) : Vc × Int :=
  if at_ < 0 ∨ ((k + m : Nat) : Int) ≤ at_ then ([], 1)
  else if (decP k m size l).2 ≠ 0 then ([], (decP k m size l).2)
  else (rowA (encP k m (decP k m size l).1) at_.toNat, 0)
theorem pick_data {k m each : Nat} {l : List Pt} (hv : allIn k m each l) : RowsN each ((pickP k l).map fun p => bl p.2) := fun r hr => by
  obtain ⟨p, hp, rfl⟩ := List.mem_map.1 hr
  rw [bl_len]
  exact (hv p (pick_sub hp)).2.2
theorem dec_small {k m : Nat} (k1 : 1 ≤ k) (k8 : k ≤ 8) (km : m + k ≤ 12) {size : Int} {l : List Pt} (hb : ∀ p, p ∈ l → p.2.size ≤ 400) : (decP k m size l).1.length ≤ 3200 := by
  unfold decP
  split
  · simp
  · split
    · simp
    · split
      · simp
      · split
        · simp
        · rename_i h1 h2 h3 h4
          have hall : allIn k m (szN k size.toNat) l := allIn_iff.1 (by simpa using h2)
          have hc := pick_le (k := k) l
          have hck : (pickP k l).length = k := by omega
          obtain ⟨B, eB, rB, lB, _⟩ := dec_back (k := k) (sz := szN k size.toNat) (by omega) (sel := selP (pickP k l)) (by simp [selP, hck]) (sel_nodup hall) (fun s hs => by
            obtain ⟨p, hp, rfl⟩ := List.mem_map.1 hs
            have := hall p (pick_sub hp)
            omega)
          have hs : szN k size.toNat ≤ 400 := by
            cases hp : pickP k l with
            | nil => rw [hp] at hck; simp at hck; omega
            | cons p c =>
              have hm : p ∈ pickP k l := by rw [hp]; exact List.mem_cons_self ..
              have a := (hall p (pick_sub hm)).2.2
              have b := hb p (pick_sub hm)
              omega
          have hw : (wholeP k (szN k size.toNat) (pickP k l)).length = k * szN k size.toNat := by
            unfold wholeP
            rw [sel_map, eB, flat_len (mtT_rows (pick_data hall) _), mtT_lenR, lB]
          rw [List.length_take, hw]
          have := Nat.mul_le_mul k8 hs
          omega
set_option maxHeartbeats 4000000 in
theorem reb_ok (f : Nat) (h : Heap) (b k m : Nat) (rv : AV) (C : Cd h (.ptr b 0) b k m rv) (size at_ : Int) (hs1 : -9223372036854775808 ≤ size) (lv : AV) (l : List Pt) (S : Sl 2 l.length h lv (cat ptC l)) (hl : l.length + 4000 < f) (hm : l.length < 1000000) (hb : ∀ p, p ∈ l → p.2.size ≤ 400) :
    ∃ v' h', acall Try.prog (f + 7) 13 [.ptr b 0, .int .i64 size, .int .i64 at_, lv] h = some (v', h') ∧ v' = .tup [tx (rebP k m size at_ l).1, .int .i64 (rebP k m size at_ l).2] ∧ Keep h.next nob h h' := by
  rw [acall_text [] Try.func13 (by kernel_rfl)]
  refine afuncT_ex rfl (by simp [Try.f13]) ?_
  have ldn := C.ldn
  have k1 := C.k1
  have k8 := C.k8
  have km := C.km
  by_cases c1 : at_ < 0
  · have e : rebP k m size at_ l = ([], 1) := by unfold rebP; rw [if_pos (.inl c1)]
    rw [e]
    simp [Try.f13, isLt c1]
    exact ⟨rfl, Keep.refl _ _ _⟩
  by_cases c2 : ((k + m : Nat) : Int) ≤ at_
  · have e : rebP k m size at_ l = ([], 1) := by unfold rebP; rw [if_pos (.inr c2)]
    rw [e]
    simp [Try.f13, isLe (show 0 ≤ at_ by omega), ldn, isLe (show (k : Int) + (m : Int) ≤ at_ by omega)]
    exact ⟨rfl, Keep.refl _ _ _⟩
  obtain ⟨_, h1, E1, rfl, K1⟩ := dec_ok f h b k m rv C size hs1 lv l S (by omega) hm hb
  have small := dec_small k1 k8 km (size := size) hb
  have er : rebP k m size at_ l = if (decP k m size l).2 ≠ 0 then ([], (decP k m size l).2) else (rowA (encP k m (decP k m size l).1) at_.toNat, 0) := by
    unfold rebP
    rw [if_neg (by omega)]
  rw [er]
  generalize decP k m size l = d at *
  obtain ⟨V, e⟩ := d
  simp only at *
  by_cases he : e = 0
  · subst he
    rw [if_neg (by simp)]
    obtain ⟨v2, h2, E2, M2, F2, K2⟩ := enc_ok (f + 3) h1 b k m rv (C.ext K1) ⟨⟨V⟩⟩ (by rw [ba_size]; omega) (by rw [ba_size]; omega)
    rw [bl_mk] at M2
    obtain ⟨i, hi⟩ : ∃ i : Nat, at_ = (i : Int) := ⟨at_.toNat, by omega⟩
    subst hi
    obtain ⟨ix, ld, _⟩ := txs_at M2.sl (i := i) (by rw [encP_len]; omega)
    have e2 : tx V = .str ⟨⟨V⟩⟩ := rfl
    rw [e2] at E1
    simp [Try.f13, ldn, isLt (show (i : Int) < (k : Int) + (m : Int) by omega), E1, E2, ix, ld]
    exact K1.trans (K2.weak K1.1 fun _ _ q => q)
  · rw [if_pos he]
    have hne : ¬ e = 0 := he
    simp [Try.f13, isLe (show 0 ≤ at_ by omega), ldn, isLt (show at_ < (k : Int) + (m : Int) by omega), E1, hne]
    exact ⟨rfl, K1⟩

/-! A value's own fragments. -/
section
variable {k m : Nat} {X : Vc}
def ownPt (k m : Nat) (X : Vc) (s : Nat) : Pt := ((s : Int), ⟨⟨rowA (encP k m X) s⟩⟩)
/-- Each that was picked, and the first one behind it. -/
def twiceP (k m : Nat) (X : Vc) (sel : List Nat) : List Pt := sel.flatMap fun s => [ownPt k m X s, ownPt k m X (sel.headD 0)]
theorem twice_nil : twiceP k m X [] = [] := rfl
theorem twice_snoc (sel : List Nat) (s : Nat) : twiceP k m X (sel ++ [s]) = twiceP k m X sel ++ [ownPt k m X s, ownPt k m X ((sel ++ [s]).headD 0)] := by
  unfold twiceP
  rw [List.flatMap_append]
  cases sel with
  | nil => rfl
  | cons a r => simp
theorem twice_len : ∀ sel : List Nat, (twiceP k m X sel).length = 2 * sel.length := fun sel => by
  unfold twiceP
  generalize sel.headD 0 = a
  induction sel with
  | nil => rfl
  | cons s r ih => rw [List.flatMap_cons, List.length_append, ih]; simp; omega
theorem seen_own {sel : List Nat} {s : Nat} : seenP (sel.map (ownPt k m X)) (s : Int) = true ↔ s ∈ sel := by
  unfold seenP
  rw [List.any_map, List.any_eq_true]
  constructor
  · rintro ⟨x, hx, e⟩
    have e : decide ((x : Int) = (s : Int)) = true := e
    have e := of_decide_eq_true e
    have : x = s := by omega
    rw [← this]; exact hx
  · intro h
    exact ⟨s, h, by simp [ownPt]⟩
theorem pick_rev : ∀ r : List Nat, r.reverse.Nodup → r.reverse.length ≤ k → pickP k (twiceP k m X r.reverse) = r.reverse.map (ownPt k m X)
  | [], _, _ => rfl
  | s :: r, hn, hl => by
    rw [List.reverse_cons] at hn hl ⊢
    generalize hsel : r.reverse = sel at *
    rw [List.length_append] at hl
    simp at hl
    rw [List.nodup_append] at hn
    obtain ⟨n1, n2, n3⟩ := hn
    have hs : s ∉ sel := fun q => n3 s q s (by simp) rfl
    have ih' : (twiceP k m X sel).foldl (stepP k) [] = sel.map (ownPt k m X) := by
      have := pick_rev r (by rw [hsel]; exact n1) (by rw [hsel]; omega)
      rw [hsel] at this
      exact this
    unfold pickP
    rw [twice_snoc, List.foldl_append, ih', List.foldl_cons, List.foldl_cons, List.foldl_nil]
    have e1 : stepP k (sel.map (ownPt k m X)) (ownPt k m X s) = (sel ++ [s]).map (ownPt k m X) := by
      unfold stepP
      rw [if_neg, List.map_append]
      · rfl
      · rintro (q | q)
        · exact hs (seen_own.1 q)
        · rw [List.length_map] at q; omega
    rw [e1]
    have hmem : (sel ++ [s]).headD 0 ∈ sel ++ [s] := by cases sel <;> simp
    have hseen : seenP ((sel ++ [s]).map (ownPt k m X)) (ownPt k m X ((sel ++ [s]).headD 0)).1 = true := seen_own.2 hmem
    unfold stepP
    rw [if_pos (.inl hseen)]
theorem pick_twice (sel : List Nat) (hn : sel.Nodup) (hl : sel.length ≤ k) : pickP k (twiceP k m X sel) = sel.map (ownPt k m X) := by
  have := pick_rev (k := k) (m := m) (X := X) sel.reverse (by simpa using hn) (by simpa using hl)
  rwa [List.reverse_reverse] at this
theorem own_in (hk : 1 ≤ k) {s : Nat} (hs : s < k + m) : okPt k m (szN k X.length) (ownPt k m X s) = true := by
  unfold okPt ownPt
  have := (encP_rows (m := m) hk X).row (k := s) (by rw [encP_len]; exact hs)
  simp
  exact ⟨by omega, this⟩
theorem twice_in (hk : 1 ≤ k) {sel : List Nat} (hs : ∀ s, s ∈ sel → s < k + m) : (twiceP k m X sel).all (okPt k m (szN k X.length)) = true := by
  rw [List.all_eq_true]
  intro p hp
  unfold twiceP at hp
  obtain ⟨s, h1, h2⟩ := List.mem_flatMap.1 hp
  simp at h2
  rcases h2 with rfl | rfl
  · exact own_in hk (hs s h1)
  · refine own_in hk (hs _ ?_)
    cases sel with
    | nil => cases h1
    | cons a r => exact List.mem_cons_self ..
/-- All come back. -/
theorem dec_own (hk : 1 ≤ k) (hk8 : k ≤ 8) (hm : m + k ≤ 12) (hX : X.length ≤ 1048576) {l : List Pt} {sel : List Nat} (hall : l.all (okPt k m (szN k X.length)) = true) (hp : pickP k l = sel.map (ownPt k m X)) (hn : sel.Nodup) (hs : ∀ s, s ∈ sel → s < k + m) (hl : sel.length = k) : decP k m (X.length : Nat) l = (X, 0) := by
  unfold decP
  obtain ⟨sz, hsz⟩ : ∃ sz, szN k X.length = sz := ⟨_, rfl⟩
  have fX : X.length ≤ k * sz := by rw [← hsz]; exact (szN_fits hk).1
  obtain ⟨B, eB, rB, lB, back⟩ := dec_back (k := k) (sz := sz) (by omega) hl hn (fun s h => by have := hs s h; omega)
  have ew : wholeP k sz (pickP k l) = padL X (k * sz) := by
    unfold wholeP
    have e1 : ((pickP k l).map fun p => cauR k p.1.toNat) = sel.map (cauR k) := by rw [hp, List.map_map]; rfl
    have e2 : ((pickP k l).map fun p => bl p.2) = mtT sz (sel.map (cauR k)) (dataM k sz X) := by
      rw [hp, List.map_map]
      unfold mtT
      rw [List.map_map]
      refine List.map_congr_left fun s h => ?_
      show rowA (encP k m X) s = _
      rw [enc_row (hs s h), hsz]; rfl
    rw [e1, e2, eB]
    simp only
    rw [back _ (dataM_rows fX) (by simp), data_pad fX]
  rw [hsz] at hall
  rw [if_neg (by omega), Int.toNat_natCast, hsz]
  rw [if_neg (by rw [hall]; simp), if_neg (by rw [hp]; simp; omega), ew, if_neg, pad_take]
  have : ((padL X (k * sz)).drop X.length).all (fun x => decide (x = 0)) = true := by
    unfold padL
    rw [List.drop_left, List.all_replicate]
    simp
  rw [this]; simp
theorem dec_few {l : List Pt} (hall : ∀ p, p ∈ l → okPt k m (szN k X.length) p = true) (hX : X.length ≤ 1048576) (hl : (pickP k l).length < k) : decP k m (X.length : Nat) l = ([], 3) := by
  unfold decP
  rw [if_neg (by omega), Int.toNat_natCast, if_neg (by rw [List.all_eq_true.2 hall]; simp), if_pos hl]
end
end Go.Proofs.Ytmmibaaidfcbhaa
/- nil is compared with nil. -/
namespace Go.YtmmibaaidfcbhaaAbs
open Go Go.RowKit
set_option linter.unusedSimpArgs false
set_option linter.unusedVariables false
section
variable {P : Program} {t : Tr AV} {d : Option Tmp} {ty tv v : TypeId} {x y : Operand} {pos : String} {af : Array Edge} {g : Option (Nat × Bool)}
theorem aback0_eql_val {A B : AV} {a b : Value} {r : Bool} (hx : ev t x = A) (hy : ev t y = B) (va : A.val? = some a) (vb : B.val? = some b) (hg : semPure P (eqGuard .eql ty x y a b) = some ()) (he : semPure P (binOp .eql ty a b) = some (.bool r)) : aback0 P t ⟨d, .binOp .eql ty x y tv, v, pos, af, g⟩ = some (.bool r) := by
  have : semPure P (execOp (fun x => ((ev t x).val?).getD undef) ⟨d, .binOp .eql ty x y tv, v, pos, af, g⟩) = some (.value (.bool r)) := by
    simp only [execOp, hx, hy, va, vb, Option.getD_some]
    have e1 : semPure P (do
        eqGuard .eql ty x y a b
        binOp .eql ty a b) = some (.bool r) := by
      rw [semPure_bind P (eqGuard .eql ty x y a b) _ (a := ()) hg]
      exact he
    rw [semPure_bind P _ _ e1]
    rfl
  unfold aback0 aback
  simp [Op.operands, hx, hy, va, vb, this]
theorem aback0_neq_val {A B : AV} {a b : Value} {r : Bool} (hx : ev t x = A) (hy : ev t y = B) (va : A.val? = some a) (vb : B.val? = some b) (hg : semPure P (eqGuard .neq ty x y a b) = some ()) (he : semPure P (binOp .neq ty a b) = some (.bool !r)) : aback0 P t ⟨d, .binOp .neq ty x y tv, v, pos, af, g⟩ = some (.bool !r) := by
  have : semPure P (execOp (fun x => ((ev t x).val?).getD undef) ⟨d, .binOp .neq ty x y tv, v, pos, af, g⟩) = some (.value (.bool !r)) := by
    simp only [execOp, hx, hy, va, vb, Option.getD_some]
    have e1 : semPure P (do
        eqGuard .neq ty x y a b
        binOp .neq ty a b) = some (.bool !r) := by
      rw [semPure_bind P (eqGuard .neq ty x y a b) _ (a := ()) hg]
      exact he
    rw [semPure_bind P _ _ e1]
    rfl
  unfold aback0 aback
  simp [Op.operands, hx, hy, va, vb, this]
theorem equal_nils {e : TypeId} (hu : P.underlying ty = some (.slice e)) : semPure P (Op.equal ty (.slice none 0 0) (.slice none 0 0)) = some true := by
  show semPure P (Op.equalIn (_ + 1) ty _ _) = _
  unfold Op.equalIn
  rw [semPure_bind P _ _ (semPure_und hu)]
  rfl
theorem equal_nilp {e : TypeId} (hu : P.underlying ty = some (.pointer e)) : semPure P (Op.equal ty (.pointer none) (.pointer none)) = some true := by
  show semPure P (Op.equalIn (_ + 1) ty _ _) = _
  unfold Op.equalIn
  rw [semPure_bind P _ _ (semPure_und hu)]
  rfl
theorem nils_eql {e : TypeId} (hx : ev t x = .nils) (hy : ev t y = .nils) (hu : P.underlying ty = some (.slice e)) : aback0 P t ⟨d, .binOp .eql ty x y tv, v, pos, af, g⟩ = some (.bool true) := aback0_eql_val hx hy rfl rfl rfl (by show semPure P (Op.equal ty (.slice none 0 0) (.slice none 0 0) >>= fun r => pure (Value.bool (r))) = _; rw [semPure_bind P _ _ (equal_nils hu)]; rfl)
theorem nilp_eql {e : TypeId} (hx : ev t x = .nilp) (hy : ev t y = .nilp) (hu : P.underlying ty = some (.pointer e)) : aback0 P t ⟨d, .binOp .eql ty x y tv, v, pos, af, g⟩ = some (.bool true) := aback0_eql_val hx hy rfl rfl rfl (by show semPure P (Op.equal ty (.pointer none) (.pointer none) >>= fun r => pure (Value.bool (r))) = _; rw [semPure_bind P _ _ (equal_nilp hu)]; rfl)
theorem nils_neq {e : TypeId} (hx : ev t x = .nils) (hy : ev t y = .nils) (hu : P.underlying ty = some (.slice e)) : aback0 P t ⟨d, .binOp .neq ty x y tv, v, pos, af, g⟩ = some (.bool false) := aback0_neq_val hx hy rfl rfl rfl (by show semPure P (Op.equal ty (.slice none 0 0) (.slice none 0 0) >>= fun r => pure (Value.bool (!r))) = _; rw [semPure_bind P _ _ (equal_nils hu)]; rfl)
theorem nilp_neq {e : TypeId} (hx : ev t x = .nilp) (hy : ev t y = .nilp) (hu : P.underlying ty = some (.pointer e)) : aback0 P t ⟨d, .binOp .neq ty x y tv, v, pos, af, g⟩ = some (.bool false) := aback0_neq_val hx hy rfl rfl rfl (by show semPure P (Op.equal ty (.pointer none) (.pointer none) >>= fun r => pure (Value.bool (!r))) = _; rw [semPure_bind P _ _ (equal_nilp hu)]; rfl)
@[simp] theorem aeql_nn : aeql P ty .nils .nils = none := by unfold aeql; cases P.underlying ty with | none => rfl | some u => cases u <;> rfl
@[simp] theorem aeql_pp : aeql P ty .nilp .nilp = none := by unfold aeql; cases P.underlying ty with | none => rfl | some u => cases u <;> rfl
@[simp] theorem bcmp_nn {op : BinOp} : bcmp P op ty .nils .nils = none := by cases op <;> rfl
@[simp] theorem bcmp_pp {op : BinOp} : bcmp P op ty .nilp .nilp = none := by cases op <;> rfl
end
end Go.YtmmibaaidfcbhaaAbs
/- depotbook.Same of texts; what RsTells needs. -/
namespace Go.Proofs.Ytmmibaaidfcbhaa
open Go Go.YtmmibaaidfcbhaaAbs
set_option linter.unusedSimpArgs false
set_option linter.unusedVariables false
set_option maxRecDepth 4000

theorem sameT_ok (k : Nat) (h : Heap) (v1 v2 : AV) (E : Mt) (n : Nat) (S1 : Sl 1 n h v1 (E.map tx)) (S2 : Sl 1 n h v2 (E.map tx)) (hk : n + 2 < k) (hm : n < 1000000) :
    acall Try.prog (k + 1) 27 [v1, v2] h = some (.bool true, h) := by
  rw [acall_text [] Try.func27 (by kernel_rfl)]
  refine afuncT_of rfl (by simp [Try.f27]) ?_
  have l1 := S1.len'
  have l2 := S2.len'
  have hl := S1.length
  rw [List.length_map, Nat.mul_one] at hl
  simp [Try.f27, l1, l2]
  refine W_loop (fun m st => ∃ j, m = n - j ∧ j ≤ n ∧ st.h = h ∧ st.t.get 0 = some v1 ∧ st.t.get 1 = some v2 ∧ st.t.get 5 = some (.int .i64 (j : Nat))) n (by omega) ⟨0, by simp⟩ ?_
  rintro m ⟨t, h'⟩ ⟨j, rfl, hj, rfl, q0, q1, q5⟩
  simp only at q0 q1 q5 S1 S2
  by_cases hlt : j < n
  · obtain ⟨i1, d1, _⟩ := txs_at S1 (i := j) (by omega)
    obtain ⟨i2, d2, _⟩ := txs_at S2 (i := j) (by omega)
    simp [q0, q1, q5, l1, isLt (show (j : Int) < (n : Int) by omega), i1, d1, i2, d2, tx, i64w ((j : Int) + 1) (by omega) (by omega)]
    exact ⟨n - (j + 1), by omega, j + 1, rfl, by omega, by simp⟩
  · simp [q0, q1, q5, l1, isLe (show (n : Int) ≤ (j : Int) by omega)]
theorem size_no (f : Nat) {h : Heap} {b k m : Nat} {rv : AV} (C : Cd h (.ptr b 0) b k m rv) (n : Int) (hn : n < 0) : acall Try.prog (f + 1) 23 [.ptr b 0, .int .i64 n] h = some (.int .i64 0, h) := by
  rw [acall_text [] Try.func23 (by kernel_rfl)]
  refine afuncT_of rfl (by simp [Try.f23]) ?_
  simp [Try.f23, isLe (show n ≤ 0 by omega)]
theorem nn_sl {n : Nat} {h : Heap} {v : AV} {l : List AV} (S : Sl 1 n h v l) (hn : 0 < n) : aeql Try.prog 53 v .nils = some false := by
  rcases S with ⟨_, _, e⟩ | ⟨_, _, e⟩ | ⟨b, i, cap, ex, c, ro, rfl, _⟩
  · omega
  · omega
  · simp [aeql, Try.underlying53]
section
variable {t : Tr AV} {d : Option Tmp} {tv v : TypeId} {x y : Operand} {pos : String} {af : Array Edge} {g : Option (Nat × Bool)}
theorem nil_rows (hx : ev t x = .nils) (hy : ev t y = .nils) : aback0 Try.prog t ⟨d, .binOp .eql 53 x y tv, v, pos, af, g⟩ = some (.bool true) := nils_eql hx hy Try.underlying53
theorem nil_code (hx : ev t x = .nilp) : aback0 Try.prog t ⟨d, .binOp .eql 22 x (.const (.pointer none)) tv, v, pos, af, g⟩ = some (.bool true) := nilp_eql hx rfl Try.underlying22
end
end Go.Proofs.Ytmmibaaidfcbhaa
/- The document's Picked. -/
namespace Go.Proofs.Ytmmibaaidfcbhaa
open Go Go.YtmmibaaidfcbhaaAbs
set_option linter.unusedSimpArgs false
set_option linter.unusedVariables false
set_option maxRecDepth 4000

def errP (k m : Nat) (size : Int) (l : List Pt) : Int :=
  if size < 0 ∨ 1048576 < size then 1
  else if l.all (okPt k m (szN k size.toNat)) = false then 4
  else if (pickP k l).length < k then 3 else 0
def seenB (acc : List Pt) : List AV := (List.range 12).map fun (i : Nat) => .bool (seenP acc (i : Int))
theorem seenB_at {acc : List Pt} {a : Nat} (h : a < 12) : (seenB acc)[a]? = some (.bool (seenP acc (a : Int))) := by simp [seenB, h]
theorem seenB_set {acc : List Pt} {p : Pt} {a : Nat} (h : a < 12) (e : p.1 = (a : Int)) : (seenB acc).set a (.bool true) = seenB (acc ++ [p]) := by
  refine List.ext_getElem? fun i => ?_
  by_cases hi : i < 12
  · rw [seenB_at hi]
    by_cases q : a = i
    · subst q
      rw [List.getElem?_set_self (by simp [seenB, h])]
      have : seenP (acc ++ [p]) (a : Int) = true := by
        unfold seenP
        rw [List.any_append]
        simp [e]
      rw [this]
    · rw [List.getElem?_set_ne q, seenB_at hi]
      have : seenP (acc ++ [p]) (i : Int) = seenP acc (i : Int) := by
        unfold seenP
        rw [List.any_append]
        have : ¬ p.1 = (i : Int) := by omega
        simp [this]
      rw [this]
  · rw [List.getElem?_eq_none (by simp [seenB]; omega), List.getElem?_eq_none (by simp [seenB]; omega)]
theorem push_one {h : Heap} {v : AV} {l : List Pt} (V : Mine 2 l.length h v (cat ptC l)) (p : Pt) (hl : l.length < 100000) :
    ∃ v' h', aappend Try.prog (h.new (.cells (ptC p) false)) 34 34 v (.sl h.next 0 1 1 2 true) = some (v', h') ∧ Mine 2 (l ++ [p]).length h' v' (cat ptC (l ++ [p])) ∧ From h v v' ∧ Keep h.next (Has v) h h' := by
  obtain ⟨v', h', a1, a2, a3, a4⟩ := V.push (P := Try.prog) el34 (a := ptC p) (ex := true) (ptC_one p) rfl (by omega)
  exact ⟨v', h', a1, by rw [List.length_append, cat_append, cat_one]; exact a2, a3, a4⟩
set_option maxHeartbeats 8000000 in
theorem picked_ok (f : Nat) (h : Heap) (k m : Nat) (k1 : 1 ≤ k) (k8 : k ≤ 8) (km : m + k ≤ 12) (size : Int) (hs1 : -9223372036854775808 ≤ size) (lv : AV) (l : List Pt) (S : Sl 2 l.length h lv (cat ptC l)) (hl : l.length + 1000 < f) (hm : l.length < 100000) :
    ∃ v' h', acall Try.prog (f + 4) 34 [.int .i64 (k : Nat), .int .i64 (m : Nat), .int .i64 size, lv] h = some (v', h') ∧ ∃ ov, v' = .tup [ov, .int .i64 (errP k m size l)] ∧ (errP k m size l = 0 → Sl 2 (pickP k l).length h' ov (cat ptC (pickP k l))) ∧ Keep h.next nob h h' := by
  rw [acall_text [8] Try.func34 (by kernel_rfl)]
  refine afuncT_ex rfl (by simp [Try.f34]) ?_
  obtain ⟨cv, h1, E1, Nc⟩ := rcauchy_ok f (by omega) h k m k1 k8 km
  obtain ⟨_, Rc⟩ := Nc.rd
  have nn := nn_sl Rc.sl (by simp [cauM]; omega)
  have K1 := Nc.kb
  by_cases c0 : size < 0
  · have e : errP k m size l = 1 := by unfold errP; rw [if_pos (.inl c0)]
    rw [e]
    simp [Try.f34, E1, nn, isLt c0]
    exact K1
  by_cases c1 : 1048576 < size
  · have e : errP k m size l = 1 := by unfold errP; rw [if_pos (.inr c1)]
    rw [e]
    simp [Try.f34, E1, nn, isLe (show 0 ≤ size by omega), isLt c1]
    exact K1
  obtain ⟨n, rfl⟩ : ∃ n : Nat, size = (n : Int) := ⟨size.toNat, by omega⟩
  obtain ⟨D, hD⟩ : ∃ D, errP k m (n : Int) l = D := ⟨_, rfl⟩
  have ed : D = if l.all (okPt k m (szN k n)) = false then 4 else if (pickP k l).length < k then 3 else 0 := by
    rw [← hD]
    unfold errP
    rw [if_neg (by omega), Int.toNat_natCast]
  rw [hD]
  obtain ⟨sz, hsz⟩ : ∃ sz, szN k n = sz := ⟨_, rfl⟩
  rw [hsz] at ed
  have K2 : Keep h1.next nob h1 (h1.new (.cells (seenB []) false)) := Keep.new (Nat.le_refl _) _
  have eh : h1.new (.cells (List.replicate 12 (AV.bool false)) false) = h1.new (.cells (seenB []) false) := rfl
  have eh' : h1.new (.cells [AV.bool false, AV.bool false, AV.bool false, AV.bool false, AV.bool false, AV.bool false, AV.bool false, AV.bool false, AV.bool false, AV.bool false, AV.bool false, AV.bool false] false) = h1.new (.cells (seenB []) false) := rfl
  have g2 : (h1.new (.cells (seenB []) false)).get h1.next = some (.cells (seenB []) false) := get_new_self _ _
  have n2 : h1.next < (h1.new (.cells (seenB []) false)).next := Nat.lt_succ_self _
  have snm := i64w ((k : Int) + (m : Int)) (by omega) (by omega)
  simp [Try.f34, E1, nn, isLe (show 0 ≤ (n : Int) by omega), isLe (show (n : Int) ≤ 1048576 by omega), aalloc]
  rw [eh']
  obtain ⟨h2, e2⟩ : ∃ h2, h1.new (.cells (seenB []) false) = h2 := ⟨_, rfl⟩
  obtain ⟨sb, hsb⟩ : ∃ sb, h1.next = sb := ⟨_, rfl⟩
  rw [e2] at g2 n2 K2 ⊢
  have hk1 := K1.1
  rw [hsb] at g2 n2 hk1
  have K02 : Keep h.next nob h h2 := K1.trans (K2.weak K1.1 fun _ _ q => q)
  refine W_loop (fun mm st => ∃ (i : Nat) (ov : AV), mm = l.length - i ∧ i ≤ l.length ∧ (∀ j p, j < i → l[j]? = some p → okPt k m sz p = true) ∧ st.t.get 0 = some (.int .i64 (k : Nat)) ∧ st.t.get 1 = some (.int .i64 (m : Nat)) ∧ st.t.get 2 = some (.int .i64 (n : Nat)) ∧ st.t.get 3 = some lv ∧ st.t.get 10 = some ov ∧ st.t.get 11 = some (.ptr sb 0) ∧ st.t.get 12 = some (.int .i64 (i : Nat)) ∧
      Mine 2 ((l.take i).foldl (stepP k) []).length st.h ov (cat ptC ((l.take i).foldl (stepP k) [])) ∧ (∀ d, Has ov d → h.next ≤ d ∧ d ≠ sb) ∧ st.h.get sb = some (.cells (seenB ((l.take i).foldl (stepP k) [])) false) ∧ sb < st.h.next ∧ Keep h.next nob h st.h) l.length (by omega)
    ⟨0, .nils, by omega, by omega, (fun j p hj => absurd hj (Nat.not_lt_zero _)), by simp, by simp, by simp, by simp, by simp, by simp [hsb], by simp, Mine.nil 2 _, (fun d hd => by cases hd), g2, n2, K02⟩ ?_
  rintro mm ⟨t, h3⟩ ⟨i, ov, rfl, hi, hok, q0, q1, q2, q3, q10, q11, q12, V, F, sg, sn, K3⟩
  simp only at q0 q1 q2 q3 q10 q11 q12 V sg sn K3
  have S3 := S.ext K3
  have ll := S3.len'
  by_cases hlt : i < l.length
  · obtain ⟨p, hp⟩ : ∃ p, l[i]? = some p := ⟨l[i], by simp⟩
    obtain ⟨ix, ldp, ldi, lds, lvlt⟩ := pt_at S3 hp
    have hstep := fold_take (k := k) hp
    have hle := fold_le (k := k) (l := l.take i) (acc := []) (Nat.zero_le _)
    obtain ⟨acc, hacc⟩ : ∃ acc, (l.take i).foldl (stepP k) [] = acc := ⟨_, rfl⟩
    rw [hacc] at V sg hstep hle
    have Ez := rsize_ok (f + 2) h3 k n k1 k8 (by omega)
    rw [hsz] at Ez
    have ag : Agree h3.next h3 h3 := fun _ _ => rfl
    have bad : okPt k m sz p = false → D = 4 := fun q => by
      rw [ed, if_pos]
      cases hz : l.all (okPt k m sz) with
      | false => rfl
      | true =>
        rw [List.all_eq_true] at hz
        rw [hz p (List.mem_of_getElem? hp)] at q
        cases q
    by_cases c1 : p.1 < 0
    · rw [bad (by unfold okPt; simp; omega)]
      simp [q0, q1, q2, q3, q10, q11, q12, ll, isLt (show (i : Int) < (l.length : Int) by omega)]
      refine W_split 27 h3.next (by rfl) (by kernel_rfl) (by rfl) ?_
      dsimp only [List.take, List.drop]
      simp [obl, mayEff, mayRead, sameAV, q0, q1, q2, q3, q10, q11, q12, ix, ldi, lvlt, isLt c1]
      exact K3
    by_cases c2 : ((k + m : Nat) : Int) ≤ p.1
    · rw [bad (by unfold okPt; simp; omega)]
      simp [q0, q1, q2, q3, q10, q11, q12, ll, isLt (show (i : Int) < (l.length : Int) by omega)]
      refine W_split 27 h3.next (by rfl) (by kernel_rfl) (by rfl) ?_
      dsimp only [List.take, List.drop]
      simp [obl, mayEff, mayRead, sameAV, q0, q1, q2, q3, q10, q11, q12, ix, ldi, lvlt, isLe (show 0 ≤ p.1 by omega), snm, isLe (show (k : Int) + (m : Int) ≤ p.1 by omega)]
      exact K3
    by_cases c3 : p.2.size = sz
    rotate_left
    · have c3' : ¬ ((p.2.size : Nat) : Int) = (sz : Int) := by omega
      rw [bad (by unfold okPt; simp; omega)]
      simp [q0, q1, q2, q3, q10, q11, q12, ll, isLt (show (i : Int) < (l.length : Int) by omega)]
      refine W_split 27 h3.next (by rfl) (by kernel_rfl) (by rfl) ?_
      dsimp only [List.take, List.drop]
      simp [obl, mayEff, mayRead, sameAV, q0, q1, q2, q3, q10, q11, q12, ix, ldi, lvlt, isLe (show 0 ≤ p.1 by omega), snm, isLt (show p.1 < (k : Int) + (m : Int) by omega), lds, Ez, ag, c3, c3']
      exact K3
    obtain ⟨a, ha⟩ : ∃ a : Nat, p.1 = (a : Int) := ⟨p.1.toNat, by omega⟩
    have ha12 : a < 12 := by omega
    have hok' : ∀ j p', j < i + 1 → l[j]? = some p' → okPt k m sz p' = true := fun j p' hj hp' => by
      by_cases hji : j = i
      · rw [hji, hp] at hp'
        cases hp'
        unfold okPt
        simp
        exact ⟨by omega, by omega, c3⟩
      · exact hok j p' (by omega) hp'
    have ixs : aindex Try.prog 86 (.ptr sb 0) (.int .i64 (a : Nat)) = some (.ptr sb a) := by
      simp [aindex, Try.underlying86]
      omega
    have ldb : aload Try.prog h3 4 sb a = some (.bool (seenP acc (a : Int))) := ldc sg ta4 (seenB_at ha12)
    have lo := V.sl.len'
    rw [ha] at ldi
    have rowp : (AV.agg (ptC p)).row1 = some (ptC p) := row1_agg (ptC_one p)
    have onep : (∀ x, x ∈ ptC p → x.one = true) = True := eq_true (List.all_eq_true.1 (ptC_one p))
    have stay : stepP k acc p = acc → ((l.take (i + 1)).foldl (stepP k) []) = acc := fun q => by rw [hstep, q]
    cases hs : seenP acc (a : Int) with
    | true =>
      have e1 := stay (by unfold stepP; rw [ha, hs, if_pos (.inl rfl)])
      rw [hs] at ldb
      simp [q0, q1, q2, q3, q10, q11, q12, ll, isLt (show (i : Int) < (l.length : Int) by omega)]
      refine W_split 27 h3.next (by rfl) (by kernel_rfl) (by rfl) ?_
      dsimp only [List.take, List.drop]
      simp [obl, mayEff, mayRead, sameAV, q0, q1, q2, q3, q10, q11, q12, ix, ldi, lvlt, isLe (show (0 : Int) ≤ (a : Int) by omega), snm, isLt (show (a : Int) < (k : Int) + (m : Int) by omega), lds, Ez, ag, c3, ixs, ldb, i64w ((i : Int) + 1) (by omega) (by omega)]
      refine ⟨l.length - (i + 1), by omega, i + 1, rfl, by omega, fun j a' b' hj hp' => hok' j (a', b') hj hp', by simp, ?_, F, ?_, sn, K3⟩
      · rw [e1]; exact V
      · rw [e1]; exact sg
    | false =>
      rw [hs] at ldb
      by_cases hfull : acc.length < k
      · have est : stepP k acc p = acc ++ [p] := by unfold stepP; rw [ha, hs, if_neg (by rintro (q | q); cases q; omega)]
        obtain ⟨ov', h4, a1, V4, F4, K4⟩ := push_one V p (by omega)
        have g4 : h4.get sb = some (.cells (seenB acc) false) := by rw [K4.2 sb sn (fun q => (F _ q).2 rfl)]; exact sg
        have K04 : Keep h.next nob h h4 := K3.trans ⟨K4.1, fun d hd _ => K4.2 d (Nat.lt_of_lt_of_le hd K3.1) fun q => by have := (F d q).1; omega⟩
        have S4 := S.ext K04
        obtain ⟨ix4, _, ldi4, _, _⟩ := pt_at S4 hp
        rw [ha] at ldi4
        have lay5 : alay h4 sb a [.bool true] = some (h4.set sb (.cells (seenB (acc ++ [p])) false)) := by
          unfold alay
          rw [g4]
          simp only
          rw [layAt_set (by simp [seenB, ha12]), seenB_set ha12 ha]
        have hk4 := K4.1
        have hnb : ∀ d, Has ov' d → h.next ≤ d ∧ d ≠ sb := fun d hd => by
          rcases F4 d hd with z | z
          · exact F d z
          · have := K3.1; exact ⟨by omega, by omega⟩
        have V5 : Mine 2 (acc ++ [p]).length (h4.set sb (.cells (seenB (acc ++ [p])) false)) ov' (cat ptC (acc ++ [p])) := V4.keep (Keep.set (F := fun d => d = sb) (.inl rfl) _) (fun d hd => (hnb d hd).2)
        have K05 : Keep h.next nob h (h4.set sb (.cells (seenB (acc ++ [p])) false)) := K04.trans (Keep.set (.inr (by omega)) _)
        have g5 : (h4.set sb (.cells (seenB (acc ++ [p])) false)).get sb = some (.cells (seenB (acc ++ [p])) false) := get_set_self _ _ _
        have e1 : ((l.take (i + 1)).foldl (stepP k) []) = acc ++ [p] := by rw [hstep, est]
        simp [q0, q1, q2, q3, q10, q11, q12, ll, isLt (show (i : Int) < (l.length : Int) by omega)]
        refine W_split 27 h3.next (by rfl) (by kernel_rfl) (by rfl) ?_
        dsimp only [List.take, List.drop]
        simp [obl, mayEff, mayRead, sameAV, q0, q1, q2, q3, q10, q11, q12, ix, ldi, lvlt, isLe (show (0 : Int) ≤ (a : Int) by omega), snm, isLt (show (a : Int) < (k : Int) + (m : Int) by omega), lds, Ez, ag, c3, ixs, ldb, lo, isLt (show (acc.length : Int) < (k : Int) by omega), ldp, onep, aalloc, afill, rowp, ptC_len, a1, ix4, ldi4, lay5, i64w ((i : Int) + 1) (by omega) (by omega)]
        refine ⟨l.length - (i + 1), by omega, i + 1, rfl, by omega, fun j a' b' hj hp' => hok' j (a', b') hj hp', by simp, ?_, hnb, ?_, by first | omega | (show sb < h4.next; omega), K05⟩
        · rw [e1]; exact V5
        · rw [e1]
      · have e1 := stay (by unfold stepP; rw [if_pos (.inr (by omega))])
        simp [q0, q1, q2, q3, q10, q11, q12, ll, isLt (show (i : Int) < (l.length : Int) by omega)]
        refine W_split 27 h3.next (by rfl) (by kernel_rfl) (by rfl) ?_
        dsimp only [List.take, List.drop]
        simp [obl, mayEff, mayRead, sameAV, q0, q1, q2, q3, q10, q11, q12, ix, ldi, lvlt, isLe (show (0 : Int) ≤ (a : Int) by omega), snm, isLt (show (a : Int) < (k : Int) + (m : Int) by omega), lds, Ez, ag, c3, ixs, ldb, lo, isLe (show (k : Int) ≤ (acc.length : Int) by omega), i64w ((i : Int) + 1) (by omega) (by omega)]
        refine ⟨l.length - (i + 1), by omega, i + 1, rfl, by omega, fun j a' b' hj hp' => hok' j (a', b') hj hp', by simp, ?_, F, ?_, sn, K3⟩
        · rw [e1]; exact V
        · rw [e1]; exact sg
  · have hall : l.all (okPt k m sz) = true := by
      rw [List.all_eq_true]
      intro p hp
      obtain ⟨j, hj⟩ := List.getElem?_of_mem hp
      exact hok j p (by have := (List.getElem?_eq_some_iff.1 hj).1; omega) hj
    have e : i = l.length := by omega
    rw [e, List.take_length] at V
    have V : Mine 2 (pickP k l).length h3 ov (cat ptC (pickP k l)) := V
    have lo := V.sl.len'
    rw [if_neg (by rw [hall]; simp)] at ed
    by_cases h3' : (pickP k l).length < k
    · rw [if_pos h3'] at ed
      rw [ed]
      simp [q0, q1, q2, q3, q10, q11, q12, ll, isLe (show (l.length : Int) ≤ (i : Int) by omega), lo, isLt (show ((pickP k l).length : Int) < (k : Int) by omega)]
      exact K3
    · rw [if_neg h3'] at ed
      rw [ed]
      simp [q0, q1, q2, q3, q10, q11, q12, ll, isLe (show (l.length : Int) ≤ (i : Int) by omega), lo, isLe (show (k : Int) ≤ ((pickP k l).length : Int) by omega)]
      exact ⟨V.sl, K3⟩
end Go.Proofs.Ytmmibaaidfcbhaa
/- The document's Decode and Rebuild. -/
namespace Go.Proofs.Ytmmibaaidfcbhaa
open Go Go.YtmmibaaidfcbhaaAbs
set_option linter.unusedSimpArgs false
set_option linter.unusedVariables false
set_option maxRecDepth 4000

theorem flat_get {n : Nat} : ∀ {M : Mt} {j x : Nat}, RowsN n M → j < M.length → x < n → M.flatten[j * n + x]? = (rowA M j)[x]?
  | [], j, x, _, hj, _ => by simp at hj
  | r :: M, 0, x, h, _, hx => by
    have := h.hd
    rw [Nat.zero_mul, Nat.zero_add, List.flatten_cons, List.getElem?_append_left (by omega)]; rfl
  | r :: M, j + 1, x, h, hj, hx => by
    have e := h.hd
    have ih := flat_get (j := j) (x := x) h.tl (by simpa using hj) hx
    rw [List.flatten_cons, List.getElem?_append_right (by rw [e, Nat.succ_mul]; omega), e, show (j + 1) * n + x - n = j * n + x by rw [Nat.succ_mul]; omega, ih]
    rfl
theorem errP_dec {k m : Nat} {size : Int} {l : List Pt} : (errP k m size l ≠ 0 → decP k m size l = ([], errP k m size l)) ∧ (errP k m size l = 0 → ¬ (size < 0 ∨ 1048576 < size) ∧ l.all (okPt k m (szN k size.toNat)) = true ∧ ¬ (pickP k l).length < k) := by
  unfold errP decP
  split
  · exact ⟨fun _ => rfl, fun q => absurd q (by decide)⟩
  · split
    · exact ⟨fun _ => rfl, fun q => absurd q (by decide)⟩
    · split
      · exact ⟨fun _ => rfl, fun q => absurd q (by decide)⟩
      · rename_i h1 h2 h3
        exact ⟨fun q => absurd rfl q, fun _ => ⟨h1, by simpa using h2, h3⟩⟩
set_option maxHeartbeats 8000000 in
theorem rdec_ok (f : Nat) (h : Heap) (k m : Nat) (k1 : 1 ≤ k) (k8 : k ≤ 8) (km : m + k ≤ 12) (size : Int) (hs1 : -9223372036854775808 ≤ size) (lv : AV) (l : List Pt) (S : Sl 2 l.length h lv (cat ptC l)) (hl : l.length + 4000 < f) (hm : l.length < 100000) (hb : ∀ p, p ∈ l → p.2.size ≤ 400) :
    ∃ v' h', acall Try.prog (f + 6) 18 [.int .i64 (k : Nat), .int .i64 (m : Nat), .int .i64 size, lv] h = some (v', h') ∧ v' = .tup [tx (decP k m size l).1, .int .i64 (decP k m size l).2] ∧ Keep h.next nob h h' := by
  rw [acall_text [22] Try.func18 (by kernel_rfl)]
  refine afuncT_ex rfl (by simp [Try.f18]) ?_
  obtain ⟨_, h1, E1, ov, rfl, hov, K1⟩ := picked_ok (f + 1) h k m k1 k8 km size hs1 lv l S (by omega) hm
  obtain ⟨ne, ok⟩ := errP_dec (k := k) (m := m) (size := size) (l := l)
  by_cases he : errP k m size l = 0
  rotate_left
  · rw [ne he]
    generalize errP k m size l = e at *
    simp [Try.f18, E1, he]
    exact ⟨rfl, K1⟩
  obtain ⟨o1, o2, o3⟩ := ok he
  rw [he] at E1
  have So := hov he
  obtain ⟨n, rfl⟩ : ∃ n : Nat, size = (n : Int) := ⟨size.toNat, by omega⟩
  rw [Int.toNat_natCast] at o2
  have ed : decP k m (n : Int) l = if ((wholeP k (szN k n) (pickP k l)).drop n).all (fun x => decide (x = 0)) = false then ([], 4) else ((wholeP k (szN k n) (pickP k l)).take n, 0) := by
    unfold decP
    rw [if_neg o1, Int.toNat_natCast, if_neg (by rw [o2]; simp), if_neg o3]
  obtain ⟨q1, q2⟩ := szN_fits (k := k) (n := n) k1
  have q3 := szN_le (k := k) (n := n) k1
  obtain ⟨sz, hsz⟩ : ∃ sz, szN k n = sz := ⟨_, rfl⟩
  rw [hsz] at q1 q2 q3 ed o2
  obtain ⟨D, hD⟩ : ∃ D, decP k m (n : Int) l = D := ⟨_, rfl⟩
  rw [hD] at ed ⊢
  have hall : allIn k m sz l := allIn_iff.1 o2
  obtain ⟨cv, h2, E2, Nc⟩ := rcauchy_ok (f + 2) (by omega) h1 k m k1 k8 km
  obtain ⟨rsc, Rc⟩ := Nc.rd
  have So2 := So.ext Nc.kb
  obtain ⟨c, hc⟩ : ∃ c, pickP k l = c := ⟨_, rfl⟩
  have hcl := pick_le (k := k) l
  have hcn := sel_nodup hall
  have hcs : ∀ p, p ∈ c → p ∈ l := fun p hp => pick_sub (by rw [hc]; exact hp)
  rw [hc] at ed So2 hcl hcn o3
  have hck : c.length = k := by omega
  obtain ⟨A, hA⟩ : ∃ A, (c.map fun p => cauR k p.1.toNat) = A := ⟨_, rfl⟩
  have lA : A.length = k := by rw [← hA]; simp [hck]
  simp [Try.f18, E1, E2]
  refine W_cutLoop 0 (fun st => ∃ rv rs, st.t.get 0 = some (.int .i64 (k : Nat)) ∧ st.t.get 2 = some (.int .i64 (n : Nat)) ∧ st.t.get 10 = some ov ∧ st.t.get 13 = some rv ∧ Lst h2 st.h rv rs A) ?_ ?_
  · refine W_loop (fun mm st => ∃ (i : Nat) (rv : AV) (rs : List AV), mm = k - i ∧ i ≤ k ∧ st.t.get 0 = some (.int .i64 (k : Nat)) ∧ st.t.get 2 = some (.int .i64 (n : Nat)) ∧ st.t.get 10 = some ov ∧ st.t.get 12 = some cv ∧ st.t.get 13 = some rv ∧ st.t.get 14 = some (.int .i64 (i : Nat)) ∧ Lst h2 st.h rv rs (A.take i)) k (by omega)
      ⟨0, .nils, [], by omega, by omega, by simp, by simp, by simp, by simp, by simp, by simp, Lst.nil h2⟩ ?_
    rintro mm ⟨t, h3⟩ ⟨i, rv, rs, rfl, hi, q0, q2', q10, q12, q13, q14, L⟩
    simp only at q0 q2' q10 q12 q13 q14 L
    by_cases hik : i < k
    · obtain ⟨p, hp⟩ : ∃ p, c[i]? = some p := ⟨c[i], by simp⟩
      obtain ⟨ix, _, ldi, _, _⟩ := pt_at (So2.ext L.kb) hp
      have hpl := hall p (hcs p (List.mem_of_getElem? hp))
      obtain ⟨a, ha⟩ : ∃ a : Nat, p.1 = (a : Int) := ⟨p.1.toNat, by omega⟩
      have Rc3 := Rc.ext L.kb
      obtain ⟨row, hr, Sr⟩ := Rc.get (i := a) (by simp [cauM]; omega)
      have hcr : rowA (cauM k m) a = cauR k a := rowA_get (cauM_get (by omega))
      rw [hcr] at Sr
      have ixr := Rc3.sl.idx1 (P := Try.prog) Try.underlying53 ts47 (j := a) (by simp [cauM]; omega) .i64
      have ldr := Rc3.sl.ld (P := Try.prog) ta47 hr
      obtain ⟨rv', h4, a4, L4⟩ := L.push Sr (by rw [List.length_take]; omega)
      have hAi : A[i]? = some (cauR k a) := by rw [← hA, List.getElem?_map, hp, Option.map_some, ha, Int.toNat_natCast]
      rw [takeP hAi] at L4
      have rwr := row1_one (show row.one = true from Sr.oneV)
      rw [ha] at ldi
      simp [q0, q2', q10, q12, q13, q14, isLt (show (i : Int) < (k : Int) by omega), ix, ldi, ixr, ldr, aalloc, afill, rwr, show row.one = true from Sr.oneV, a4, i64w ((i : Int) + 1) (by omega) (by omega)]
      exact ⟨k - (i + 1), by omega, i + 1, rfl, by omega, by simp, _, L4⟩
    · have e : i = A.length := by omega
      rw [e, List.take_length] at L
      simp [q0, q2', q10, q12, q13, q14, isLe (show (k : Int) ≤ (i : Int) by omega)]
      exact ⟨_, L⟩
  rintro ⟨t, h3⟩ ⟨rv, rs, q0, q2', q10, q13, L⟩
  simp only at q0 q2' q10 q13 L
  -- the inverse
  obtain ⟨B, eB, rB, lB, back⟩ := dec_back (k := k) (sz := sz) (by omega) (sel := selP c) (by simp [selP, hck]) hcn (fun s hs => by
    obtain ⟨p, hp, rfl⟩ := List.mem_map.1 hs
    have := hall p (hcs p hp)
    omega)
  have hAs := sel_map k c
  rw [← hAs, hA] at eB
  have rA : RowsN k A := by rw [← hA, hAs]; exact selA_rows _
  obtain ⟨vi, h5, B', b', E5, hp5, K5, N5, _⟩ := rinvert_ok (f + 1) (by omega) h3 rv _ A L.rd
  rw [sq_inv rA lA k1 (by omega), eB] at hp5
  cases hp5
  obtain ⟨rsi, Ri⟩ := N5 rfl
  have So5 := (So2.ext L.kb).ext K5
  have E6 := rsize_ok (f + 4) h5 k n k1 k8 (by omega)
  rw [hsz] at E6
  obtain ⟨Dm, hDm⟩ : ∃ Dm, (c.map fun p => bl p.2) = Dm := ⟨_, rfl⟩
  have rD : RowsN sz Dm := fun r hr => by
    rw [← hDm] at hr
    obtain ⟨p, hp, rfl⟩ := List.mem_map.1 hr
    rw [bl_len]
    exact (hall p (hcs p hp)).2.2
  have lD : Dm.length = k := by rw [← hDm]; simp [hck]
  have hsz4 : sz ≤ 400 := by
    cases c with
    | nil => simp at hck; omega
    | cons p c =>
      have := hcs p (List.mem_cons_self ..)
      have a := (hall p this).2.2
      have b := hb p this
      omega
  have hwh : wholeP k sz c = (mtT sz B Dm).flatten := by unfold wholeP; rw [hA, eB, hDm]
  have hN8 : k * sz ≤ 8 * sz := Nat.mul_le_mul_right _ k8
  obtain ⟨N, hN⟩ : ∃ N, k * sz = N := ⟨_, rfl⟩
  rw [hN] at q1 q2 hN8
  have sN : fwrap .i64 ((k : Int) * (sz : Int)) = (N : Nat) := by rw [← Int.natCast_mul, hN, i64w _ (by omega) (by omega)]
  have rM : RowsN sz (mtT sz B Dm) := mtT_rows rD B
  obtain ⟨W, hW⟩ : ∃ W, (mtT sz B Dm).flatten = W := ⟨_, rfl⟩
  have lW : W.length = N := by rw [← hW, flat_len rM, mtT_lenR, lB, hN]
  have hWg : ∀ j x, j < k → x < sz → W[j * sz + x]? = some (dot (rowA B j) (colM Dm x)) := fun j x hj hx => by
    rw [← hW, flat_get rM (by rw [mtT_lenR, lB]; exact hj) hx, mtT_rowR (by omega)]
    have e := lc_get x rD (u := rowA B j)
    have hl := lc_len (u := rowA B j) rD
    rw [List.getElem?_eq_getElem (by omega)] at e ⊢
    rw [← e]; rfl
  rw [hwh, hW] at ed
  have K05 : Keep h.next nob h h5 := ((K1.trans (Nc.kb.weak K1.1 fun _ _ q => q)).trans (L.kb.weak (Nat.le_trans K1.1 Nc.kb.1) fun _ _ q => q)).trans (K5.weak (Nat.le_trans K1.1 (Nat.le_trans Nc.kb.1 L.kb.1)) fun _ _ q => q)
  have Mz := new_row h5 (zv N) N (zv_len N)
  rw [zv_bb] at Mz
  have Kz : Keep h5.next nob h5 (h5.new (.cells (List.replicate N (.int .u8 0)) false)) := Keep.new (Nat.le_refl _) _
  obtain ⟨wv, hwv⟩ : ∃ wv, AV.sl h5.next 0 N N 1 true = wv := ⟨_, rfl⟩
  have Fz : ∀ d, Has wv d → h5.next ≤ d := fun d hd => by rw [← hwv] at hd; cases hd; exact Nat.le_refl _
  have lw : ∀ (k : Heap) (e : TypeId), vlen' k wv (some (.slice e)) = some (.int .i64 (N : Nat)) := fun k e => by rw [← hwv]; rfl
  have hmW : W.length = (zv N).length := by simp [lW]
  simp [q0, q2', q10, q13, E5, E6, sN, aalloc_make (P := Try.prog) el47 (z := [.int .u8 0]) az5 rfl rfl N N (Nat.le_refl _) (by omega), flat1]
  rw [hwv] at Mz ⊢
  refine W_cutLoop 2 (fun st => st.t.get 2 = some (.int .i64 (n : Nat)) ∧ st.t.get 18 = some wv ∧ Mine 1 N st.h wv (W.map bb) ∧ Keep h5.next nob h5 st.h) ?_ ?_
  · refine W_loop (fun mm st => ∃ (j : Nat), mm = k - j ∧ j ≤ k ∧ st.t.get 0 = some (.int .i64 (k : Nat)) ∧ st.t.get 2 = some (.int .i64 (n : Nat)) ∧ st.t.get 10 = some ov ∧ st.t.get 15 = some vi ∧ st.t.get 17 = some (.int .i64 (sz : Nat)) ∧ st.t.get 18 = some wv ∧ st.t.get 19 = some (.int .i64 (j : Nat)) ∧ Mine 1 N st.h wv ((mixL W (zv N) (j * sz)).map bb) ∧ Keep h5.next nob h5 st.h) k (by omega)
      ⟨0, by omega, by omega, by simp [q0], by simp [q2'], by simp [q10], by simp, by simp, by simp, by simp, by rw [Nat.zero_mul, mixL_0, zv_bb]; exact Mz, Kz⟩ ?_
    clear q0 q2' q10 q13
    rintro mm ⟨t, h6⟩ ⟨j, rfl, hj, q0, q2', q10, q15, q17, q18, q19, M6, K6⟩
    simp only at q0 q2' q10 q15 q17 q18 q19 M6 K6
    by_cases hjk : j < k
    · have hjs : j * sz + sz ≤ N := by have := mul_ge (sz := sz) hjk; rw [Nat.succ_mul, hN] at this; exact this
      obtain ⟨p, hp⟩ : ∃ p, j * sz = p := ⟨_, rfl⟩
      rw [hp] at hjs M6
      have sp : fwrap .i64 ((j : Int) * (sz : Int)) = (p : Nat) := by rw [← Int.natCast_mul, hp, i64w _ (by omega) (by omega)]
      have hlj := rB.row (k := j) (by omega)
      simp [q0, q2', q10, q15, q17, q18, q19, isLt (show (j : Int) < (k : Int) by omega)]
      refine W_cutLoop 4 (fun st => st.t.get 0 = some (.int .i64 (k : Nat)) ∧ st.t.get 2 = some (.int .i64 (n : Nat)) ∧ st.t.get 10 = some ov ∧ st.t.get 15 = some vi ∧ st.t.get 17 = some (.int .i64 (sz : Nat)) ∧ st.t.get 18 = some wv ∧ st.t.get 19 = some (.int .i64 (j : Nat)) ∧ Mine 1 N st.h wv ((mixL W (zv N) (p + sz)).map bb) ∧ Keep h5.next nob h5 st.h) ?_ ?_
      · refine W_loop (fun mm st => ∃ (x : Nat), mm = sz - x ∧ x ≤ sz ∧ st.t.get 0 = some (.int .i64 (k : Nat)) ∧ st.t.get 2 = some (.int .i64 (n : Nat)) ∧ st.t.get 10 = some ov ∧ st.t.get 15 = some vi ∧ st.t.get 17 = some (.int .i64 (sz : Nat)) ∧ st.t.get 18 = some wv ∧ st.t.get 19 = some (.int .i64 (j : Nat)) ∧ st.t.get 20 = some (.int .i64 (x : Nat)) ∧ Mine 1 N st.h wv ((mixL W (zv N) (p + x)).map bb) ∧ Keep h5.next nob h5 st.h) sz (by omega)
          ⟨0, by omega, by omega, by simp [q0], by simp [q2'], by simp [q10], by simp [q15], by simp [q17], by simp [q18], by simp [q19], by simp, M6, K6⟩ ?_
        clear q0 q2' q10 q15 q17 q18 q19 M6 K6
        rintro mm ⟨t, h6⟩ ⟨x, rfl, hx, q0, q2', q10, q15, q17, q18, q19, q20, M6, K6⟩
        simp only at q0 q2' q10 q15 q17 q18 q19 q20 M6 K6
        by_cases hxs : x < sz
        · obtain ⟨z, hz⟩ : ∃ z, p + x = z := ⟨_, rfl⟩
          rw [hz] at M6
          have hzN : z < N := by omega
          have sz2 : fwrap .i64 ((p : Int) + (x : Int)) = (z : Nat) := by rw [i64w _ (by omega) (by omega)]; omega
          have hWz : W[z]? = some (dot (rowA B j) (colM Dm x)) := by rw [← hz, ← hp]; exact hWg j x hjk hxs
          have hz0 : (mixL W (zv N) z)[z]? = some 0 := by
            rw [mixL_get hmW (Nat.le_refl _)]
            simp [zv, hzN]
          have hcl' : (colM Dm x).length = k := by simp [colM, lD]
          have lmx : (mixL W (zv N) z).length = N := by rw [mixL_len hmW, zv_len]
          simp [q0, q2', q10, q15, q17, q18, q19, q20, isLt (show (x : Int) < (sz : Int) by omega)]
          refine W_cutLoop 6 (fun st => st.t.get 0 = some (.int .i64 (k : Nat)) ∧ st.t.get 2 = some (.int .i64 (n : Nat)) ∧ st.t.get 10 = some ov ∧ st.t.get 15 = some vi ∧ st.t.get 17 = some (.int .i64 (sz : Nat)) ∧ st.t.get 18 = some wv ∧ st.t.get 19 = some (.int .i64 (j : Nat)) ∧ st.t.get 20 = some (.int .i64 (x : Nat)) ∧ Mine 1 N st.h wv ((mixL W (zv N) (z + 1)).map bb) ∧ Keep h5.next nob h5 st.h) ?_ ?_
          · refine W_loop (fun mm st => ∃ (i : Nat), mm = k - i ∧ i ≤ k ∧ st.t.get 0 = some (.int .i64 (k : Nat)) ∧ st.t.get 2 = some (.int .i64 (n : Nat)) ∧ st.t.get 10 = some ov ∧ st.t.get 15 = some vi ∧ st.t.get 17 = some (.int .i64 (sz : Nat)) ∧ st.t.get 18 = some wv ∧ st.t.get 19 = some (.int .i64 (j : Nat)) ∧ st.t.get 20 = some (.int .i64 (x : Nat)) ∧ st.t.get 21 = some (.int .i64 (i : Nat)) ∧ Mine 1 N st.h wv (((mixL W (zv N) z).set z (dotN (rowA B j) (colM Dm x) i)).map bb) ∧ Keep h5.next nob h5 st.h) k (by omega)
              ⟨0, by omega, by omega, by simp [q0], by simp [q2'], by simp [q10], by simp [q15], by simp [q17], by simp [q18], by simp [q19], by simp [q20], by simp, by rw [show dotN (rowA B j) (colM Dm x) 0 = 0 from rfl, set_self hz0]; exact M6, K6⟩ ?_
            clear q0 q2' q10 q15 q17 q18 q19 q20 M6 K6
            rintro mm ⟨t, h6⟩ ⟨i, rfl, hi, q0, q2', q10, q15, q17, q18, q19, q20, q21, M6, K6⟩
            simp only at q0 q2' q10 q15 q17 q18 q19 q20 q21 M6 K6
            by_cases hik : i < k
            · obtain ⟨s, hs⟩ : ∃ s, dotN (rowA B j) (colM Dm x) i = s := ⟨_, rfl⟩
              rw [hs] at M6
              obtain ⟨g, hg⟩ : ∃ g, (rowA B j)[i]? = some g := ⟨(rowA B j)[i]'(by omega), by simp⟩
              obtain ⟨pp, hpp⟩ : ∃ pp, c[i]? = some pp := ⟨c[i]'(by omega), by simp⟩
              obtain ⟨ixp, _, _, lds, olt⟩ := pt_at (So5.ext K6) hpp
              have hps := (hall pp (hcs pp (List.mem_of_getElem? hpp))).2.2
              obtain ⟨y, hy⟩ : ∃ y, (bl pp.2)[x]? = some y := ⟨(bl pp.2)[x]'(by rw [bl_len]; omega), by simp⟩
              have hyd : pp.2.data[x]? = some y := by simpa [bl] using hy
              have hcy : (colM Dm x)[i]? = some y := by
                unfold colM
                rw [List.getElem?_map, ← hDm, List.getElem?_map, hpp]
                simp [hy]
              have hs1 := dotN_succ hg hcy
              rw [hs] at hs1
              have Ri6 := Ri.ext K6
              obtain ⟨r, hr, Sr⟩ := Ri6.get (i := j) (by omega)
              have ixr := Ri6.sl.idx1 (P := Try.prog) Try.underlying53 ts47 (j := j) (by omega) .i64
              have ldr := Ri6.sl.ld (P := Try.prog) ta47 hr
              have ixe := row_ix Sr (j := i) (by omega)
              have lde := row_ld Sr (j := i) (by omega)
              rw [hg, Option.getD_some] at lde
              have ixw := M6.sl.idx1 (P := Try.prog) Try.underlying47 ts5 (j := z) hzN .i64
              have ldw : aload Try.prog h6 5 wv.blk (wv.off + z) = some (.int .u8 (s.toNat : Nat)) := M6.sl.ld (P := Try.prog) (e := 5) ta5 (j := z) (x := bb s) (by rw [List.getElem?_map, List.getElem?_set_self (by omega)]; rfl)
              have mul := rmul_ok (f + 4) (by omega) h6 g y
              obtain ⟨h7, a7, M7, K7, _⟩ := M6.lay1 (j := z) (x := .int .u8 ((s ^^^ gm g y).toNat : Nat)) hzN rfl
              have e7 : (((mixL W (zv N) z).set z s).map bb).set z (.int .u8 ((s ^^^ gm g y).toNat : Nat)) = ((mixL W (zv N) z).set z (dotN (rowA B j) (colM Dm x) (i + 1))).map bb := by
                rw [hs1, ← List.set_set (a := s) (b := s ^^^ gm g y), List.map_set, List.map_set, List.map_set]; rfl
              rw [e7] at M7
              rw [UInt8.toNat_xor] at a7
              have K7' : Keep h5.next nob h5 h7 := K6.trans ⟨K7.1, fun d hd _ => K7.2 d (Nat.lt_of_lt_of_le hd K6.1) fun q => by have := Fz d q; omega⟩
              have ag : Agree h6.next h6 h6 := fun _ _ => rfl
              have wlt := M6.sl.blk_lt (by omega)
              have vlt := Ri6.sl.blk_lt (by omega)
              have rlt := Sr.blk_lt (by omega)
              have smr := Sr.same
              simp [q0, q2', q10, q15, q17, q18, q19, q20, q21, isLt (show (i : Int) < (k : Int) by omega)]
              refine W_split 29 h6.next (by rfl) (by kernel_rfl) (by rfl) ?_
              dsimp only [List.take, List.drop]
              simp [obl, mayEff, mayRead, sameAV, q0, q2', q10, q15, q17, q18, q19, q20, q21, sp, sz2, ixw, ldw, ixr, ldr, ixe, lde, ixp, lds, hyd, mul, ag, wlt, vlt, rlt, olt, smr, a7, xor_u8, i64w ((i : Int) + 1) (by omega) (by omega)]
              exact ⟨k - (i + 1), by omega, i + 1, rfl, by omega, by simp, by rw [List.map_set] at M7; exact M7, K7'⟩
            · rw [dotN_all (by omega), mixL_set hmW hWz] at M6
              simp [q0, q2', q10, q15, q17, q18, q19, q20, q21, isLe (show (k : Int) ≤ (i : Int) by omega)]
              exact ⟨M6, K6⟩
          · clear q0 q2' q10 q15 q17 q18 q19 q20 M6 K6
            rintro ⟨t, h6⟩ ⟨q0, q2', q10, q15, q17, q18, q19, q20, M6, K6⟩
            simp only at q0 q2' q10 q15 q17 q18 q19 q20 M6 K6
            simp [q0, q2', q10, q15, q17, q18, q19, q20, i64w ((x : Int) + 1) (by omega) (by omega)]
            exact ⟨sz - (x + 1), by omega, x + 1, rfl, by omega, by simp, by rw [show p + (x + 1) = z + 1 by omega]; exact M6, K6⟩
        · have e : x = sz := by omega
          rw [e] at M6
          simp [q0, q2', q10, q15, q17, q18, q19, q20, isLe (show (sz : Int) ≤ (x : Int) by omega)]
          exact ⟨M6, K6⟩
      · clear q0 q2' q10 q15 q17 q18 q19 M6 K6
        rintro ⟨t, h6⟩ ⟨q0, q2', q10, q15, q17, q18, q19, M6, K6⟩
        simp only at q0 q2' q10 q15 q17 q18 q19 M6 K6
        simp [q0, q2', q10, q15, q17, q18, q19, i64w ((j : Int) + 1) (by omega) (by omega)]
        exact ⟨k - (j + 1), by omega, j + 1, rfl, by omega, by simp, by rw [Nat.succ_mul, hp]; exact M6, K6⟩
    · have e : j = k := by omega
      have eM : mixL W (zv N) N = W := by
        have := mixL_all hmW
        rwa [lW] at this
      rw [e, hN, eM] at M6
      simp [q0, q2', q10, q15, q17, q18, q19, isLe (show (k : Int) ≤ (j : Int) by omega)]
      exact ⟨M6, K6⟩
  clear q0 q2' q10 q13
  rintro ⟨t, h6⟩ ⟨q2', q18, M6, K6⟩
  simp only at q2' q18 M6 K6
  have K06 : Keep h.next nob h h6 := K05.trans (K6.weak K05.1 fun _ _ q => q)
  obtain ⟨s2, c1, c2⟩ := M6.sl.to (P := Try.prog) (ty := 47) Try.underlying47 ts5 (k := .i64) (j := n) q1
  rw [Nat.mul_one, ← List.map_take] at c2
  have cv2 : aconv Try.prog h6 47 9 s2 = some (.str ⟨⟨W.take n⟩⟩, h6) := aconv_bs c2 Try.underlying47 Try.underlying9 Try.underlying5
  simp [q2', q18]
  refine W_loop (fun mm st => ∃ i : Nat, mm = N - i ∧ n ≤ i ∧ i ≤ N ∧ (∀ j, n ≤ j → j < i → W[j]? = some 0) ∧ st.t.get 2 = some (.int .i64 (n : Nat)) ∧ st.t.get 18 = some wv ∧ st.t.get 22 = some (.int .i64 (i : Nat)) ∧ st.h = h6) (N - n) (by omega)
    ⟨n, by omega, by omega, q1, (fun j hj hj' => by omega), by simp [q2'], by simp [q18], by simp, by simp⟩ ?_
  clear q2' q18
  rintro mm ⟨t, h7⟩ ⟨i, rfl, hni, hi, hz, q2', q18, q22, e⟩
  simp only at q2' q18 q22 e
  replace e := e.symm
  subst e
  by_cases hiN : i < N
  · obtain ⟨x, hx⟩ : ∃ x, W[i]? = some x := ⟨W[i]'(by omega), by simp⟩
    have ixs := M6.sl.idx1 (P := Try.prog) Try.underlying47 ts5 (j := i) hiN .i64
    have lds : aload Try.prog h6 5 wv.blk (wv.off + i) = some (.int .u8 (x.toNat : Nat)) := M6.sl.ld (P := Try.prog) ta5 (bb_get hx)
    by_cases hx0 : x = 0
    · subst hx0
      simp [q2', q18, q22, lw, isLt (show (i : Int) < (N : Int) by omega), ixs, lds, i64w ((i : Int) + 1) (by omega) (by omega)]
      refine ⟨N - (i + 1), by omega, i + 1, rfl, by omega, by omega, fun j hj hj' => ?_, by simp⟩
      by_cases hji : j = i
      · rw [hji]; exact hx
      · exact hz j hj (by omega)
    · have x1 := (b_not0 hx0).1
      have x2 := (b_not0 hx0).2.1
      rw [if_pos (by
        cases hq : (W.drop n).all (fun x => decide (x = 0)) with
        | false => rfl
        | true =>
          rw [List.all_eq_true] at hq
          have := hq x (List.mem_of_getElem? (i := i - n) (by rw [List.getElem?_drop, show n + (i - n) = i by omega]; exact hx))
          simp at this
          exact absurd this hx0)] at ed
      rw [ed]
      simp [q2', q18, q22, lw, isLt (show (i : Int) < (N : Int) by omega), ixs, lds, hx0, x1, x2]
      exact ⟨rfl, K06⟩
  · rw [if_neg (by
      have : (W.drop n).all (fun x => decide (x = 0)) = true := by
        rw [List.all_eq_true]
        intro x hx
        obtain ⟨j, hj⟩ := List.getElem?_of_mem hx
        rw [List.getElem?_drop] at hj
        have := hz (n + j) (by omega) (by have := (List.getElem?_eq_some_iff.1 hj).1; omega)
        rw [hj] at this
        simpa using this
      rw [this]; simp)] at ed
    rw [ed]
    simp [q2', q18, q22, lw, isLe (show (N : Int) ≤ (i : Int) by omega), c1, cv2]
    exact ⟨rfl, K06⟩
set_option maxHeartbeats 4000000 in
theorem rreb_ok (f : Nat) (h : Heap) (k m : Nat) (k1 : 1 ≤ k) (k8 : k ≤ 8) (km : m + k ≤ 12) (size at_ : Int) (hs1 : -9223372036854775808 ≤ size) (lv : AV) (l : List Pt) (S : Sl 2 l.length h lv (cat ptC l)) (hl : l.length + 4000 < f) (hm : l.length < 100000) (hb : ∀ p, p ∈ l → p.2.size ≤ 400) :
    ∃ v' h', acall Try.prog (f + 7) 19 [.int .i64 (k : Nat), .int .i64 (m : Nat), .int .i64 size, .int .i64 at_, lv] h = some (v', h') ∧ v' = .tup [tx (rebP k m size at_ l).1, .int .i64 (rebP k m size at_ l).2] ∧ Keep h.next nob h h' := by
  rw [acall_text [] Try.func19 (by kernel_rfl)]
  refine afuncT_ex rfl (by simp [Try.f19]) ?_
  have snm := i64w ((k : Int) + (m : Int)) (by omega) (by omega)
  by_cases c1 : at_ < 0
  · have e : rebP k m size at_ l = ([], 1) := by unfold rebP; rw [if_pos (.inl c1)]
    rw [e]
    simp [Try.f19, isLt c1]
    exact ⟨rfl, Keep.refl _ _ _⟩
  by_cases c2 : ((k + m : Nat) : Int) ≤ at_
  · have e : rebP k m size at_ l = ([], 1) := by unfold rebP; rw [if_pos (.inr c2)]
    rw [e]
    simp [Try.f19, isLe (show 0 ≤ at_ by omega), snm, isLe (show (k : Int) + (m : Int) ≤ at_ by omega)]
    exact ⟨rfl, Keep.refl _ _ _⟩
  obtain ⟨_, h1, E1, rfl, K1⟩ := rdec_ok f h k m k1 k8 km size hs1 lv l S (by omega) hm hb
  have small := dec_small k1 k8 km (size := size) hb
  have er : rebP k m size at_ l = if (decP k m size l).2 ≠ 0 then ([], (decP k m size l).2) else (rowA (encP k m (decP k m size l).1) at_.toNat, 0) := by
    unfold rebP
    rw [if_neg (by omega)]
  rw [er]
  generalize decP k m size l = d at *
  obtain ⟨V, e⟩ := d
  simp only at *
  by_cases he : e = 0
  · subst he
    rw [if_neg (by simp)]
    obtain ⟨v2, h2, E2, M2, F2, K2⟩ := renc_ok (f + 2) h1 k m k1 k8 km ⟨⟨V⟩⟩ (by rw [ba_size]; omega) (by rw [ba_size]; omega)
    rw [bl_mk] at M2
    obtain ⟨i, hi⟩ : ∃ i : Nat, at_ = (i : Int) := ⟨at_.toNat, by omega⟩
    subst hi
    obtain ⟨ix, ld, _⟩ := txs_at M2.sl (i := i) (by rw [encP_len]; omega)
    have e2 : tx V = .str ⟨⟨V⟩⟩ := rfl
    rw [e2] at E1
    simp [Try.f19, snm, isLt (show (i : Int) < (k : Int) + (m : Int) by omega), E1, E2, ix, ld]
    exact K1.trans (K2.weak K1.1 fun _ _ q => q)
  · rw [if_pos he]
    have hne : ¬ e = 0 := he
    simp [Try.f19, isLe (show 0 ≤ at_ by omega), snm, isLt (show at_ < (k : Int) + (m : Int) by omega), E1, hne]
    exact ⟨rfl, K1⟩
end Go.Proofs.Ytmmibaaidfcbhaa
/- The book of memory, for fragments: Same, Roomy, Intact. -/
namespace Go.Proofs.Ytmmibaaidfcbhaa
open Go Go.YtmmibaaidfcbhaaAbs
set_option linter.unusedSimpArgs false
set_option linter.unusedVariables false
set_option maxRecDepth 4000

theorem beqB (a b : ByteArray) : (a == b) = decide (a = b) := by
  obtain ⟨a⟩ := a
  obtain ⟨b⟩ := b
  have e : ((⟨a⟩ : ByteArray) == ⟨b⟩) = (a == b) := rfl
  rw [e]
  by_cases q : a = b
  · subst q; simp
  · have : ¬ (⟨a⟩ : ByteArray) = ⟨b⟩ := fun z => q (by injection z)
    rw [decide_eq_false this]
    simpa using q
theorem part_eq (a : Int) (s : ByteArray) : semPure Try.prog (Op.equal 31 (.agg ⟨[.int .i64 a, .string s]⟩) (.agg ⟨[.int .i64 a, .string s]⟩)) = some true := by
  unfold Op.equal Op.maxDepth
  rw [equal_struct (p := fun fl => match fl.offset with | 0 => veq (.int .i64 a) (.int .i64 a) | _ => veq (.string s) (.string s)) (d := 9999) Try.underlying31 (by kernel_rfl) (fun fl hf _ => ?_)]
  · congr 1
    simp [veq, beqB]
  simp only [List.mem_cons, List.not_mem_nil, or_false] at hf
  rcases hf with rfl | rfl
  · exact ⟨_, _, part_basic (u := .int .i64) Try.underlying3 rfl rfl, part_basic (u := .int .i64) Try.underlying3 rfl rfl, equal_basic (u := .int .i64) Try.underlying3 rfl rfl _⟩
  · exact ⟨_, _, part_basic (u := .string) Try.underlying9 rfl rfl, part_basic (u := .string) Try.underlying9 rfl rfl, equal_basic (u := .string) Try.underlying9 rfl rfl _⟩
section
variable {p : Pt} {t : Tr AV} {d : Option Tmp} {tv v : TypeId} {pos : String} {af : Array Edge} {gd : Option (Nat × Bool)} {i j : Nat}
theorem part_neq (hx : ev t (.tmp i) = .agg (ptC p)) (hy : ev t (.tmp j) = .agg (ptC p)) :
    aback0 Try.prog t ⟨d, .binOp .neq 31 (.tmp i) (.tmp j) tv, v, pos, af, gd⟩ = some (.bool false) := by
  have := aback_eqS (d := d) (tv := tv) (v := v) (pos := pos) (af := af) (g := gd) hx hy (us := [.int .i64 p.1, .string p.2]) (vs := [.int .i64 p.1, .string p.2]) rfl rfl (by kernel_rfl) (part_eq p.1 p.2) .neq (.inr rfl)
  simpa using this
theorem part_neq' (hx : ev t (.tmp i) = .agg (ptC p)) (hy : ev t (.tmp j) = .agg (ptC p)) :
    aback00 Try.prog t ⟨d, .binOp .neq 31 (.tmp i) (.tmp j) tv, v, pos, af, gd⟩ = some (.bool false) := part_neq hx hy
end
theorem sameP_ok (k : Nat) (h : Heap) (v1 v2 : AV) (l : List Pt) (S1 : Sl 2 l.length h v1 (cat ptC l)) (S2 : Sl 2 l.length h v2 (cat ptC l)) (hk : l.length + 2 < k) (hm : l.length < 1000000) :
    acall Try.prog (k + 1) 36 [v1, v2] h = some (.bool true, h) := by
  rw [acall_text [] Try.func36 (by kernel_rfl)]
  refine afuncT_of rfl (by simp [Try.f36]) ?_
  have l1 := S1.len'
  have l2 := S2.len'
  simp [Try.f36, l1, l2]
  refine W_loop (fun m st => ∃ j, m = l.length - j ∧ j ≤ l.length ∧ st.h = h ∧ st.t.get 0 = some v1 ∧ st.t.get 1 = some v2 ∧ st.t.get 5 = some (.int .i64 (j : Nat))) l.length (by omega) ⟨0, by simp⟩ ?_
  rintro m ⟨t, h'⟩ ⟨j, rfl, hj, rfl, q0, q1, q5⟩
  simp only at q0 q1 q5 S1 S2
  by_cases hlt : j < l.length
  · obtain ⟨p, hp⟩ : ∃ p, l[j]? = some p := ⟨l[j], by simp⟩
    obtain ⟨i1, d1, _⟩ := pt_at S1 hp
    obtain ⟨i2, d2, _⟩ := pt_at S2 hp
    simp [q0, q1, q5, l1, isLt (show (j : Int) < (l.length : Int) by omega), i1, d1, i2, d2, part_neq (p := p), part_neq' (p := p), i64w ((j : Int) + 1) (by omega) (by omega)]
    exact ⟨l.length - (j + 1), by omega, j + 1, rfl, by omega, by simp⟩
  · simp [q0, q1, q5, l1, isLe (show (l.length : Int) ≤ (j : Int) by omega)]
theorem pt_lay {h : Heap} {b : Nat} {l : List Pt} {n : Nat} (g : h.get b = some (.cells (cat ptC l) false)) (hl : l.length = n) {j : Nat} (hj : j < n) (p : Pt) : alay h b (j * 2) (ptC p) = some (h.set b (.cells (cat ptC (l.set j p)) false)) := by
  have hc := cat_len ptC_len l
  unfold alay
  rw [g]
  simp only
  rw [layAt_all _ _ _ (by rw [ptC_len]; omega), cat_set ptC_len (by omega)]
def zPt : Pt := (0, ⟨#[]⟩)
theorem rep_cat (n : Nat) (p : Pt) : (List.replicate n (ptC p)).flatten = cat ptC (List.replicate n p) := by unfold cat; rw [List.map_replicate]
theorem acopy_pt {h h' : Heap} {x : AV} {l : List Pt} (hx : Sl 2 l.length h x (cat ptC l)) {b m cap : Nat} {ex : Bool} (hnm : l.length ≤ m) (hlay : alay h b 0 (cat ptC l) = some h') :
    acopy Try.prog h 34 (.sl b 0 m cap 2 ex) x = some (.int .i64 (l.length : Nat), h') := by
  have hlen := hx.length
  have hone : (cat ptC l).all AV.one = true := by
    rw [List.all_eq_true]
    intro a ha
    unfold cat at ha
    obtain ⟨c, hc, hac⟩ := List.mem_flatten.1 ha
    obtain ⟨p, _, rfl⟩ := List.mem_map.1 hc
    exact (List.all_eq_true.1 (ptC_one p)) a hac
  unfold acopy
  simp only [Try.underlying34, ts31]
  rw [show alen (.sl b 0 m cap 2 ex) = some m from rfl, hx.alen]
  simp only
  rw [show Nat.min l.length m = l.length from Nat.min_eq_left hnm, hx.acells]
  simp only
  rw [if_neg (by simp [hone, hlen])]
  simp only [hlay]
  simp
set_option maxHeartbeats 1000000 in
theorem roomyP_ok (k : Nat) (l : List Pt) (v : AV) (q : Pt) (h : Heap) (r : Sl 2 l.length h v (cat ptC l)) (hk : 200 < k) (hm : l.length < 100000) :
    ∃ v' h', acall Try.prog (k + 1) 17 [v, .agg (ptC q)] h = some (v', h') ∧ ∃ B, v' = .sl B 0 (l.length + 80) (l.length + 80) 2 true ∧ h'.get B = some (.cells (cat ptC (l ++ List.replicate 80 q)) false) ∧ B < h'.next ∧ Keep h.next nob h h' := by
  rw [acall_text [] Try.func17 (by kernel_rfl)]
  refine afuncT_ex rfl (by simp [Try.f17]) ?_
  obtain ⟨M, hM⟩ : ∃ M, M = l.length + 80 := ⟨_, rfl⟩
  rw [← hM]
  have w1 : fwrap .i64 ((l.length : Int) + 80) = (M : Nat) := by rw [i64w _ (by omega) (by omega)]; omega
  have rowq : (AV.agg (ptC q)).row1 = some (ptC q) := row1_agg (ptC_one q)
  -- the box
  have K1 : Keep h.next nob h (h.new (.cells (ptC q) false)) := Keep.new (Nat.le_refl _) _
  have g1 : (h.new (.cells (ptC q) false)).get h.next = some (.cells (ptC q) false) := get_new_self _ _
  have n1 : h.next < (h.new (.cells (ptC q) false)).next := Nat.lt_succ_self _
  obtain ⟨h1, e1⟩ : ∃ h1, h.new (.cells (ptC q) false) = h1 := ⟨_, rfl⟩
  obtain ⟨qb, hqb⟩ : ∃ qb, h.next = qb := ⟨_, rfl⟩
  rw [e1] at K1 g1 n1
  rw [hqb] at g1 n1
  have r1 := r.ext K1
  obtain ⟨z, hz⟩ : ∃ z, z = (List.replicate M (ptC zPt)).flatten := ⟨_, rfl⟩
  have hz' : z = cat ptC (List.replicate M zPt) := by rw [hz, rep_cat]
  have lz : z.length = M * 2 := by rw [hz', cat_len ptC_len, List.length_replicate]
  have r2 := r1.new (.cells z false)
  have hcl := cat_len ptC_len l
  have L0 : (l ++ List.replicate 80 zPt).length = M := by simp [hM]
  have hlay : alay (h1.new (.cells z false)) h1.next 0 (cat ptC l) = some (h1.new (.cells (cat ptC (l ++ List.replicate 80 zPt)) false)) := by
    unfold alay
    rw [get_new_self]
    simp only
    rw [layAt_all _ _ _ (by omega)]
    simp only [List.take_zero, List.nil_append, Nat.zero_add, set_new]
    rw [hcl, hz', cat_drop ptC_len, List.drop_replicate, hM, show l.length + 80 - l.length = 80 by omega, cat_append]
  have cp := acopy_pt r2 (b := h1.next) (m := M) (cap := M) (ex := true) (by omega) hlay
  have g2 : (h1.new (.cells (cat ptC (l ++ List.replicate 80 zPt)) false)).get h1.next = some (.cells (cat ptC (l ++ List.replicate 80 zPt)) false) := get_new_self _ _
  have n2 : h1.next < (h1.new (.cells (cat ptC (l ++ List.replicate 80 zPt)) false)).next := Nat.lt_succ_self _
  have K2 : Keep h1.next nob h1 (h1.new (.cells (cat ptC (l ++ List.replicate 80 zPt)) false)) := Keep.new (Nat.le_refl _) _
  have az : (List.replicate M [AV.int .i64 0, AV.str ByteArray.empty]).flatten = z := by rw [hz]; rfl
  obtain ⟨B, hB⟩ : ∃ B, h1.next = B := ⟨_, rfl⟩
  obtain ⟨h2, e2⟩ : ∃ h2, h1.new (.cells (cat ptC (l ++ List.replicate 80 zPt)) false) = h2 := ⟨_, rfl⟩
  rw [e2] at cp g2 n2 K2
  rw [hB] at cp g2 n2
  simp [Try.f17, rowq, e1, hqb, r.len', w1, aalloc_make (P := Try.prog) el34 (z := [.int .i64 0, .str .empty]) az31 rfl rfl M M (Nat.le_refl _) (by omega), az, hB, cp]
  refine W_loop (fun mm st => ∃ j, mm = 80 - j ∧ j ≤ 80 ∧ st.t.get 3 = some (.ptr qb 0) ∧ st.t.get 5 = some (.sl B 0 M M 2 true) ∧ st.t.get 6 = some (.int .i64 ((l.length + j : Nat) : Int)) ∧
    st.h.get B = some (.cells (cat ptC (l ++ List.replicate j q ++ List.replicate (80 - j) zPt)) false) ∧ st.h.get qb = some (.cells (ptC q) false) ∧ B < st.h.next ∧ Keep h1.next nob h1 st.h) 80 (by omega)
    ⟨0, by omega, by omega, by simp, by simp, by simp, by simpa using g2, by rw [K2.2 qb (by omega) id]; exact g1, n2, K2⟩ ?_
  rintro mm ⟨t, h3⟩ ⟨j, rfl, hj, q3, q5, q6, hg, hgq, hn, hk3⟩
  simp only at q3 q5 q6 hg hgq hn hk3
  obtain ⟨J, hJ⟩ : ∃ J, J = l.length + j := ⟨_, rfl⟩
  rw [← hJ] at q6
  by_cases hlt : j < 80
  · have ldq : aload Try.prog h3 31 qb 0 = some (.agg (ptC q)) := by simp [aload, Heap.row, hgq, ptC]
    have ixB : aindex Try.prog 34 (.sl B 0 M M 2 true) (.int .i64 (J : Nat)) = some (.ptr B (J * 2)) := by
      simp [aindex, Try.underlying34]
      omega
    have lay3 := pt_lay hg (n := M) (by simp; omega) (j := J) (by omega) q
    have eset : (l ++ List.replicate j q ++ List.replicate (80 - j) zPt).set J q = l ++ List.replicate (j + 1) q ++ List.replicate (80 - (j + 1)) zPt := by
      have l1 : (l ++ List.replicate j q).length = J := by simp; omega
      rw [List.set_append_right _ _ (by omega), l1, Nat.sub_self, show 80 - j = (80 - (j + 1)) + 1 by omega, List.replicate_succ, List.replicate_succ']
      simp
    rw [eset] at lay3
    have g4 : (h3.set B (.cells (cat ptC (l ++ List.replicate (j + 1) q ++ List.replicate (80 - (j + 1)) zPt)) false)).get B = some (.cells (cat ptC (l ++ List.replicate (j + 1) q ++ List.replicate (80 - (j + 1)) zPt)) false) := get_set_self _ _ _
    have gq4 : (h3.set B (.cells (cat ptC (l ++ List.replicate (j + 1) q ++ List.replicate (80 - (j + 1)) zPt)) false)).get qb = some (.cells (ptC q) false) := by rw [get_set_ne (by omega)]; exact hgq
    have n4 : (h3.set B (.cells (cat ptC (l ++ List.replicate (j + 1) q ++ List.replicate (80 - (j + 1)) zPt)) false)).next = h3.next := rfl
    have K4 : Keep h1.next nob h1 (h3.set B (.cells (cat ptC (l ++ List.replicate (j + 1) q ++ List.replicate (80 - (j + 1)) zPt)) false)) := hk3.trans (Keep.set (.inr (by omega)) _)
    obtain ⟨h4, e4⟩ : ∃ h4, h3.set B (.cells (cat ptC (l ++ List.replicate (j + 1) q ++ List.replicate (80 - (j + 1)) zPt)) false) = h4 := ⟨_, rfl⟩
    rw [e4] at lay3 g4 gq4 n4 K4
    obtain ⟨L4, hL4⟩ : ∃ L4, cat ptC (l ++ List.replicate (j + 1) q ++ List.replicate (80 - (j + 1)) zPt) = L4 := ⟨_, rfl⟩
    simp [q3, q5, q6, isLt (show (J : Int) < (M : Int) by omega), ldq, ixB, rowq, ptC_len, lay3, i64w ((J : Int) + 1) (by omega) (by omega)]
    refine ⟨80 - (j + 1), by omega, j + 1, rfl, by omega, by omega, ?_, gq4, by omega, K4⟩
    simpa using g4
  · obtain rfl : j = 80 := by omega
    have hJM : J = M := by omega
    rw [Nat.sub_self, List.replicate_zero, List.append_nil] at hg
    simp [q3, q5, q6, hJM]
    exact ⟨hg, hn, K1.trans (hk3.weak K1.1 fun _ _ q => q)⟩
theorem intactP_ok (k : Nat) (l : List Pt) (v1 v2 : AV) (q : Pt) (h : Heap) (r1 : Sl 2 (l.length + 80) h v1 (cat ptC (l ++ List.replicate 80 q))) (r2 : Sl 2 l.length h v2 (cat ptC l)) (hk : l.length + 200 < k) (hm : l.length < 100000) :
    ∃ v' h', acall Try.prog (k + 2) 20 [v1, v2, .agg (ptC q)] h = some (v', h') ∧ v' = .bool true := by
  rw [acall_text [] Try.func20 (by kernel_rfl)]
  refine afuncT_ex rfl (by simp [Try.f20]) ?_
  obtain ⟨M, hM⟩ : ∃ M, M = l.length + 80 := ⟨_, rfl⟩
  rw [← hM] at r1
  have w1 : fwrap .i64 ((l.length : Int) + 80) = (M : Nat) := by rw [i64w _ (by omega) (by omega)]; omega
  have rowq : (AV.agg (ptC q)).row1 = some (ptC q) := row1_agg (ptC_one q)
  have K1 : Keep h.next nob h (h.new (.cells (ptC q) false)) := Keep.new (Nat.le_refl _) _
  have g1 : (h.new (.cells (ptC q) false)).get h.next = some (.cells (ptC q) false) := get_new_self _ _
  obtain ⟨h1, e1⟩ : ∃ h1, h.new (.cells (ptC q) false) = h1 := ⟨_, rfl⟩
  obtain ⟨qb, hqb⟩ : ∃ qb, h.next = qb := ⟨_, rfl⟩
  rw [e1] at K1 g1
  rw [hqb] at g1
  have r1 := r1.ext K1
  have r2 := r2.ext K1
  obtain ⟨v3, f1, r3⟩ := r1.to (P := Try.prog) (ty := 34) Try.underlying34 ts31 (k := .i64) (j := l.length) (by omega)
  rw [cat_take ptC_len, List.take_append_of_le_length (Nat.le_refl _), List.take_length] at r3
  have E1 := sameP_ok k h1 v3 v2 l r3 r2 (by omega) (by omega)
  have l1 := r1.len'
  have l2 := r2.len'
  have ldq : aload Try.prog h1 31 qb 0 = some (.agg (ptC q)) := by simp [aload, Heap.row, g1, ptC]
  simp [Try.f20, rowq, e1, hqb, l1, l2, w1, f1, E1]
  refine W_loop (fun mm st => ∃ j, mm = 80 - j ∧ j ≤ 80 ∧ st.h = h1 ∧ st.t.get 0 = some v1 ∧ st.t.get 5 = some (.ptr qb 0) ∧ st.t.get 7 = some (.int .i64 ((l.length + j : Nat) : Int))) 80 (by omega) ⟨0, by simp⟩ ?_
  rintro mm ⟨t, h2⟩ ⟨j, rfl, hj, e2, q0, q5, q7⟩
  simp only at q0 q5 q7 e2
  replace e2 := e2.symm
  subst e2
  obtain ⟨J, hJ⟩ : ∃ J, J = l.length + j := ⟨_, rfl⟩
  rw [← hJ] at q7
  by_cases hlt : j < 80
  · have hLl : (l ++ List.replicate 80 q).length = M := by simp [hM]
    have hp : (l ++ List.replicate 80 q)[J]? = some q := by
      rw [List.getElem?_append_right (by omega), List.getElem?_replicate, if_pos (by omega)]
    rw [← hLl] at r1
    obtain ⟨ix, ld, _⟩ := pt_at r1 hp
    simp [q0, q5, q7, l1, isLt (show (J : Int) < (M : Int) by omega), ix, ld, ldq, part_neq (p := q), part_neq' (p := q), i64w ((J : Int) + 1) (by omega) (by omega)]
    exact ⟨80 - (j + 1), by omega, j + 1, rfl, by omega, by omega⟩
  · obtain rfl : j = 80 := by omega
    have hJM : J = M := by omega
    simp [q0, q5, q7, l1, hJM]
end Go.Proofs.Ytmmibaaidfcbhaa
/- Rows of things of so many cells each, as arguments have them. -/
namespace Go.Proofs.Ytmmibaaidfcbhaa
open Go Go.YtmmibaaidfcbhaaAbs
set_option linter.unusedSimpArgs false
set_option linter.unusedVariables false

/-- A thing's cells are told by it alone. -/
structure Flat {α : Type} (K : Kind α) (f : α → List AV) : Prop where
  eq : ∀ (h : Heap) (cs : List AV) (x : α), cs.length ≤ K.sz → K.rd h cs x → cs = f x
  len : ∀ x, (f x).length = K.sz
theorem flat_int (k : IntKind) : Flat (kInt k) fun n => [.int k n] := ⟨fun _ _ _ _ r => r.1, fun _ => rfl⟩
theorem flat_str : Flat kStr fun s => [.str s] := ⟨fun _ _ _ _ r => r.1, fun _ => rfl⟩
theorem flat_bool : Flat kBool fun b => [.bool b] := ⟨fun _ _ _ _ r => r, fun _ => rfl⟩
theorem flat_nil : Flat kNil fun _ => [] := ⟨fun _ _ _ _ r => r, fun _ => rfl⟩
theorem flat_pair {α β : Type} {K : Kind α} {L : Kind β} {f : α → List AV} {g : β → List AV} (hK : Flat K f) (hL : Flat L g) : Flat (kPair K L) fun x => f x.1 ++ g x.2 := by
  refine ⟨fun h cs x hl r => ?_, fun x => by rw [List.length_append, hK.len, hL.len]; rfl⟩
  have hl : cs.length ≤ K.sz + L.sz := hl
  have r1 := hK.eq h _ _ (by rw [List.length_take]; omega) r.1
  have r2 := hL.eq h _ _ (by rw [List.length_drop]; omega) r.2
  rw [← List.take_append_drop K.sz cs, r1, r2]
theorem sla_flat {α : Type} {K : Kind α} {f : α → List AV} (F : Flat K f) (h0 : 0 < K.sz) {h : Heap} {v : AV} {xs : List α} (r : SlA K h v xs) : Sl K.sz xs.length h v (cat f xs) ∧ ∀ x, x ∈ xs → ∃ h cs, K.rd h cs x := by
  obtain ⟨c, c1, c2⟩ := r.sl
  obtain ⟨c3, c4⟩ := c2
  have key : ∀ j x, xs[j]? = some x → (c.drop (j * K.sz)).take K.sz = f x := fun j x hx => F.eq _ _ _ (by rw [List.length_take]; omega) (c4 j x hx)
  have hc : c = cat f xs := by
    refine List.ext_getElem? fun i => ?_
    by_cases hi : i < xs.length * K.sz
    · have hj : i / K.sz < xs.length := Nat.div_lt_of_lt_mul (by rw [Nat.mul_comm]; exact hi)
      have hx : xs[i / K.sz]? = some xs[i / K.sz] := by simp [hj]
      have e1 := key _ _ hx
      have e2 := cat_at F.len hx
      have e3 : i = i / K.sz * K.sz + i % K.sz := by have := Nat.div_add_mod i K.sz; rw [Nat.mul_comm] at this; omega
      have g : ∀ l : List AV, l[i]? = ((l.drop (i / K.sz * K.sz)).take K.sz)[i % K.sz]? := fun l => by
        rw [List.getElem?_take, if_pos (Nat.mod_lt _ h0), List.getElem?_drop, ← e3]
      rw [g c, g (cat f xs), e1, e2]
    · rw [List.getElem?_eq_none (by omega), List.getElem?_eq_none (by rw [cat_len F.len]; omega)]
  refine ⟨by rw [← hc]; exact c1, fun x hx => ?_⟩
  obtain ⟨j, hj⟩ := List.getElem?_of_mem hx
  exact ⟨_, _, c4 j x hj⟩
end Go.Proofs.Ytmmibaaidfcbhaa
/- RsParts: what is turned in a row of fragments. -/
namespace Go.Proofs.Ytmmibaaidfcbhaa
open Go Go.YtmmibaaidfcbhaaAbs
set_option linter.unusedSimpArgs false
set_option linter.unusedVariables false
set_option maxRecDepth 4000

abbrev kPt : Kind (Int × (ByteArray × Unit)) := kPair (kInt .i64) (kPair kStr kNil)
def toPt (x : Int × (ByteArray × Unit)) : Pt := (x.1, x.2.1)
theorem sla_pts {h : Heap} {v : AV} {xs : List (Int × (ByteArray × Unit))} (r : SlA kPt h v xs) : Sl 2 (xs.map toPt).length h v (cat ptC (xs.map toPt)) := by
  obtain ⟨S, _⟩ := sla_flat (flat_pair (flat_int .i64) (flat_pair flat_str flat_nil)) (by decide) r
  rw [List.length_map]
  have e : cat ptC (xs.map toPt) = cat (fun x : Int × (ByteArray × Unit) => [AV.int .i64 x.1] ++ ([AV.str x.2.1] ++ [])) xs := by
    unfold cat
    rw [List.map_map]
    rfl
  rw [e]
  exact S
section
variable {h : Heap} {v : AV} {L : List Pt}
theorem pt_set1 (V : Mine 2 L.length h v (cat ptC L)) {i : Nat} {p : Pt} (hp : L[i]? = some p) (x : Int) : ∃ h', alay h v.blk (v.off + i * 2) [.int .i64 x] = some h' ∧ Mine 2 (L.set i (x, p.2)).length h' v (cat ptC (L.set i (x, p.2))) ∧ Keep h.next (Has v) h h' := by
  have hi := (List.getElem?_eq_some_iff.1 hp).1
  have hc := cat_len ptC_len L
  obtain ⟨h', a1, a2, a3, _⟩ := V.lay (j := i * 2) (vs := [.int .i64 x]) (by simp; omega) (by omega) rfl
  have e := cat_set1 (f := ptC) ptC_len hp (o := 0) (by omega) (a := .int .i64 x) (y := (x, p.2)) rfl
  simp only [Nat.add_zero] at e
  refine ⟨h', a1, ?_, a3⟩
  rw [List.length_set, ← e]
  simpa using a2
theorem pt_set2 (V : Mine 2 L.length h v (cat ptC L)) {i : Nat} {p : Pt} (hp : L[i]? = some p) (s : ByteArray) : ∃ h', alay h v.blk (v.off + i * 2 + 1) [.str s] = some h' ∧ Mine 2 (L.set i (p.1, s)).length h' v (cat ptC (L.set i (p.1, s))) ∧ Keep h.next (Has v) h h' := by
  have hi := (List.getElem?_eq_some_iff.1 hp).1
  have hc := cat_len ptC_len L
  obtain ⟨h', a1, a2, a3, _⟩ := V.lay (j := i * 2 + 1) (vs := [.str s]) (by simp; omega) (by omega) rfl
  have e := cat_set1 (f := ptC) ptC_len hp (o := 1) (by omega) (a := .str s) (y := (p.1, s)) rfl
  refine ⟨h', by rw [Nat.add_assoc]; exact a1, ?_, a3⟩
  rw [List.length_set, ← e]
  simpa using a2
end
/-- A copy in new memory. -/
theorem copy_pts {h : Heap} {v : AV} {L : List Pt} (S : Sl 2 L.length h v (cat ptC L)) (hl : L.length < 1000) : ∃ v' h', aappend Try.prog (h.new (.cells [] false)) 34 34 (.sl h.next 0 0 0 2 true) v = some (v', h') ∧ Mine 2 L.length h' v' (cat ptC L) ∧ (∀ d, Has v' d → h.next ≤ d) ∧ Keep h.next nob h h' := by
  have V0 : Mine 2 0 (h.new (.cells [] false)) (.sl h.next 0 0 0 2 true) [] := by
    have := Mine.new (sz := 2) (n := 0) (m := 0) h [] (by simp) (Nat.le_refl _) (by simp) true
    simpa using this
  have k0 : Keep h.next nob h (h.new (.cells [] false)) := Keep.new (Nat.le_refl _) _
  have S' := S.ext k0
  have hone : (cat ptC L).all AV.one = true := by
    rw [List.all_eq_true]
    intro a ha
    unfold cat at ha
    obtain ⟨c, hc, hac⟩ := List.mem_flatten.1 ha
    obtain ⟨p, _, rfl⟩ := List.mem_map.1 hc
    exact (List.all_eq_true.1 (ptC_one p)) a hac
  obtain ⟨w, h3, b1, b2, b3, b4⟩ := V0.append (P := Try.prog) el34 (xt := 34) (by rw [Try.underlying34]; rfl) S'.alen S'.acells hone (by rw [cat_len ptC_len]) (by omega)
  refine ⟨w, h3, b1, by simpa using b2, fun d hd => ?_, ⟨Nat.le_trans k0.1 b4.1, fun d hd _ => ?_⟩⟩
  · rcases b3 d hd with z | z
    · cases z; exact Nat.le_refl _
    · exact Nat.le_trans k0.1 z
  · rw [b4.2 d (Nat.lt_of_lt_of_le hd k0.1) (fun q => by cases q; omega), k0.2 d hd id]
end Go.Proofs.Ytmmibaaidfcbhaa
