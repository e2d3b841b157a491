/- Contracts of the functions that the law reaches, over the abstract machine. -/
import Derived.Test.YtmmibaaidfcbhaaRsDistanceA
import Derived.Test.YtmmibaaidfcbhaaMachC
import Derived.Test.YtmmibaaidfcbhaaMachA
import Derived.Test.YtmmibaaidfcbhaaMachB
import Derived.Test.YtmmibaaidfcbhaaMachD
/- Contracts of the book of memory: Within. -/
namespace Go.Proofs.Ytmmibaaidfcbhaa
open Go Go.YtmmibaaidfcbhaaAbs
set_option linter.unusedSimpArgs false
set_option linter.unusedVariables false
/-- Within. -/
theorem within_ok (k : Nat) (n lo hi : Int) (hl : lo ≤ hi) (h1 : -1000000000000 ≤ lo) (h2 : hi ≤ 1000000000000) (h : Heap) :
    acall Try.prog (k + 1) 14 [.int .i64 n, .int .i64 lo, .int .i64 hi] h = some (.int .i64 (lo + n % (hi - lo + 1)), h) := by
  rw [acall_text [] Try.func14 (by kernel_rfl)]
  refine afuncT_of rfl (by simp [Try.f14]) ?_
  have w1 := i64w (hi - lo) (by omega) (by omega)
  have w2 := i64w (hi - lo + 1) (by omega) (by omega)
  have hne : ¬ hi - lo + 1 = 0 := by omega
  have e1 : n % (hi - lo + 1) < hi - lo + 1 := Int.emod_lt_of_pos _ (by omega)
  have e2 : 0 ≤ n % (hi - lo + 1) := Int.emod_nonneg _ (by omega)
  have e0 := Int.tmod_eq_emod (a := n) (b := hi - lo + 1)
  by_cases hr : n.tmod (hi - lo + 1) < 0
  · have e3 : n.tmod (hi - lo + 1) + (hi - lo + 1) = n % (hi - lo + 1) := by
      split at e0 <;> omega
    have w3 := i64w (n.tmod (hi - lo + 1) + hi) (by omega) (by omega)
    have w4 := i64w (n.tmod (hi - lo + 1) + hi - lo) (by omega) (by omega)
    have w5 := i64w (n.tmod (hi - lo + 1) + hi - lo + 1) (by omega) (by omega)
    have w6 := i64w (lo + (n.tmod (hi - lo + 1) + hi - lo + 1)) (by omega) (by omega)
    simp [Try.f14, w1, w2, w3, w4, w5, w6, hne, isLt hr]
    omega
  · have e3 : n.tmod (hi - lo + 1) = n % (hi - lo + 1) := by
      split at e0 <;> omega
    have w6 := i64w (lo + n % (hi - lo + 1)) (by omega) (by omega)
    simp [Try.f14, w1, w2, w6, hne, isLe e2, e3]

end Go.Proofs.Ytmmibaaidfcbhaa
/- depotlaw2: what its laws have in common. -/
namespace Go.Proofs.Ytmmibaaidfcbhaa
open Go Go.YtmmibaaidfcbhaaAbs
set_option linter.unusedSimpArgs false
set_option linter.unusedVariables false
set_option maxRecDepth 4000

/-- Within, as a number that isn't below nought. -/
theorem within_nat (k : Nat) (a lo hi : Int) (h0 : 0 ≤ lo) (hl : lo ≤ hi) (h2 : hi ≤ 1000000000000) (h : Heap) :
    ∃ n : Nat, acall Try.prog (k + 1) 14 [.int .i64 a, .int .i64 lo, .int .i64 hi] h = some (.int .i64 (n : Nat), h) ∧ lo ≤ (n : Int) ∧ (n : Int) ≤ hi := by
  have W := within_ok k a lo hi hl (by omega) h2 h
  have m1 : 0 ≤ a % (hi - lo + 1) := Int.emod_nonneg _ (by omega)
  have m2 : a % (hi - lo + 1) < hi - lo + 1 := Int.emod_lt_of_pos _ (by omega)
  refine ⟨(lo + a % (hi - lo + 1)).toNat, ?_, by omega, by omega⟩
  rw [W, Int.toNat_of_nonneg (by omega)]
section
variable {n : Nat} {M : Mt}
theorem sq_right (h : RowsN n M) (hn : M.length = n) (n1 : 1 ≤ n) (n2 : n ≤ 12) : rightM M = true ∧ (rowA M 0).length = n := by
  have hw0 : (rowA M 0).length = n := h.row (by omega)
  exact ⟨by rw [rightM_iff, hw0]; exact ⟨by omega, h⟩, hw0⟩
theorem sq_inv (h : RowsN n M) (hn : M.length = n) (n1 : 1 ≤ n) (n2 : n ≤ 12) : invP M = invA M := by
  obtain ⟨a, b⟩ := sq_right h hn n1 n2
  unfold invP
  rw [if_pos ⟨a, by omega⟩]
theorem sq_rank (h : RowsN n M) (hn : M.length = n) (n1 : 1 ≤ n) (n2 : n ≤ 12) : rankP M = rankA n M := by
  obtain ⟨a, b⟩ := sq_right h hn n1 n2
  unfold rankP
  rw [if_pos a, b]
end
end Go.Proofs.Ytmmibaaidfcbhaa
/- rs: a code in the heap; New, K, N, Size; the document's Size; short. -/
namespace Go.Proofs.Ytmmibaaidfcbhaa
open Go Go.YtmmibaaidfcbhaaAbs
set_option linter.unusedSimpArgs false
set_option linter.unusedVariables false
set_option maxRecDepth 4000

/-- How many bytes a fragment has. -/
def szN (k n : Nat) : Nat := (n + k - 1) / k
def codeC (k m : Nat) (rv : AV) : List AV := .int .i64 (k : Nat) :: .int .i64 ((k + m : Nat) : Int) :: (fieldC ++ [rv])
theorem codeC_len (k m : Nat) (rv : AV) : (codeC k m rv).length = 769 := by simp [codeC, fieldC_len]
/-- A code of k and m. -/
structure Cd (h : Heap) (c : AV) (b k m : Nat) (rv : AV) : Prop where
  ptr : c = .ptr b 0
  lt : b < h.next
  get : h.get b = some (.cells (codeC k m rv) false)
  rows : ∃ rs, Rd h rv rs (cauM k m)
  k1 : 1 ≤ k
  k8 : k ≤ 8
  km : m + k ≤ 12
section
variable {h h' : Heap} {c : AV} {b k m : Nat} {rv : AV}
theorem Cd.ext (C : Cd h c b k m rv) (K : Keep h.next nob h h') : Cd h' c b k m rv := by
  obtain ⟨rs, R⟩ := C.rows
  exact ⟨C.ptr, Nat.lt_of_lt_of_le C.lt K.1, by rw [K.2 b C.lt id]; exact C.get, ⟨rs, R.ext K⟩, C.k1, C.k8, C.km⟩
theorem Cd.fld (C : Cd h c b k m rv) : Fld h (.ptr b 2) := ⟨b, 2, _, _, rfl, C.lt, C.get, fun j hj => by
  unfold codeC
  rw [show 2 + j = j + 1 + 1 by omega, List.getElem?_cons_succ, List.getElem?_cons_succ, List.getElem?_append_left (by rw [fieldC_len]; exact hj)]⟩
theorem Cd.ldk (C : Cd h c b k m rv) : aload Try.prog h 3 b 0 = some (.int .i64 (k : Nat)) := ldc C.get ta3 rfl
theorem Cd.ldn (C : Cd h c b k m rv) : aload Try.prog h 3 b 1 = some (.int .i64 ((k + m : Nat) : Int)) := ldc C.get ta3 rfl
theorem Cd.ldr (C : Cd h c b k m rv) : aload Try.prog h 53 b 768 = some rv := ldc C.get ta53 (by
  unfold codeC
  rw [show 768 = 766 + 1 + 1 by rfl, List.getElem?_cons_succ, List.getElem?_cons_succ, List.getElem?_append_right (by rw [fieldC_len]; exact Nat.le_refl _), fieldC_len]; rfl)
end
theorem zz_last : zz63.drop 768 = [.nils] := by kernel_rfl
theorem code_row (n m : Nat) (rv : AV) (h : rv.one = true) : (AV.agg (.int .i64 (n : Nat) :: .int .i64 ((n : Int) + (m : Int)) :: (fieldC ++ [rv]))).row1 = some (codeC n m rv) := by
  rw [row1_agg (by simp [fieldC_one, h])]
  simp [codeC]
theorem code_set (n m : Nat) (u v : AV) : (codeC n m u).set 768 v = codeC n m v := by
  unfold codeC
  rw [show 768 = 766 + 1 + 1 by rfl, List.set_cons_succ, List.set_cons_succ, List.set_append_right _ _ (by rw [fieldC_len]; exact Nat.le_refl _), fieldC_len]; rfl
theorem new_ok (k : Nat) (hk : 1000 < k) (h : Heap) (n m : Nat) (n1 : 1 ≤ n) (n2 : n ≤ 8) (hm : m + n ≤ 12) :
    ∃ v h', acall Try.prog (k + 3) 10 [.int .i64 (n : Nat), .int .i64 (m : Nat)] h = some (v, h') ∧ ∃ b rv, v = .tup [.ptr b 0, .int .i64 0] ∧ Cd h' (.ptr b 0) b n m rv ∧ Keep h.next nob h h' := by
  rw [acall_text [] Try.func10 (by kernel_rfl)]
  refine afuncT_ex rfl (by simp [Try.f10]) ?_
  obtain ⟨_, h1, E1, rfl, k1⟩ := make_ok (k + 1) (by omega) h
  have row : (AV.agg fieldC).row1 = some fieldC := row1_agg fieldC_one
  have s1 := i64w ((12 : Int) - (n : Int)) (by omega) (by omega)
  have s2 := i64w ((n : Int) + (m : Int)) (by omega) (by omega)
  have g2 : (h1.new (.cells (codeC n m .nils) false)).get h1.next = some (.cells (codeC n m .nils) false) := get_new_self _ _
  have k2 : Keep h.next nob h (h1.new (.cells (codeC n m .nils) false)) := k1.trans (Keep.new k1.1 _)
  have l2 : h1.next < (h1.new (.cells (codeC n m .nils) false)).next := Nat.lt_succ_self _
  obtain ⟨h2, e2⟩ : ∃ h2, h1.new (.cells (codeC n m .nils) false) = h2 := ⟨_, rfl⟩
  obtain ⟨b, hb⟩ : ∃ b, h1.next = b := ⟨_, rfl⟩
  have hbn := k1.1
  rw [e2] at g2 k2 l2
  rw [hb] at g2 l2 hbn
  have f2 : Fld h2 (.ptr b 2) := ⟨b, 2, _, _, rfl, l2, g2, fun j hj => by
    unfold codeC
    rw [show 2 + j = j + 1 + 1 by omega, List.getElem?_cons_succ, List.getElem?_cons_succ, List.getElem?_append_left (by rw [fieldC_len]; exact hj)]⟩
  obtain ⟨rv, h3, E3, N3⟩ := cauchy_ok k (by omega) h2 (.ptr b 2) f2 n m (by omega) (by omega) (by omega)
  obtain ⟨rs, R3⟩ := N3.rd
  have g3 : h3.get b = some (.cells (codeC n m .nils) false) := by rw [N3.kb.2 b l2 id]; exact g2
  have ro : rv.one = true := R3.sl.oneV
  have lay : alay h3 b 768 [rv] = some (h3.set b (.cells (codeC n m rv) false)) := by
    unfold alay
    rw [g3]
    simp only
    rw [layAt_set (by rw [codeC_len]; omega), code_set]
  have rwr := row1_one ro
  have crow := code_row n m .nils rfl
  simp [Try.f10, isLe (show (1 : Int) ≤ (n : Int) by omega), isLe (show (n : Int) ≤ 8 by omega), isLe (show (0 : Int) ≤ (m : Int) by omega), s1, s2, isLe (show (m : Int) ≤ 12 - (n : Int) by omega), E1, afill, row, fieldC_len, zz_last, crow, hb, e2, E3, rwr, ro, lay]
  obtain ⟨rsx, Rx, Ax, fx, Kx⟩ := N3
  have kx := Kx.1
  have Rx' := Rx.keep (F := fun d => d = b) (h' := h3.set b (.cells (codeC n m rv) false)) (Keep.set (F := fun d => d = b) (.inl rfl) _) (fun d hd q => by subst q; have := fx _ hd; omega)
  exact ⟨⟨rv, rfl, Nat.lt_of_lt_of_le l2 kx, get_set_self _ _ _, ⟨rsx, rows_rd Rx'⟩, n1, n2, hm⟩, Nat.le_trans k2.1 kx, fun d hd _ => by
    rw [get_set_ne (by omega), Kx.2 d (Nat.lt_of_lt_of_le hd k2.1) id, k2.2 d hd id]⟩
theorem new_no (k : Nat) (h : Heap) (n m : Int) (hn : ¬ cauIn n m) : acall Try.prog (k + 1) 10 [.int .i64 n, .int .i64 m] h = some (.tup [.nilp, .int .i64 1], h) := by
  rw [acall_text [] Try.func10 (by kernel_rfl)]
  refine afuncT_of rfl (by simp [Try.f10]) ?_
  unfold cauIn at hn
  by_cases q1 : n < 1
  · simp [Try.f10, isLt q1]
  by_cases q2 : 8 < n
  · simp [Try.f10, isLe (show 1 ≤ n by omega), isLt q2]
  by_cases q3 : m < 0
  · simp [Try.f10, isLe (show 1 ≤ n by omega), isLe (show n ≤ 8 by omega), isLt q3]
  · simp [Try.f10, isLe (show 1 ≤ n by omega), isLe (show n ≤ 8 by omega), isLe (show 0 ≤ m by omega), i64w (12 - n) (by omega) (by omega), isLt (show 12 - n < m by omega)]
section
variable {h : Heap} {b k m : Nat} {rv : AV}
theorem n_ok (f : Nat) (C : Cd h (.ptr b 0) b k m rv) : acall Try.prog (f + 1) 22 [.ptr b 0] h = some (.int .i64 ((k + m : Nat) : Int), h) := by
  rw [acall_text [] Try.func22 (by kernel_rfl)]
  refine afuncT_of rfl (by simp [Try.f22]) ?_
  have l := C.ldn
  simp [Try.f22, l]
theorem k_ok (f : Nat) (C : Cd h (.ptr b 0) b k m rv) : acall Try.prog (f + 1) 25 [.ptr b 0] h = some (.int .i64 (k : Nat), h) := by
  rw [acall_text [] Try.func25 (by kernel_rfl)]
  refine afuncT_of rfl (by simp [Try.f25]) ?_
  have l := C.ldk
  simp [Try.f25, l]
theorem sz_eq {k n : Nat} (hk : 1 ≤ k) : szN k n = if 0 < n % k then n / k + 1 else n / k := by
  unfold szN
  have e := Nat.div_add_mod n k
  have l := Nat.mod_lt n hk
  obtain ⟨q, hq⟩ : ∃ q, n / k = q := ⟨_, rfl⟩
  obtain ⟨r, hr⟩ : ∃ r, n % k = r := ⟨_, rfl⟩
  rw [hq, hr] at e ⊢
  rw [hr] at l
  subst e
  by_cases h0 : 0 < r
  · rw [if_pos h0, show k * q + r + k - 1 = k * (q + 1) + (r - 1) by rw [Nat.mul_succ]; omega, Nat.mul_add_div (by omega), Nat.div_eq_of_lt (by omega)]
  · rw [if_neg h0, show k * q + r + k - 1 = k * q + (k - 1) by omega, Nat.mul_add_div (by omega), Nat.div_eq_of_lt (by omega)]
    first | rfl | omega
theorem size_ok (f : Nat) (C : Cd h (.ptr b 0) b k m rv) (n : Nat) (hn : n < 100000000000) : acall Try.prog (f + 1) 23 [.ptr b 0, .int .i64 (n : Nat)] h = some (.int .i64 (szN k n : Nat), h) := by
  rw [acall_text [] Try.func23 (by kernel_rfl)]
  refine afuncT_of rfl (by simp [Try.f23]) ?_
  have l := C.ldk
  have k1 := C.k1
  by_cases h0 : n = 0
  · subst h0
    have e : szN k 0 = 0 := by unfold szN; rw [Nat.div_eq_of_lt (by omega)]
    simp [Try.f23, e]
  · have hne : ¬ (k : Int) = 0 := by omega
    have e1 : ((n : Nat) : Int).tdiv (k : Int) = ((n / k : Nat) : Int) := by rw [Int.ofNat_tdiv]
    have e2 : ((n : Nat) : Int).tmod (k : Int) = ((n % k : Nat) : Int) := by rw [Int.ofNat_tmod]
    have hle := Nat.div_le_self n k
    rw [sz_eq k1]
    generalize n / k = q at *
    generalize n % k = r at *
    have hk0 : ¬ k = 0 := by omega
    by_cases hr : 0 < r
    · rw [if_pos hr]
      simp [Try.f23, isLt (show (0 : Int) < (n : Int) by omega), h0, l, hne, hk0, e1, e2, isLt (show (0 : Int) < (r : Int) by omega), i64w ((q : Nat) : Int) (by omega) (by omega), i64w (((q : Nat) : Int) + 1) (by omega) (by omega), hr, show ¬ r = 0 by omega]
    · rw [if_neg hr]
      simp [Try.f23, isLt (show (0 : Int) < (n : Int) by omega), h0, l, hne, hk0, e1, e2, isLe (show (r : Int) ≤ (0 : Int) by omega), i64w ((q : Nat) : Int) (by omega) (by omega), hr, show r = 0 by omega]
end
end Go.Proofs.Ytmmibaaidfcbhaa
/- rs: mix, Encode. -/
namespace Go.Proofs.Ytmmibaaidfcbhaa
open Go Go.YtmmibaaidfcbhaaAbs
set_option linter.unusedSimpArgs false
set_option linter.unusedVariables false
set_option maxRecDepth 4000

theorem lc_nil (n : Nat) : lc n [] [] = zv n := rfl
theorem lc_snoc {n : Nat} {x : UInt8} {r : Vc} (hr : r.length = n) : ∀ {u : Vc} {M : Mt}, RowsN n M → u.length = M.length → lc n (u ++ [x]) (M ++ [r]) = addL (lc n u M) (smul x r)
  | [], [], _, _ => by
    show addL (smul x r) (zv n) = addL (zv n) (smul x r)
    rw [addL_zv (by simp [hr])]
    have : addL (zv n) (smul x r) = addL (smul x r) (zv n) := by
      refine vc_ext (by rw [addL_len (by simp [hr]), addL_len (by simp [hr])]; simp [hr]) fun j hj => ?_
      rw [addL_get _ _ _ (by simp [hr]), addL_get _ _ _ (by simp [hr]), UInt8.xor_comm]
    rw [this, addL_zv (by simp [hr])]
  | y :: u, s :: M, h, hl => by
    have hl' : u.length = M.length := by simpa using hl
    show addL (smul y s) (lc n (u ++ [x]) (M ++ [r])) = addL (addL (smul y s) (lc n u M)) (smul x r)
    rw [lc_snoc hr h.tl hl', addL_assoc (by rw [lc_len h.tl, smul_len, h.hd]) (by rw [lc_len h.tl, smul_len, hr])]
  | [], _ :: _, _, hl => by simp at hl
  | _ :: _, [], _, hl => by simp at hl
theorem RowsN.take {n : Nat} {M : Mt} (h : RowsN n M) (j : Nat) : RowsN n (M.take j) := fun r hr => h r (List.mem_of_mem_take hr)
theorem addL_smul0 {n : Nat} {a r : Vc} (ha : a.length = n) (hr : r.length = n) : addL a (smul 0 r) = a := by
  rw [smul_zero, addL_zv (by rw [ha, hr])]
theorem takeP {α : Type} {A : List α} {i : Nat} {L : α} (h : A[i]? = some L) : A.take i ++ [L] = A.take (i + 1) := by rw [List.take_add_one, h]; rfl
theorem take_lc {n : Nat} {u : Vc} {D : Mt} (hD : RowsN n D) (hl : u.length = D.length) {j : Nat} {x : UInt8} (hx : u[j]? = some x) : lc n (u.take (j + 1)) (D.take (j + 1)) = addL (lc n (u.take j) (D.take j)) (smul x (rowA D j)) := by
  have hj := (List.getElem?_eq_some_iff.1 hx).1
  rw [← takeP hx, ← takeP (rowA_mem (A := D) (i := j) (by omega)).1]
  exact lc_snoc (hD.row (by omega)) (hD.take j) (by rw [List.length_take, List.length_take]; omega)

set_option maxHeartbeats 4000000 in
theorem mix_ok (f : Nat) (h : Heap) (b sz : Nat) (F : Fld h (.ptr b 2)) (rv dv : AV) (u : Vc) (rs : List AV) (D : Mt) (S : Sl 1 u.length h rv (u.map bb)) (R : Rd h dv rs D) (hD : RowsN sz D) (hl : u.length = D.length) (hs : sz + 50 < f) (hm : sz < 1000000000) (hu : u.length ≤ 12) :
    ∃ v' h', acall Try.prog (f + 2) 30 [.ptr b 0, rv, dv, .int .i64 (sz : Nat)] h = some (v', h') ∧ Mine 1 sz h' v' ((lc sz u D).map bb) ∧ (∀ d, Has v' d → h.next ≤ d) ∧ Keep h.next nob h h' := by
  rw [acall_text [9] Try.func30 (by kernel_rfl)]
  refine afuncT_ex rfl (by simp [Try.f30]) ?_
  have lr := S.len'
  have Mz := new_row h (zv sz) sz (zv_len sz)
  rw [zv_bb] at Mz
  have Kz : Keep h.next nob h (h.new (.cells (List.replicate sz (.int .u8 0)) false)) := Keep.new (Nat.le_refl _) _
  obtain ⟨ov, hov⟩ : ∃ ov, AV.sl h.next 0 sz sz 1 true = ov := ⟨_, rfl⟩
  have Fz : ∀ d, Has ov d → h.next ≤ d := fun d hd => by rw [← hov] at hd; cases hd; exact Nat.le_refl _
  simp [Try.f30, lr, aalloc_make (P := Try.prog) el47 (z := [.int .u8 0]) az5 rfl rfl sz sz (Nat.le_refl _) (by omega), flat1, afill]
  rw [hov] at Mz ⊢
  refine W_cutLoop 0 (fun st => st.t.get 9 = some ov ∧ Mine 1 sz st.h ov ((lc sz u D).map bb) ∧ Keep h.next nob h st.h) ?_ ?_
  · refine W_loop (fun mm st => ∃ j : Nat, mm = u.length - j ∧ j ≤ u.length ∧ st.t.get 0 = some (.ptr b 0) ∧ st.t.get 2 = some dv ∧ st.t.get 9 = some ov ∧ st.t.get 16 = some rv ∧ st.t.get 17 = some (.int .i64 (u.length : Nat)) ∧ st.t.get 18 = some (.int .i64 (j : Nat)) ∧ Mine 1 sz st.h ov ((lc sz (u.take j) (D.take j)).map bb) ∧ Keep h.next nob h st.h) u.length (by omega)
      ⟨0, by omega, by omega, by simp, by simp, by simp, by simp, by simp, by simp, by rw [List.take_zero, List.take_zero, lc_nil, zv_bb]; exact Mz, Kz⟩ ?_
    rintro mm ⟨t, h3⟩ ⟨j, rfl, hj, q0, q2, q9, q16, q17, q18, M3, K3⟩
    simp only at q0 q2 q9 q16 q17 q18 M3 K3
    by_cases hlt : j < u.length
    · obtain ⟨x, hx⟩ := getb hlt
      have S3 := S.ext K3
      have R3 := R.ext K3
      have ixr := S3.idx1 (P := Try.prog) Try.underlying47 ts5 (j := j) hlt .i64
      have ldr : aload Try.prog h3 5 rv.blk (rv.off + j) = some (.int .u8 (x.toNat : Nat)) := S3.ld (P := Try.prog) ta5 (bb_get hx)
      have hstep := take_lc hD hl hx
      obtain ⟨A, hA⟩ : ∃ A, lc sz (u.take j) (D.take j) = A := ⟨_, rfl⟩
      have hAl : A.length = sz := by rw [← hA]; exact lc_len (hD.take j)
      have hDl := hD.row (k := j) (by omega)
      rw [hA] at M3 hstep
      by_cases hz : x = 0
      · subst hz
        rw [addL_smul0 hAl hDl] at hstep
        simp [q0, q2, q9, q16, q17, q18, isLt (show (j : Int) < (u.length : Int) by omega), ixr, ldr, i64w ((j : Int) + 1) (by omega) (by omega)]
        exact ⟨u.length - (j + 1), by omega, j + 1, rfl, by omega, by simp, by rw [hstep]; exact M3, K3⟩
      · have hz' := (b_not0 hz).1
        have hz2 := (b_not0 hz).2.1
        obtain ⟨r, hr, Sr⟩ := R3.get (i := j) (by omega)
        have ixd := R3.sl.idx1 (P := Try.prog) Try.underlying53 ts47 (j := j) (by omega) .i64
        have ldd := R3.sl.ld (P := Try.prog) ta47 hr
        have lrr := Sr.len'
        rw [hDl] at lrr
        obtain ⟨B, hB⟩ : ∃ B, addL A (smul x (rowA D j)) = B := ⟨_, rfl⟩
        have hBl : B.length = A.length := by rw [← hB]; exact addL_len (by rw [smul_len]; omega)
        simp [q0, q2, q9, q16, q17, q18, isLt (show (j : Int) < (u.length : Int) by omega), ixr, ldr, hz, hz', hz2, ixd, ldd, lrr]
        refine W_cutLoop 2 (fun st => st.t.get 0 = some (.ptr b 0) ∧ st.t.get 2 = some dv ∧ st.t.get 9 = some ov ∧ st.t.get 16 = some rv ∧ st.t.get 17 = some (.int .i64 (u.length : Nat)) ∧ st.t.get 18 = some (.int .i64 (j : Nat)) ∧ Mine 1 sz st.h ov (B.map bb) ∧ Keep h.next nob h st.h) ?_ ?_
        · refine W_loop (fun mm st => ∃ i : Nat, mm = sz - i ∧ i ≤ sz ∧ st.t.get 0 = some (.ptr b 0) ∧ st.t.get 2 = some dv ∧ st.t.get 9 = some ov ∧ st.t.get 11 = some (.int .u8 (x.toNat : Nat)) ∧ st.t.get 16 = some rv ∧ st.t.get 17 = some (.int .i64 (u.length : Nat)) ∧ st.t.get 18 = some (.int .i64 (j : Nat)) ∧ st.t.get 28 = some r ∧ st.t.get 29 = some (.int .i64 (sz : Nat)) ∧ st.t.get 30 = some (.int .i64 (i : Nat)) ∧ Mine 1 sz st.h ov ((mixL B A i).map bb) ∧ Keep h.next nob h st.h) sz (by omega)
            ⟨0, by omega, by omega, by simp [q0], by simp [q2], by simp [q9], by simp, by simp [q16], by simp [q17], by simp [q18], by simp, by simp, by simp, by rw [mixL_0]; exact M3, K3⟩ ?_
          clear q0 q2 q9 q16 q17 q18
          rintro mm ⟨t, h5⟩ ⟨i, rfl, hi, q0, q2, q9, q11, q16, q17, q18, q28, q29, q30, M5, K5⟩
          simp only at q0 q2 q9 q11 q16 q17 q18 q28 q29 q30 M5 K5
          by_cases his : i < sz
          · obtain ⟨y, hy⟩ : ∃ y, (rowA D j)[i]? = some y := ⟨(rowA D j)[i]'(by omega), by simp⟩
            obtain ⟨a, ha⟩ : ∃ a, A[i]? = some a := ⟨A[i]'(by omega), by simp⟩
            obtain ⟨r', hr', Sr5⟩ := (R.ext K5).get (i := j) (by omega)
            have er : r' = r := Option.some.inj (hr'.symm.trans hr)
            subst er
            have F5 := F.ext K5
            have ixy := row_ix Sr5 (j := i) (by omega)
            have ldy := row_ld Sr5 (j := i) (by omega)
            rw [hy, Option.getD_some] at ldy
            have lmx : (mixL B A i).length = sz := by rw [mixL_len hBl]; omega
            have ixo := M5.sl.idx1 (P := Try.prog) Try.underlying47 ts5 (j := i) (by omega) .i64
            have ldo : aload Try.prog h5 5 ov.blk (ov.off + i) = some (.int .u8 (a.toNat : Nat)) := M5.sl.ld (P := Try.prog) (e := 5) ta5 (j := i) (x := bb a) (by rw [List.getElem?_map, mixL_get hBl (Nat.le_refl _), ha]; rfl)
            have mul := mulB_ok f h5 _ F5 x y
            obtain ⟨h6, a6, M6, K6, n6⟩ := M5.lay1 (j := i) (x := .int .u8 ((a ^^^ gm x y).toNat : Nat)) his rfl
            have e6 : ((mixL B A i).map bb).set i (.int .u8 ((a ^^^ gm x y).toNat : Nat)) = (mixL B A (i + 1)).map bb := by
              rw [← mixL_set hBl (show B[i]? = some (a ^^^ gm x y) by rw [← hB]; exact addL_at ha (smul_at hy)), List.map_set]; rfl
            rw [e6] at M6
            rw [UInt8.toNat_xor] at a6
            have K6' : Keep h.next nob h h6 := K5.trans ⟨K6.1, fun d hd _ => K6.2 d (Nat.lt_of_lt_of_le hd K5.1) fun q => by have := Fz d q; omega⟩
            have ag : Agree h5.next h5 h5 := fun _ _ => rfl
            have olt := M5.sl.blk_lt (by omega)
            simp [q0, q2, q9, q11, q16, q17, q18, q28, q29, q30, isLt (show (i : Int) < (sz : Int) by omega), ixy, ldy]
            refine W_split 10 h5.next (by rfl) (by kernel_rfl) (by rfl) ?_
            dsimp only [List.take, List.drop]
            simp [obl, mayEff, mayRead, sameAV, q0, q2, q9, q11, q16, q17, q18, q28, q29, q30, ixo, ldo, mul, ag, olt, a6, xor_u8, i64w ((i : Int) + 1) (by omega) (by omega)]
            exact ⟨sz - (i + 1), by omega, i + 1, rfl, by omega, by simp, M6, K6'⟩
          · have e : i = B.length := by omega
            rw [e, mixL_all hBl] at M5
            simp [q0, q2, q9, q11, q16, q17, q18, q28, q29, q30, isLe (show (sz : Int) ≤ (i : Int) by omega)]
            exact ⟨M5, K5⟩
        · clear q0 q2 q9 q16 q17 q18
          rintro ⟨t, h5⟩ ⟨q0, q2, q9, q16, q17, q18, M5, K5⟩
          simp only at q0 q2 q9 q16 q17 q18 M5 K5
          simp [q0, q2, q9, q16, q17, q18, i64w ((j : Int) + 1) (by omega) (by omega)]
          exact ⟨u.length - (j + 1), by omega, j + 1, rfl, by omega, by simp, by rw [hstep, hB]; exact M5, K5⟩
    · have e : j = u.length := by omega
      rw [e, List.take_length, hl, List.take_length] at M3
      simp [q0, q2, q9, q16, q17, q18, e]
      exact ⟨M3, K3⟩
  · rintro ⟨t, h3⟩ ⟨q9, M3, K3⟩
    simp only at q9 M3 K3
    simp [q9]
    exact ⟨M3, Fz, K3⟩
theorem cauM_get {k m i : Nat} (h : i < k + m) : (cauM k m)[i]? = some (cauR k i) := by simp [cauM, h]
/-- Bytes, and noughts up to a length. -/
def padL (L : Vc) (n : Nat) : Vc := L ++ List.replicate (n - L.length) 0
theorem padL_len {L : Vc} {n : Nat} (h : L.length ≤ n) : (padL L n).length = n := by simp [padL]; omega
/-- A value in k rows. -/
def dataM (k sz : Nat) (L : Vc) : Mt := (List.range k).map fun i => ((padL L (k * sz)).drop (i * sz)).take sz
@[simp] theorem dataM_len (k sz : Nat) (L : Vc) : (dataM k sz L).length = k := by simp [dataM]
theorem mul_ge {k i sz : Nat} (h : i < k) : (i + 1) * sz ≤ k * sz := Nat.mul_le_mul_right _ h
theorem dataM_rows {k sz : Nat} {L : Vc} (h : L.length ≤ k * sz) : RowsN sz (dataM k sz L) := fun r hr => by
  obtain ⟨i, hi, rfl⟩ := List.mem_map.1 hr
  have := mul_ge (sz := sz) (List.mem_range.1 hi)
  rw [Nat.succ_mul] at this
  rw [List.length_take, List.length_drop, padL_len h]; omega
theorem dataM_row {k sz : Nat} {L : Vc} {i : Nat} (h : i < k) : (dataM k sz L)[i]? = some (((padL L (k * sz)).drop (i * sz)).take sz) := by simp [dataM, h]
theorem szN_fits {k n : Nat} (hk : 1 ≤ k) : n ≤ k * szN k n ∧ k * szN k n < n + k := by
  unfold szN
  have e := Nat.div_add_mod (n + k - 1) k
  have l := Nat.mod_lt (n + k - 1) hk
  omega
theorem szN_le {k n : Nat} (hk : 1 ≤ k) : szN k n ≤ n := by
  unfold szN
  rcases Nat.eq_zero_or_pos n with h | h
  · subst h; rw [Nat.div_eq_of_lt (by omega)]; exact Nat.le_refl _
  · have := Nat.div_lt_of_lt_mul (m := n + k - 1) (n := k) (k := n + 1) (by rw [Nat.mul_succ]; have : n ≤ k * n := Nat.le_mul_of_pos_left n hk; omega)
    omega
/-- The fragments of a value. -/
def encP (k m : Nat) (L : Vc) : Mt := mtT (szN k L.length) (cauM k m) (dataM k (szN k L.length) L)
@[simp] theorem encP_len (k m : Nat) (L : Vc) : (encP k m L).length = k + m := by simp [encP, mtT, cauM]
theorem encP_rows {k m : Nat} (hk : 1 ≤ k) (L : Vc) : RowsN (szN k L.length) (encP k m L) := mtT_rows (dataM_rows (szN_fits hk).1) _
/-- A text of these bytes. -/
def tx (L : Vc) : AV := .str ⟨⟨L⟩⟩
def bl (s : ByteArray) : Vc := s.data.toList
theorem bl_len (s : ByteArray) : (bl s).length = s.size := rfl
theorem bl_tx (s : ByteArray) : tx (bl s) = .str s := rfl
theorem acopy_str {P : Program} {dt e : TypeId} (hu : P.underlying dt = some (.slice e)) (hs : tsize P e = some 1) {h h' : Heap} {s : ByteArray} {b i m cap : Nat} {ex : Bool} (hnm : s.size ≤ m) (hlay : alay h b i ((bl s).map bb) = some h') :
    acopy P h dt (.sl b i m cap 1 ex) (.str s) = some (.int .i64 (s.size : Nat), h') := by
  have hlen : (bl s).length = s.size := rfl
  unfold acopy
  simp only [hu, hs]
  rw [show alen (.sl b i m cap 1 ex) = some m from rfl, show alen (.str s) = some s.size from rfl]
  simp only
  rw [show Nat.min s.size m = s.size from Nat.min_eq_left hnm, show acells h 1 s.size (.str s) = some ((bl s).map bb) from by
    show (if (1 : Nat) = 1 then some ((s.data.toList.take s.size).map fun b => AV.int .u8 (b.toNat : Nat)) else none) = _
    rw [if_pos rfl, show s.data.toList.take s.size = s.data.toList from List.take_of_length_le (Nat.le_refl _)]; rfl]
  simp only
  rw [if_neg (by rw [bb_one]; simp [hlen])]
  simp only [hlay]
  simp
theorem lay_pref (h : Heap) (L : Vc) {n : Nat} (hn : L.length ≤ n) : alay (h.new (.cells (List.replicate n (.int .u8 0)) false)) h.next 0 (L.map bb) = some (h.new (.cells ((padL L n).map bb) false)) := by
  unfold alay
  rw [get_new_self]
  simp only
  rw [layAt_all _ _ _ (by rw [List.length_map, List.length_replicate]; omega)]
  simp [padL]
  rfl
theorem pad_sl (h : Heap) (L : Vc) {n : Nat} (hn : L.length ≤ n) : Sl 1 n (h.new (.cells ((padL L n).map bb) false)) (.sl h.next 0 n n 1 true) ((padL L n).map bb) :=
  .inr (.inr ⟨h.next, 0, n, true, _, false, rfl, Nat.lt_succ_self _, get_new_self _ _, by rw [List.length_map, padL_len hn, Nat.mul_one], by rw [List.length_map, padL_len hn]; omega, by rw [List.drop_zero, List.take_of_length_le (by rw [List.length_map, padL_len hn]; omega)], Nat.le_refl _⟩)

set_option maxHeartbeats 4000000 in
theorem enc_ok (f : Nat) (h : Heap) (b k m : Nat) (rv : AV) (C : Cd h (.ptr b 0) b k m rv) (s : ByteArray) (hs : s.size + 100 < f) (hm : s.size < 10000000) :
    ∃ v' h', acall Try.prog (f + 3) 11 [.ptr b 0, .str s] h = some (v', h') ∧ Mine 1 (k + m) h' v' ((encP k m (bl s)).map tx) ∧ (∀ d, Has v' d → h.next ≤ d) ∧ Keep h.next nob h h' := by
  rw [acall_text [] Try.func11 (by kernel_rfl)]
  refine afuncT_ex rfl (by simp [Try.f11]) ?_
  have k1 := C.k1
  have k8 := C.k8
  have km := C.km
  obtain ⟨sz, hsz⟩ : ∃ sz, szN k s.size = sz := ⟨_, rfl⟩
  have E1 := size_ok (f + 1) C s.size (by omega)
  rw [hsz] at E1
  obtain ⟨q1, q2⟩ := szN_fits (k := k) (n := s.size) k1
  have q3 := szN_le (k := k) (n := s.size) k1
  rw [hsz] at q1 q2 q3
  have hN8 : k * sz ≤ 8 * sz := Nat.mul_le_mul_right _ k8
  obtain ⟨N, hN⟩ : ∃ N, k * sz = N := ⟨_, rfl⟩
  rw [hN] at q1 q2 hN8
  have sN : fwrap .i64 ((k : Int) * (sz : Int)) = (N : Nat) := by rw [← Int.natCast_mul, hN, i64w _ (by omega) (by omega)]
  have l0 := C.ldk
  have lay := lay_pref h (bl s) (n := N) q1
  have Ka : Keep h.next nob h (h.new (.cells ((padL (bl s) N).map bb) false)) := Keep.new (Nat.le_refl _) _
  have Sa := pad_sl h (bl s) (n := N) q1
  have cp := acopy_str (P := Try.prog) (dt := 47) Try.underlying47 ts5 (h := h.new (.cells (List.replicate N (.int .u8 0)) false)) (s := s) (b := h.next) (i := 0) (m := N) (cap := N) (ex := true) q1 lay
  obtain ⟨h1, e1⟩ : ∃ h1, h.new (.cells ((padL (bl s) N).map bb) false) = h1 := ⟨_, rfl⟩
  obtain ⟨al, hal⟩ : ∃ al, AV.sl h.next 0 N N 1 true = al := ⟨_, rfl⟩
  rw [e1] at cp Ka Sa
  rw [hal] at cp Sa
  have C1 := C.ext Ka
  have l1 := C1.ldk
  have Md := Mine.new (sz := 1) (n := k) (m := k) h1 (List.replicate k .nils) (by simp) (Nat.le_refl _) (by simp) true
  rw [Nat.mul_one, List.take_of_length_le (by simp)] at Md
  have Kd : Keep h1.next nob h1 (h1.new (.cells (List.replicate k .nils) false)) := Keep.new (Nat.le_refl _) _
  obtain ⟨dv, hdv⟩ : ∃ dv, AV.sl h1.next 0 k k 1 true = dv := ⟨_, rfl⟩
  have Fd : ∀ d, Has dv d → h1.next ≤ d := fun d hd => by rw [← hdv] at hd; cases hd; exact Nat.le_refl _
  have ld : ∀ (k' : Heap) (e : TypeId), vlen' k' dv (some (.slice e)) = some (.int .i64 (k : Nat)) := fun k' e => by rw [← hdv]; rfl
  simp [Try.f11, E1, l0, sN, aalloc_make (P := Try.prog) el47 (z := [.int .u8 0]) az5 rfl rfl N N (Nat.le_refl _) (by omega), flat1, afill, hal, cp, l1, aalloc_make (P := Try.prog) el53 (z := [.nils]) az47 rfl rfl k k (Nat.le_refl _) (by omega)]
  rw [hdv] at Md ⊢
  simp [ld]
  obtain ⟨D, hD⟩ : ∃ D, dataM k sz (bl s) = D := ⟨_, rfl⟩
  have hDl : D.length = k := by rw [← hD]; simp
  have hDr : RowsN sz D := by rw [← hD]; exact dataM_rows (by rw [hN]; exact q1)
  refine W_cutLoop 0 (fun st => st.t.get 0 = some (.ptr b 0) ∧ st.t.get 5 = some (.int .i64 (sz : Nat)) ∧ st.t.get 7 = some dv ∧ (∃ rs, Rd st.h dv rs D) ∧ Keep h.next nob h st.h) ?_ ?_
  · refine W_loop (fun mm st => ∃ (i : Nat) (rs : List AV), mm = k - i ∧ i ≤ k ∧ st.t.get 0 = some (.ptr b 0) ∧ st.t.get 5 = some (.int .i64 (sz : Nat)) ∧ st.t.get 6 = some al ∧ st.t.get 7 = some dv ∧ st.t.get 32 = some (.int .i64 (k : Nat)) ∧ st.t.get 33 = some (.int .i64 (i : Nat)) ∧ rs.length = k ∧ Mine 1 k st.h dv rs ∧ (∀ (j : Nat) (r : AV) (L : Vc), j < i → rs[j]? = some r → D[j]? = some L → Sl 1 L.length h1 r (L.map bb)) ∧ Keep h1.next nob h1 st.h) k (by omega)
      ⟨0, List.replicate k .nils, by omega, by omega, by simp, by simp, by simp, by simp, by simp, by simp, by simp, Md, fun j r L hj => absurd hj (Nat.not_lt_zero _), Kd⟩ ?_
    rintro mm ⟨t, h3⟩ ⟨i, rs, rfl, hi, q0, q5, q6, q7, q32, q33, hrs, M3, R3, K3⟩
    simp only at q0 q5 q6 q7 q32 q33 M3 K3
    by_cases hlt : i < k
    · have hmul := mul_ge (sz := sz) hlt
      rw [hN] at hmul
      obtain ⟨p, hp⟩ : ∃ p, i * sz = p := ⟨_, rfl⟩
      obtain ⟨q, hq⟩ : ∃ q, (i + 1) * sz = q := ⟨_, rfl⟩
      have hpq : q = p + sz := by rw [← hq, Nat.succ_mul, hp]
      rw [hq] at hmul
      have sp : fwrap .i64 ((i : Int) * (sz : Int)) = (p : Nat) := by rw [← Int.natCast_mul, hp, i64w _ (by omega) (by omega)]
      have sq : fwrap .i64 (((i : Int) + 1) * (sz : Int)) = (q : Nat) := by rw [show ((i : Int) + 1) * (sz : Int) = (((i + 1) * sz : Nat) : Int) by simp, hq, i64w _ (by omega) (by omega)]
      obtain ⟨r, a1, a2⟩ := Sa.sub (P := Try.prog) (ty := 47) Try.underlying47 ts5 (k := .i64) (k' := .i64) (i := p) (j := q) (by omega) hmul
      rw [Nat.mul_one, Nat.mul_one, show q - p = sz by omega, ← List.map_drop, ← List.map_take] at a2
      have hDi : D[i]? = some (((padL (bl s) N).drop p).take sz) := by rw [← hD, dataM_row hlt, hN, hp]
      have hLl := hDr _ (List.mem_of_getElem? hDi)
      have ixd := M3.sl.idx1 (P := Try.prog) Try.underlying53 ts47 (j := i) hlt .i64
      obtain ⟨h4, b1, b2, b3, b4⟩ := M3.lay1 (j := i) (x := r) hlt a2.oneV
      have rwr := row1_one a2.oneV
      simp [q0, q5, q6, q7, q32, q33, isLt (show (i : Int) < (k : Int) by omega), sp, i64w ((i : Int) + 1) (by omega) (by omega), sq, a1, ixd, rwr, a2.oneV, b1]
      refine ⟨k - (i + 1), by omega, i + 1, rfl, by omega, by simp, rs.set i r, by simp [hrs], b2, fun j r' L hj hr hL => ?_, K3.trans ⟨b3.1, fun d hd _ => b3.2 d (Nat.lt_of_lt_of_le hd K3.1) fun q => by have := Fd d q; omega⟩⟩
      by_cases hji : i = j
      · subst hji
        rw [List.getElem?_set_self (by omega)] at hr
        rw [hDi] at hL
        cases hr
        cases hL
        rw [hLl]
        exact a2
      · rw [List.getElem?_set_ne hji] at hr
        exact R3 j r' L (by omega) hr hL
    · have e : i = k := by omega
      subst e
      simp [q0, q5, q6, q7, q32, q33]
      exact ⟨⟨rs, by rw [hDl]; exact M3.sl, fun j r L hr hL => (R3 j r L (by have := (List.getElem?_eq_some_iff.1 hL).1; omega) hr hL).ext K3⟩, Ka.trans (K3.weak Ka.1 fun _ _ q => q)⟩
  rintro ⟨t, h3⟩ ⟨q0, q5, q7, ⟨rs, R3⟩, K3⟩
  simp only at q0 q5 q7 R3 K3
  have C3 := C.ext K3
  have ln := C3.ldn
  obtain ⟨n, hn⟩ : ∃ n, k + m = n := ⟨_, rfl⟩
  rw [hn] at ln ⊢
  have Ko : Keep h3.next nob h3 (h3.new (.cells (List.replicate n (.str .empty)) false)) := Keep.new (Nat.le_refl _) _
  have C4 := C3.ext Ko
  have lr := C4.ldr
  obtain ⟨rsc, Rc⟩ := C4.rows
  have lrc := Rc.sl.len'
  rw [show (cauM k m).length = n by simp [cauM, hn]] at lrc
  have Mo := Mine.new (sz := 1) (n := n) (m := n) h3 (List.replicate n (.str .empty)) (by simp) (Nat.le_refl _) (by simp) true
  rw [Nat.mul_one, List.take_of_length_le (by simp)] at Mo
  obtain ⟨ov, hov⟩ : ∃ ov, AV.sl h3.next 0 n n 1 true = ov := ⟨_, rfl⟩
  have Fo : ∀ d, Has ov d → h3.next ≤ d := fun d hd => by rw [← hov] at hd; cases hd; exact Nat.le_refl _
  simp [q0, q5, q7, ln, aalloc_make (P := Try.prog) el26 (z := [.str .empty]) az9 rfl rfl n n (Nat.le_refl _) (by omega), flat1, lr, lrc]
  rw [hov] at Mo ⊢
  have R4 := R3.ext Ko
  obtain ⟨h4, e4⟩ : ∃ h4, h3.new (.cells (List.replicate n (.str .empty)) false) = h4 := ⟨_, rfl⟩
  rw [e4] at Mo Ko R4 Rc C4 ⊢
  obtain ⟨E, hE⟩ : ∃ E, encP k m (bl s) = E := ⟨_, rfl⟩
  have hEe : E = mtT sz (cauM k m) D := by rw [← hE]; unfold encP; rw [bl_len, hsz, hD]
  have hEl : E.length = n := by rw [← hE, encP_len, hn]
  rw [hE]
  have hml : (E.map tx).length = (List.replicate n (AV.str .empty)).length := by simp [hEl]
  refine W_cutLoop 2 (fun st => st.t.get 9 = some ov ∧ Mine 1 n st.h ov (E.map tx) ∧ Keep h3.next nob h3 st.h) ?_ ?_
  · refine W_loop (fun mm st => ∃ (i : Nat), mm = n - i ∧ i ≤ n ∧ st.t.get 0 = some (.ptr b 0) ∧ st.t.get 5 = some (.int .i64 (sz : Nat)) ∧ st.t.get 7 = some dv ∧ st.t.get 9 = some ov ∧ st.t.get 57 = some rv ∧ st.t.get 58 = some (.int .i64 (n : Nat)) ∧ st.t.get 59 = some (.int .i64 (i : Nat)) ∧ Mine 1 n st.h ov (mixL (E.map tx) (List.replicate n (.str .empty)) i) ∧ Keep h3.next nob h3 st.h ∧ Keep h4.next (Has ov) h4 st.h) n (by omega)
      ⟨0, by omega, by omega, by simp [q0], by simp [q5], by simp [q7], by simp, by simp, by simp, by simp, by rw [mixL_0]; exact Mo, Ko, Keep.refl _ _ _⟩ ?_
    clear q0 q5 q7
    rintro mm ⟨t, h5⟩ ⟨i, rfl, hi, q0, q5, q7, q9, q57, q58, q59, M5, K5, K45⟩
    simp only at q0 q5 q7 q9 q57 q58 q59 M5 K5 K45
    have olt : ∀ d, Has ov d → h3.next ≤ d ∧ d < h4.next := fun d hd => ⟨Fo d hd, Mo.lt hd⟩
    by_cases hlt : i < n
    · have C5 := C3.ext K5
      obtain ⟨rs5, Rc5⟩ := C5.rows
      have R5 := R3.ext K5
      obtain ⟨r, hr, Sr⟩ := Rc5.get (i := i) (by simp [cauM]; omega)
      have hcr : rowA (cauM k m) i = cauR k i := rowA_get (cauM_get (by omega))
      rw [hcr] at Sr
      have ixr := Rc5.sl.idx1 (P := Try.prog) Try.underlying53 ts47 (j := i) (by simp [cauM]; omega) .i64
      have ldr := Rc5.sl.ld (P := Try.prog) ta47 hr
      obtain ⟨w, h6, E6, M6, F6, K6⟩ := mix_ok f h5 b sz C5.fld r dv (cauR k i) _ D Sr R5 hDr (by rw [cauR_len, hDl]) (by omega) (by omega) (by rw [cauR_len]; omega)
      have M6o := M5.ext K6
      have cv : aconv Try.prog h6 47 9 w = some (.str ⟨⟨lc sz (cauR k i) D⟩⟩, h6) := aconv_bs M6.sl Try.underlying47 Try.underlying9 Try.underlying5
      have hEi : E[i]? = some (lc sz (cauR k i) D) := by
        rw [hEe]
        unfold mtT
        rw [List.getElem?_map, cauM_get (show i < k + m by omega)]; rfl
      have ixo := M6o.sl.idx1 (P := Try.prog) Try.underlying26 ts9 (j := i) hlt .i64
      obtain ⟨h7, a7, M7, K7, n7⟩ := M6o.lay1 (j := i) (x := tx (lc sz (cauR k i) D)) hlt rfl
      rw [mixL_set hml (show (E.map tx)[i]? = some (tx (lc sz (cauR k i) D)) by rw [List.getElem?_map, hEi]; rfl)] at M7
      have a7 : alay h6 ov.blk (ov.off + i) [.str ⟨⟨lc sz (cauR k i) D⟩⟩] = some h7 := a7
      have K7' : Keep h3.next nob h3 h7 := (K5.trans (K6.weak K5.1 fun _ _ q => q)).trans ⟨K7.1, fun d hd _ => K7.2 d (Nat.lt_of_lt_of_le hd (Nat.le_trans K5.1 K6.1)) fun q => by have := Fo d q; omega⟩
      have K47 : Keep h4.next (Has ov) h4 h7 := (K45.trans (K6.weak K45.1 fun _ _ q => q.elim)).trans (K7.weak (Nat.le_trans K45.1 K6.1) fun _ _ q => q)
      simp [q0, q5, q7, q9, q57, q58, q59, isLt (show (i : Int) < (n : Int) by omega), ixr, ldr, E6, cv, ixo, a7, i64w ((i : Int) + 1) (by omega) (by omega)]
      exact ⟨n - (i + 1), by omega, i + 1, rfl, by omega, by simp, M7, K7', K47⟩
    · have e : i = (E.map tx).length := by rw [List.length_map]; omega
      rw [e, mixL_all hml] at M5
      simp [q0, q5, q7, q9, q57, q58, q59, isLe (show (n : Int) ≤ (i : Int) by omega)]
      exact ⟨M5, K5⟩
  · clear q0 q5 q7
    rintro ⟨t, h5⟩ ⟨q9, M5, K5⟩
    simp only at q9 M5 K5
    simp [q9]
    exact ⟨M5, fun d hd => Nat.le_trans K3.1 (Fo d hd), K3.trans (K5.weak K3.1 fun _ _ q => q)⟩
end Go.Proofs.Ytmmibaaidfcbhaa
/- depotlaw3: short; a code of any two numbers. -/
namespace Go.Proofs.Ytmmibaaidfcbhaa
open Go Go.YtmmibaaidfcbhaaAbs
set_option linter.unusedSimpArgs false
set_option linter.unusedVariables false
set_option maxRecDepth 4000

def shortN (n : Nat) (s : ByteArray) : ByteArray := if s.size ≤ n then s else s.extract 0 n
theorem shortN_le (n : Nat) (s : ByteArray) : (shortN n s).size ≤ n := by
  unfold shortN
  split
  · assumption
  · simp
    omega
theorem short3_ok (k : Nat) (s : ByteArray) (n : Nat) (h : Heap) : acall Try.prog (k + 1) 15 [.str s, .int .i64 (n : Nat)] h = some (.str (shortN n s), h) := by
  rw [acall_text [] Try.func15 (by kernel_rfl)]
  refine afuncT_of rfl (by simp [Try.f15]) ?_
  unfold shortN
  by_cases hb : s.size ≤ n
  · rw [if_pos hb]
    simp [Try.f15, isLe (show (s.size : Int) ≤ (n : Int) by omega)]
  · rw [if_neg hb]
    simp [Try.f15, isLt (show (n : Int) < (s.size : Int) by omega), aslice_strTo Try.underlying9 (s := s) (k := .i64) (n := (n : Int)) (by omega) (by omega)]
/-- A code of any two numbers, brought into their bounds. -/
theorem rs_start (k : Nat) (hk : 2000 < k) (h : Heap) (a0 a1 : Int) : ∃ n m : Nat, acall Try.prog (k + 10) 14 [.int .i64 a0, .int .i64 1, .int .i64 8] h = some (.int .i64 (n : Nat), h) ∧ fwrap .i64 (12 - (n : Int)) = 12 - (n : Int) ∧
    acall Try.prog (k + 10) 14 [.int .i64 a1, .int .i64 0, .int .i64 (12 - (n : Int))] h = some (.int .i64 (m : Nat), h) ∧
    ∃ h' b rv, acall Try.prog (k + 10) 10 [.int .i64 (n : Nat), .int .i64 (m : Nat)] h = some (.tup [.ptr b 0, .int .i64 0], h') ∧ Cd h' (.ptr b 0) b n m rv ∧ Keep h.next nob h h' := by
  obtain ⟨n, W1, n1, n2⟩ := within_nat (k + 9) a0 1 8 (by omega) (by omega) (by omega) h
  obtain ⟨m, W2, m1, m2⟩ := within_nat (k + 9) a1 0 (12 - (n : Int)) (by omega) (by omega) (by omega) h
  obtain ⟨v, h', E, b, rv, rfl, C, K⟩ := new_ok (k + 7) (by omega) h n m (by omega) (by omega) (by omega)
  exact ⟨n, m, W1, i64w _ (by omega) (by omega), W2, h', b, rv, E, C, K⟩
theorem szN_mono {k x y : Nat} (h : x ≤ y) : szN k x ≤ szN k y := Nat.div_le_div_right (by omega)
theorem szN_more {k x : Nat} (hk : 1 ≤ k) : szN k (x + k) = szN k x + 1 := by
  unfold szN
  rw [show x + k + k - 1 = (x + k - 1) + k by omega, Nat.add_div_right _ hk]
/-- An element of a row of texts. -/
theorem txs_at {n : Nat} {h : Heap} {v : AV} {E : Mt} (S : Sl 1 n h v (E.map tx)) {i : Nat} (hi : i < E.length) : aindex Try.prog 26 v (.int .i64 (i : Nat)) = some (.ptr v.blk (v.off + i)) ∧ aload Try.prog h 9 v.blk (v.off + i) = some (tx (rowA E i)) ∧ v.blk < h.next := by
  have hl := S.length
  rw [List.length_map, Nat.mul_one] at hl
  exact ⟨S.idx1 (P := Try.prog) Try.underlying26 ts9 (by omega) .i64, S.ld (P := Try.prog) ta9 (by rw [List.getElem?_map, (rowA_mem hi).1]; rfl), S.blk_lt (by omega)⟩
@[simp] theorem nn_code (b : Nat) : aeql Try.prog 22 (.ptr b 0) .nilp = some false := by simp [aeql, Try.underlying22]
end Go.Proofs.Ytmmibaaidfcbhaa
/- The document's Size and Encode. -/
namespace Go.Proofs.Ytmmibaaidfcbhaa
open Go Go.YtmmibaaidfcbhaaAbs
set_option linter.unusedSimpArgs false
set_option linter.unusedVariables false
set_option maxRecDepth 4000

theorem rsize_ok (f : Nat) (h : Heap) (k n : Nat) (hk : 1 ≤ k) (h8 : k ≤ 8) (hn : n < 100000000000) : acall Try.prog (f + 1) 26 [.int .i64 (k : Nat), .int .i64 (n : Nat)] h = some (.int .i64 (szN k n : Nat), h) := by
  rw [acall_text [] Try.func26 (by kernel_rfl)]
  refine afuncT_of rfl (by simp [Try.f26]) ?_
  have hne : ¬ (k : Int) = 0 := by omega
  have hk0 : ¬ k = 0 := by omega
  have e0 : (n : Int) + (k : Int) - 1 = ((n + k - 1 : Nat) : Int) := by omega
  have e1 : ((n + k - 1 : Nat) : Int).tdiv (k : Int) = ((szN k n : Nat) : Int) := by unfold szN; rw [Int.ofNat_tdiv]
  have hle : szN k n ≤ n := szN_le hk
  simp [Try.f26, isLe (show (1 : Int) ≤ (k : Int) by omega), isLe (show (0 : Int) ≤ (n : Int) by omega), i64w ((n : Int) + (k : Int)) (by omega) (by omega), i64w ((n : Int) + (k : Int) - 1) (by omega) (by omega), hne, hk0, e0, i64w (((n + k - 1 : Nat)) : Int) (by omega) (by omega), e1, i64w ((szN k n : Nat) : Int) (by omega) (by omega)]
theorem rsize_no (f : Nat) (h : Heap) (k : Nat) (hk : 1 ≤ k) (n : Int) (hn : n < 0) : acall Try.prog (f + 1) 26 [.int .i64 (k : Nat), .int .i64 n] h = some (.int .i64 0, h) := by
  rw [acall_text [] Try.func26 (by kernel_rfl)]
  refine afuncT_of rfl (by simp [Try.f26]) ?_
  simp [Try.f26, isLe (show (1 : Int) ≤ (k : Int) by omega), isLt hn]
/-- An entry of the value's rows. -/
theorem dataM_at {k sz : Nat} {L : Vc} {j i : Nat} (hj : j < k) (hi : i < sz) : (rowA (dataM k sz L) j)[i]?.getD 0 = (L[j * sz + i]?).getD 0 := by
  rw [rowA_get (dataM_row hj), List.getElem?_take, if_pos hi, List.getElem?_drop]
  unfold padL
  by_cases h : j * sz + i < L.length
  · rw [List.getElem?_append_left h]
  · rw [List.getElem?_append_right (by omega), List.getElem?_eq_none (l := L) (by omega), List.getElem?_replicate]
    split <;> rfl
set_option maxHeartbeats 4000000 in
theorem renc_ok (f : Nat) (h : Heap) (k m : Nat) (k1 : 1 ≤ k) (k8 : k ≤ 8) (km : m + k ≤ 12) (s : ByteArray) (hs : s.size + 400 < f) (hm : s.size < 10000000) :
    ∃ v' h', acall Try.prog (f + 4) 16 [.int .i64 (k : Nat), .int .i64 (m : Nat), .str s] h = some (v', h') ∧ Mine 1 (k + m) h' v' ((encP k m (bl s)).map tx) ∧ (∀ d, Has v' d → h.next ≤ d) ∧ Keep h.next nob h h' := by
  rw [acall_text [15] Try.func16 (by kernel_rfl)]
  refine afuncT_ex rfl (by simp [Try.f16]) ?_
  obtain ⟨cv, h1, E1, Nc⟩ := rcauchy_ok f (by omega) h k m k1 k8 km
  obtain ⟨rsc, Rc⟩ := Nc.rd
  have K1 := Nc.kb
  obtain ⟨sz, hsz⟩ : ∃ sz, szN k s.size = sz := ⟨_, rfl⟩
  have E2 := rsize_ok (f + 2) h1 k s.size k1 k8 (by omega)
  rw [hsz] at E2
  obtain ⟨q1, q2⟩ := szN_fits (k := k) (n := s.size) k1
  have q3 := szN_le (k := k) (n := s.size) k1
  rw [hsz] at q1 q2 q3
  obtain ⟨D, hD⟩ : ∃ D, dataM k sz (bl s) = D := ⟨_, rfl⟩
  have hDl : D.length = k := by rw [← hD]; simp
  have hDr : RowsN sz D := by rw [← hD]; exact dataM_rows q1
  obtain ⟨n, hn⟩ : ∃ n, k + m = n := ⟨_, rfl⟩
  have lc0 := Rc.sl.len'
  rw [show (cauM k m).length = n by simp [cauM, hn]] at lc0
  obtain ⟨E, hE⟩ : ∃ E, encP k m (bl s) = E := ⟨_, rfl⟩
  have hEe : E = mtT sz (cauM k m) D := by rw [← hE]; unfold encP; rw [bl_len, hsz, hD]
  have hEl : E.length = n := by rw [← hE, encP_len, hn]
  rw [hE, hn]
  simp [Try.f16, E1, E2]
  refine W_cutLoop 0 (fun st => ∃ ov, st.t.get 9 = some ov ∧ Mine 1 n st.h ov (E.map tx) ∧ (∀ d, Has ov d → h1.next ≤ d) ∧ Keep h1.next nob h1 st.h) ?_ ?_
  · refine W_loop (fun mm st => ∃ (i : Nat) (ov : AV), mm = n - i ∧ i ≤ n ∧ st.t.get 0 = some (.int .i64 (k : Nat)) ∧ st.t.get 2 = some (.str s) ∧ st.t.get 7 = some cv ∧ st.t.get 8 = some (.int .i64 (sz : Nat)) ∧ st.t.get 9 = some ov ∧ st.t.get 10 = some (.int .i64 (i : Nat)) ∧ Mine 1 i st.h ov ((E.take i).map tx) ∧ (∀ d, Has ov d → h1.next ≤ d) ∧ Keep h1.next nob h1 st.h) n (by omega)
      ⟨0, .nils, by omega, by omega, by simp, by simp, by simp, by simp, by simp, by simp, Mine.nil 1 h1, (fun d hd => by cases hd), Keep.refl _ _ _⟩ ?_
    rintro mm ⟨t, h3⟩ ⟨i, ov, rfl, hi, q0, qs, q7, q8, q9, q10, M3, F3, K3⟩
    simp only at q0 qs q7 q8 q9 q10 M3 K3
    by_cases hlt : i < n
    · have Mz := new_row h3 (zv sz) sz (zv_len sz)
      rw [zv_bb] at Mz
      have Kz : Keep h3.next nob h3 (h3.new (.cells (List.replicate sz (.int .u8 0)) false)) := Keep.new (Nat.le_refl _) _
      obtain ⟨pv, hpv⟩ : ∃ pv, AV.sl h3.next 0 sz sz 1 true = pv := ⟨_, rfl⟩
      have Fz : ∀ d, Has pv d → h3.next ≤ d := fun d hd => by rw [← hpv] at hd; cases hd; exact Nat.le_refl _
      simp [q0, qs, q7, q8, q9, q10, lc0, isLt (show (i : Int) < (n : Int) by omega), aalloc_make (P := Try.prog) el47 (z := [.int .u8 0]) az5 rfl rfl sz sz (Nat.le_refl _) (by omega), flat1, afill]
      rw [hpv] at Mz ⊢
      have hcr : rowA (cauM k m) i = cauR k i := rowA_get (cauM_get (by omega))
      refine W_cutLoop 2 (fun st => st.t.get 0 = some (.int .i64 (k : Nat)) ∧ st.t.get 2 = some (.str s) ∧ st.t.get 7 = some cv ∧ st.t.get 8 = some (.int .i64 (sz : Nat)) ∧ st.t.get 9 = some ov ∧ st.t.get 10 = some (.int .i64 (i : Nat)) ∧ st.t.get 11 = some pv ∧ Mine 1 sz st.h pv ((lc sz (cauR k i) D).map bb) ∧ Keep h3.next nob h3 st.h) ?_ ?_
      · refine W_loop (fun mm st => ∃ (j : Nat), mm = k - j ∧ j ≤ k ∧ st.t.get 0 = some (.int .i64 (k : Nat)) ∧ st.t.get 2 = some (.str s) ∧ st.t.get 7 = some cv ∧ st.t.get 8 = some (.int .i64 (sz : Nat)) ∧ st.t.get 9 = some ov ∧ st.t.get 10 = some (.int .i64 (i : Nat)) ∧ st.t.get 11 = some pv ∧ st.t.get 12 = some (.int .i64 (j : Nat)) ∧ Mine 1 sz st.h pv ((lc sz ((cauR k i).take j) (D.take j)).map bb) ∧ Keep h3.next nob h3 st.h) k (by omega)
          ⟨0, by omega, by omega, by simp [q0], by simp [qs], by simp [q7], by simp [q8], by simp [q9], by simp [q10], by simp, by simp, by rw [List.take_zero, List.take_zero, lc_nil, zv_bb]; exact Mz, Kz⟩ ?_
        clear q0 qs q7 q8 q9 q10
        rintro mm ⟨t, h5⟩ ⟨j, rfl, hj, q0, qs, q7, q8, q9, q10, q11, q12, M5, K5⟩
        simp only at q0 qs q7 q8 q9 q10 q11 q12 M5 K5
        by_cases hjk : j < k
        · obtain ⟨x, hx⟩ : ∃ x, (cauR k i)[j]? = some x := ⟨(cauR k i)[j]'(by simpa using hjk), by simp⟩
          have hstep := take_lc hDr (show (cauR k i).length = D.length by rw [cauR_len, hDl]) hx
          obtain ⟨A, hA⟩ : ∃ A, lc sz ((cauR k i).take j) (D.take j) = A := ⟨_, rfl⟩
          have hAl : A.length = sz := by rw [← hA]; exact lc_len (hDr.take j)
          have hDj := hDr.row (k := j) (by omega)
          rw [hA] at M5 hstep
          obtain ⟨B, hB⟩ : ∃ B, addL A (smul x (rowA D j)) = B := ⟨_, rfl⟩
          have hBl : B.length = A.length := by rw [← hB]; exact addL_len (by rw [smul_len]; omega)
          have hjs : j * sz + sz ≤ k * sz := by have := mul_ge (sz := sz) hjk; rw [Nat.succ_mul] at this; exact this
          have hjs8 : k * sz ≤ 8 * sz := Nat.mul_le_mul_right _ k8
          obtain ⟨p, hp⟩ : ∃ p, j * sz = p := ⟨_, rfl⟩
          have sp : fwrap .i64 ((j : Int) * (sz : Int)) = (p : Nat) := by rw [← Int.natCast_mul, hp, i64w _ (by omega) (by omega)]
          simp [q0, qs, q7, q8, q9, q10, q11, q12, isLt (show (j : Int) < (k : Int) by omega)]
          refine W_cutLoop 4 (fun st => st.t.get 0 = some (.int .i64 (k : Nat)) ∧ st.t.get 2 = some (.str s) ∧ st.t.get 7 = some cv ∧ st.t.get 8 = some (.int .i64 (sz : Nat)) ∧ st.t.get 9 = some ov ∧ st.t.get 10 = some (.int .i64 (i : Nat)) ∧ st.t.get 11 = some pv ∧ st.t.get 12 = some (.int .i64 (j : Nat)) ∧ Mine 1 sz st.h pv (B.map bb) ∧ Keep h3.next nob h3 st.h) ?_ ?_
          · refine W_loop (fun mm st => ∃ (e : Nat), mm = sz - e ∧ e ≤ sz ∧ st.t.get 0 = some (.int .i64 (k : Nat)) ∧ st.t.get 2 = some (.str s) ∧ st.t.get 7 = some cv ∧ st.t.get 8 = some (.int .i64 (sz : Nat)) ∧ st.t.get 9 = some ov ∧ st.t.get 10 = some (.int .i64 (i : Nat)) ∧ st.t.get 11 = some pv ∧ st.t.get 12 = some (.int .i64 (j : Nat)) ∧ st.t.get 13 = some (.int .i64 (e : Nat)) ∧ Mine 1 sz st.h pv ((mixL B A e).map bb) ∧ Keep h3.next nob h3 st.h) sz (by omega)
              ⟨0, by omega, by omega, by simp [q0], by simp [qs], by simp [q7], by simp [q8], by simp [q9], by simp [q10], by simp [q11], by simp [q12], by simp, by rw [mixL_0]; exact M5, K5⟩ ?_
            clear q0 qs q7 q8 q9 q10 q11 q12 M5 K5
            rintro mm ⟨t, h6⟩ ⟨e, rfl, he, q0, qs, q7, q8, q9, q10, q11, q12, q13, M6, K6⟩
            simp only at q0 qs q7 q8 q9 q10 q11 q12 q13 M6 K6
            by_cases hes : e < sz
            · obtain ⟨a, ha⟩ : ∃ a, A[e]? = some a := ⟨A[e]'(by omega), by simp⟩
              have hDe : (rowA D j)[e]? = some (((bl s)[p + e]?).getD 0) := by
                have := dataM_at (L := bl s) hjk hes
                rw [hD, hp] at this
                rw [List.getElem?_eq_getElem (by omega)] at this ⊢
                rw [← this]; rfl
              obtain ⟨z, hz⟩ : ∃ z, p + e = z := ⟨_, rfl⟩
              rw [hz] at hDe
              have sz2 : fwrap .i64 ((p : Int) + (e : Int)) = (z : Nat) := by rw [i64w _ (by omega) (by omega)]; omega
              have hset := mixL_set (X := B) (Y := A) hBl (j := e) (x := a ^^^ gm x (((bl s)[z]?).getD 0)) (by rw [← hB]; exact addL_at ha (smul_at hDe))
              by_cases hzl : z < s.size
              · have hb : s.data[z]? = some s.data[z] := by simp
                have hbl : (bl s)[z]? = some s.data[z] := by simp [bl]
                rw [hbl, Option.getD_some] at hset
                generalize s.data[z] = y at *
                have Rc6 := ((Rc.ext K3).ext K6)
                obtain ⟨r, hr, Sr⟩ := Rc6.get (i := i) (by simp [cauM]; omega)
                rw [hcr] at Sr
                have ixc := Rc6.sl.idx1 (P := Try.prog) Try.underlying53 ts47 (j := i) (by simp [cauM]; omega) .i64
                have ldc' := Rc6.sl.ld (P := Try.prog) ta47 hr
                have ixe := row_ix Sr (j := j) (by simpa using hjk)
                have lde := row_ld Sr (j := j) (by simpa using hjk)
                rw [hx, Option.getD_some] at lde
                have ixp := M6.sl.idx1 (P := Try.prog) Try.underlying47 ts5 (j := e) hes .i64
                have ldp : aload Try.prog h6 5 pv.blk (pv.off + e) = some (.int .u8 (a.toNat : Nat)) := M6.sl.ld (P := Try.prog) (e := 5) ta5 (j := e) (x := bb a) (by rw [List.getElem?_map, mixL_get hBl (Nat.le_refl _), ha]; rfl)
                have mul := rmul_ok (f + 2) (by omega) h6 x y
                obtain ⟨h7, a7, M7, K7, n7⟩ := M6.lay1 (j := e) (x := .int .u8 ((a ^^^ gm x y).toNat : Nat)) hes rfl
                have e7 : ((mixL B A e).map bb).set e (.int .u8 ((a ^^^ gm x y).toNat : Nat)) = (mixL B A (e + 1)).map bb := by
                  rw [← hset, List.map_set]; rfl
                rw [e7] at M7
                rw [UInt8.toNat_xor] at a7
                have K7' : Keep h3.next nob h3 h7 := K6.trans ⟨K7.1, fun d hd _ => K7.2 d (Nat.lt_of_lt_of_le hd K6.1) fun q => by have := Fz d q; omega⟩
                have ag : Agree h6.next h6 h6 := fun _ _ => rfl
                have plt := M6.sl.blk_lt (by omega)
                have clt := Rc6.sl.blk_lt (by simp [cauM]; omega)
                have rlt := Sr.blk_lt (by simp; omega)
                have smr := Sr.same
                simp [q0, qs, q7, q8, q9, q10, q11, q12, q13, isLt (show (e : Int) < (sz : Int) by omega), sp, sz2, isLt (show (z : Int) < (s.size : Int) by omega)]
                refine W_split 21 h6.next (by rfl) (by kernel_rfl) (by rfl) ?_
                dsimp only [List.take, List.drop]
                simp [obl, mayEff, mayRead, sameAV, q0, qs, q7, q8, q9, q10, q11, q12, q13, ixp, ldp, ixc, ldc', ixe, lde, sp, sz2, hb, mul, ag, plt, clt, rlt, smr, a7, xor_u8, i64w ((e : Int) + 1) (by omega) (by omega)]
                exact ⟨sz - (e + 1), by omega, e + 1, rfl, by omega, by simp, M7, K7'⟩
              · have hbl : (bl s)[z]? = none := List.getElem?_eq_none (by rw [bl_len]; omega)
                rw [hbl, Option.getD_none, gm_zero, UInt8.xor_zero, set_self (L := mixL B A e) (x := a) (by rw [mixL_get hBl (Nat.le_refl _), ha])] at hset
                rw [hset] at M6
                simp [q0, qs, q7, q8, q9, q10, q11, q12, q13, isLt (show (e : Int) < (sz : Int) by omega), sp, sz2, isLe (show (s.size : Int) ≤ (z : Int) by omega), i64w ((e : Int) + 1) (by omega) (by omega)]
                exact ⟨sz - (e + 1), by omega, e + 1, rfl, by omega, by simp, M6, K6⟩
            · have e' : e = B.length := by omega
              rw [e', mixL_all hBl] at M6
              simp [q0, qs, q7, q8, q9, q10, q11, q12, q13, isLe (show (sz : Int) ≤ (e : Int) by omega)]
              exact ⟨M6, K6⟩
          · clear q0 qs q7 q8 q9 q10 q11 q12
            rintro ⟨t, h6⟩ ⟨q0, qs, q7, q8, q9, q10, q11, q12, M6, K6⟩
            simp only at q0 qs q7 q8 q9 q10 q11 q12 M6 K6
            simp [q0, qs, q7, q8, q9, q10, q11, q12, i64w ((j : Int) + 1) (by omega) (by omega)]
            exact ⟨k - (j + 1), by omega, j + 1, rfl, by omega, by simp, by rw [hstep, hB]; exact M6, K6⟩
        · rw [List.take_of_length_le (l := cauR k i) (by simp; omega), List.take_of_length_le (l := D) (by omega)] at M5
          simp [q0, qs, q7, q8, q9, q10, q11, q12, isLe (show (k : Int) ≤ (j : Int) by omega)]
          exact ⟨M5, K5⟩
      clear q0 qs q7 q8 q9 q10
      rintro ⟨t, h5⟩ ⟨q0, qs, q7, q8, q9, q10, q11, M5, K5⟩
      simp only at q0 qs q7 q8 q9 q10 q11 M5 K5
      have cvt : aconv Try.prog h5 47 9 pv = some (.str ⟨⟨lc sz (cauR k i) D⟩⟩, h5) := aconv_bs M5.sl Try.underlying47 Try.underlying9 Try.underlying5
      have hEi : E[i]? = some (lc sz (cauR k i) D) := by
        rw [hEe]
        unfold mtT
        rw [List.getElem?_map, cauM_get (show i < k + m by omega)]; rfl
      have M3' := M3.ext K5
      obtain ⟨ov', h6, a6, M6, F6, K6⟩ := M3'.push (P := Try.prog) el26 (a := [tx (lc sz (cauR k i) D)]) (ex := true) rfl rfl (by omega)
      have a6 : aappend Try.prog (h5.new (.cells [.str ⟨⟨lc sz (cauR k i) D⟩⟩] false)) 26 26 ov (.sl h5.next 0 1 1 1 true) = some (ov', h6) := a6
      have e6 : (E.take i).map tx ++ [tx (lc sz (cauR k i) D)] = (E.take (i + 1)).map tx := by rw [← takeP hEi, List.map_append]; rfl
      rw [e6] at M6
      have K36 : Keep h1.next nob h1 h6 := (K3.trans (K5.weak K3.1 fun _ _ q => q)).trans ⟨K6.1, fun d hd _ => K6.2 d (Nat.lt_of_lt_of_le hd (Nat.le_trans K3.1 K5.1)) fun q => by have := F3 d q; omega⟩
      simp [q0, qs, q7, q8, q9, q10, q11, cvt, aalloc, afill, a6, i64w ((i : Int) + 1) (by omega) (by omega)]
      exact ⟨n - (i + 1), by omega, i + 1, rfl, by omega, by simp, by rw [← List.map_take]; exact M6, fun d hd => by
        rcases F6 d hd with z | z
        · exact F3 d z
        · have := K3.1; have := K5.1; omega, K36⟩
    · have e : i = E.length := by omega
      rw [e, List.take_length, hEl] at M3
      simp [q0, qs, q7, q8, q9, q10, lc0, isLe (show (n : Int) ≤ (i : Int) by omega)]
      exact ⟨M3, F3, K3⟩
  · rintro ⟨t, h3⟩ ⟨ov, q9, M3, F3, K3⟩
    simp only at q9 M3 K3
    simp [q9]
    exact ⟨M3, fun d hd => Nat.le_trans K1.1 (F3 d hd), K1.trans (K3.weak K1.1 fun _ _ q => q)⟩
end Go.Proofs.Ytmmibaaidfcbhaa
/- Fragments in plain words: sums, the first k, how many differ. -/
namespace Go.Proofs.Ytmmibaaidfcbhaa
open Go Go.YtmmibaaidfcbhaaAbs
set_option linter.unusedSimpArgs false
set_option linter.unusedVariables false

theorem addL_comm (a b : Vc) : addL a b = addL b a := by
  unfold addL
  rw [List.zipWith_comm]
  congr 1
  funext x y
  exact UInt8.xor_comm y x
theorem smul_addL (c : UInt8) {a b : Vc} (h : a.length = b.length) : smul c (addL a b) = addL (smul c a) (smul c b) := by
  refine vc_ext (by rw [smul_len, addL_len h, addL_len (by rw [smul_len, smul_len, h]), smul_len]) fun j hj => ?_
  rw [smul_get, addL_get _ _ _ h, addL_get _ _ _ (by rw [smul_len, smul_len, h]), smul_get, smul_get, gm_xor]
theorem mtT_rowR {n : Nat} {A B : Mt} {i : Nat} (hi : i < A.length) : rowA (mtT n A B) i = lc n (rowA A i) B := by
  unfold mtT rowA
  rw [List.getElem?_map, (rowA_mem hi).1]; rfl
theorem lc_addM {n : Nat} : ∀ {u : Vc} {A B : Mt}, RowsN n A → RowsN n B → A.length = B.length → lc n u (List.zipWith addL A B) = addL (lc n u A) (lc n u B)
  | [], A, B, hA, hB, _ => by
    have e : ∀ M : Mt, lc n [] M = zv n := fun M => by cases M <;> rfl
    rw [e, e, e, addL_zv (by simp)]
  | x :: u, [], [], _, _, _ => by show zv n = addL (zv n) (zv n); rw [addL_zv (by simp)]
  | x :: u, a :: A, b :: B, hA, hB, hl => by
    have ih := lc_addM (u := u) hA.tl hB.tl (by simpa using hl)
    have la := hA.hd
    have lb := hB.hd
    have lA := lc_len (u := u) hA.tl
    have lB := lc_len (u := u) hB.tl
    show addL (smul x (addL a b)) (lc n u (List.zipWith addL A B)) = addL (addL (smul x a) (lc n u A)) (addL (smul x b) (lc n u B))
    rw [ih, smul_addL x (by omega), addL_assoc (by rw [smul_len, smul_len]; omega) (by rw [smul_len, addL_len (by omega)]; omega), addL_assoc (by rw [smul_len]; omega) (by rw [addL_len (by rw [smul_len]; omega), smul_len]; omega)]
    congr 1
    rw [← addL_assoc (by rw [smul_len]; omega) (by omega), addL_comm (smul x b) (lc n u A), addL_assoc (by rw [smul_len]; omega) (by rw [smul_len]; omega)]
  | x :: u, [], _ :: _, _, _, hl => by simp at hl
  | x :: u, _ :: _, [], _, _, hl => by simp at hl
theorem rep_addL (n : Nat) : addL (List.replicate n 0) (List.replicate n 0) = List.replicate n 0 := by
  have := addL_zv (v := zv n) (n := n) (by simp)
  exact this
theorem padL_addL {X Y : Vc} (h : X.length = Y.length) (n : Nat) : padL (addL X Y) n = addL (padL X n) (padL Y n) := by
  unfold padL
  rw [addL_len h, ← h]
  unfold addL
  rw [List.zipWith_append h]
  congr 1
  exact (rep_addL _).symm
theorem dataM_addL {k sz : Nat} {X Y : Vc} (h : X.length = Y.length) : dataM k sz (addL X Y) = List.zipWith addL (dataM k sz X) (dataM k sz Y) := by
  unfold dataM
  rw [List.zipWith_map, List.zipWith_self]
  refine List.map_congr_left fun i _ => ?_
  rw [padL_addL h]
  unfold addL
  rw [List.drop_zipWith, List.take_zipWith]
theorem enc_row {k m i : Nat} {L : Vc} (hi : i < k + m) : rowA (encP k m L) i = lc (szN k L.length) (cauR k i) (dataM k (szN k L.length) L) := by
  unfold encP
  rw [mtT_rowR (by simp [cauM]; omega), rowA_get (cauM_get hi)]
theorem enc_add {k m i : Nat} {X Y : Vc} (hk : 1 ≤ k) (h : X.length = Y.length) (hi : i < k + m) : rowA (encP k m (addL X Y)) i = addL (rowA (encP k m X) i) (rowA (encP k m Y) i) := by
  rw [enc_row hi, enc_row hi, enc_row hi, addL_len h, ← h, dataM_addL h]
  have f := (szN_fits (k := k) (n := X.length) hk).1
  exact lc_addM (dataM_rows f) (dataM_rows (by rw [← h]; exact f)) (by simp)
theorem enc_id {k m i : Nat} {L : Vc} (hk : 1 ≤ k) (hi : i < k) : rowA (encP k m L) i = ((padL L (k * szN k L.length)).drop (i * szN k L.length)).take (szN k L.length) := by
  rw [enc_row (by omega), cauR_id hi, lc_ev1 (dataM_rows (szN_fits hk).1) (dataM_len _ _ _) (dataM_row hi)]
/-- Pieces of one size, one behind the other. -/
theorem pieces {α : Type} (P : List α) (sz : Nat) : ∀ i : Nat, ((List.range i).map fun j => (P.drop (j * sz)).take sz).flatten = P.take (i * sz)
  | 0 => by simp
  | i + 1 => by
    rw [List.range_succ, List.map_append, List.flatten_append, pieces P sz i, Nat.succ_mul, List.take_add]
    simp
/-! Texts of bytes. -/
theorem ba_cat (L L' : Vc) : (⟨⟨L⟩⟩ : ByteArray) ++ ⟨⟨L'⟩⟩ = ⟨⟨L ++ L'⟩⟩ := by
  apply ByteArray.ext
  simp
theorem ba_take (s : ByteArray) (n : Nat) : s.extract 0 n = ⟨⟨(bl s).take n⟩⟩ := by
  apply ByteArray.ext
  apply Array.ext'
  simp [bl]
theorem ba_eta (s : ByteArray) : (⟨⟨bl s⟩⟩ : ByteArray) = s := rfl
theorem ba_size (L : Vc) : (⟨⟨L⟩⟩ : ByteArray).size = L.length := rfl
theorem bl_mk (L : Vc) : bl ⟨⟨L⟩⟩ = L := rfl
theorem min3c {call : CallO} {t : Tr AV} {h : Heap} {d : Option Tmp} {ty t1 t2 t3 : TypeId} {pos : String} {af : Array Edge} {g : Option (Nat × Bool)} {x y : Operand} {m n : Nat} (hx : ev t x = .int .i64 (m : Nat)) (hy : ev t y = .int .i64 (n : Nat)) :
    aop Try.prog call t h ⟨d, .call ⟨.builtin .min, List.toArray [x, y, .const (.int .i64 100)], List.toArray [t1, t2, t3]⟩, ty, pos, af, g⟩ = some (.int .i64 ((min (min m n) 100 : Nat) : Int), h) := aop_min3 (l := 100) hx hy rfl
theorem sl_old {sz n : Nat} {h : Heap} {v : AV} {l : List AV} (S : Sl sz n h v l) : oldSl h.next v := by
  rcases S with ⟨rfl, _⟩ | ⟨rfl, _⟩ | ⟨b, i, cap, ex, c, ro, rfl, hb, _⟩
  · trivial
  · trivial
  · exact hb
theorem agree_keep {h1 h2 : Heap} {N : Nat} (hN : N ≤ h1.next) (K : Keep h1.next nob h1 h2) : Agree N h1 h2 := fun c hc => K.2 c (Nat.lt_of_lt_of_le hc hN) id
end Go.Proofs.Ytmmibaaidfcbhaa
/- Any k of the fragments tell the value; two values differ in more than m fragments. -/
namespace Go.Proofs.Ytmmibaaidfcbhaa
open Go Go.YtmmibaaidfcbhaaAbs
set_option linter.unusedSimpArgs false
set_option linter.unusedVariables false

theorem selA_rows {k : Nat} (sel : List Nat) : RowsN k (sel.map (cauR k)) := fun r hr => by
  obtain ⟨s, _, rfl⟩ := List.mem_map.1 hr
  simp
/-- Whichever k rows are taken, they can be turned back. -/
theorem dec_back {k sz : Nat} (hk : k ≤ 200) {sel : List Nat} (hl : sel.length = k) (hn : sel.Nodup) (hs : ∀ s, s ∈ sel → s < 256) : ∃ B, invA (sel.map (cauR k)) = (B, true) ∧ RowsN k B ∧ B.length = k ∧ ∀ D : Mt, RowsN sz D → D.length = k → mtT sz B (mtT sz (sel.map (cauR k)) D) = D := by
  obtain ⟨B, e, rB, lB, t1, t2⟩ := invA_ok (selA_rows (k := k) sel) (by simp [hl]) (cau_apart hk hl hn hs)
  exact ⟨B, e, rB, lB, fun D hD lD => by rw [← mtT_assoc hD (selA_rows sel), t1, id_mtT hD lD]⟩
theorem data_pad {k sz : Nat} {L : Vc} (h : L.length ≤ k * sz) : (dataM k sz L).flatten = padL L (k * sz) := by
  unfold dataM
  rw [pieces, List.take_of_length_le (by rw [padL_len h]; exact Nat.le_refl _)]
theorem pad_take {L : Vc} {n : Nat} : (padL L n).take L.length = L := by
  unfold padL
  rw [List.take_append_of_le_length (Nat.le_refl _), List.take_length]
theorem data_inj {k sz : Nat} {X Y : Vc} (h : X.length = Y.length) (hX : X.length ≤ k * sz) (e : dataM k sz X = dataM k sz Y) : X = Y := by
  have e1 := data_pad hX
  have e2 := data_pad (k := k) (sz := sz) (L := Y) (by omega)
  rw [e, e2] at e1
  rw [← pad_take (L := X) (n := k * sz), ← e1, h, pad_take]
/-- In how many of the first i do they differ? -/
def diffs (P Q : Mt) (i : Nat) : Nat := ((List.range i).filter fun j => decide (rowA P j ≠ rowA Q j)).length
theorem diffs_succ (P Q : Mt) (i : Nat) : diffs P Q (i + 1) = diffs P Q i + (if rowA P i = rowA Q i then 0 else 1) := by
  unfold diffs
  rw [List.range_succ, List.filter_append, List.length_append]
  congr 1
  by_cases h : rowA P i = rowA Q i
  · simp [h]
  · simp [h]
theorem diffs_le (P Q : Mt) (i : Nat) : diffs P Q i ≤ i := by
  unfold diffs
  have := List.length_filter_le (fun j => decide (rowA P j ≠ rowA Q j)) (List.range i)
  rwa [List.length_range] at this
theorem dist_ok {k m : Nat} (hk : 1 ≤ k) (hk8 : k ≤ 8) (hm : m + k ≤ 12) {X Y : Vc} (h : X.length = Y.length) (hne : X ≠ Y) : m + 1 ≤ diffs (encP k m X) (encP k m Y) (k + m) := by
  obtain ⟨sz, hsz⟩ : ∃ sz, szN k X.length = sz := ⟨_, rfl⟩
  have hsy : szN k Y.length = sz := by rw [← h, hsz]
  have fX : X.length ≤ k * sz := by rw [← hsz]; exact (szN_fits hk).1
  have fY : Y.length ≤ k * sz := by omega
  have sp := filter_split (fun j => decide (rowA (encP k m X) j ≠ rowA (encP k m Y) j)) (List.range (k + m))
  rw [List.length_range] at sp
  have key : ((List.range (k + m)).filter fun a => !decide (rowA (encP k m X) a ≠ rowA (encP k m Y) a)).length < k := by
    refine Nat.lt_of_not_le fun hge => hne ?_
    obtain ⟨sel, hsel⟩ : ∃ sel, ((List.range (k + m)).filter fun a => !decide (rowA (encP k m X) a ≠ rowA (encP k m Y) a)).take k = sel := ⟨_, rfl⟩
    have hl : sel.length = k := by rw [← hsel, List.length_take]; omega
    have hn : sel.Nodup := by rw [← hsel]; exact (List.nodup_range.filter _).sublist (List.take_sublist _ _)
    have hs : ∀ s, s ∈ sel → s < k + m ∧ rowA (encP k m X) s = rowA (encP k m Y) s := fun s hs => by
      rw [← hsel] at hs
      have := List.mem_filter.1 (List.mem_of_mem_take hs)
      exact ⟨List.mem_range.1 this.1, by simpa using this.2⟩
    obtain ⟨B, _, rB, lB, back⟩ := dec_back (sz := sz) (show k ≤ 200 by omega) hl hn fun s h => by have := (hs s h).1; omega
    have e1 := back (dataM k sz X) (dataM_rows fX) (by simp)
    have e2 := back (dataM k sz Y) (dataM_rows fY) (by simp)
    have e3 : mtT sz (sel.map (cauR k)) (dataM k sz X) = mtT sz (sel.map (cauR k)) (dataM k sz Y) := by
      unfold mtT
      rw [List.map_map, List.map_map]
      refine List.map_congr_left fun s h => ?_
      obtain ⟨a, b⟩ := hs s h
      rw [enc_row a, enc_row a, hsz, hsy] at b
      exact b
    rw [e3] at e1
    exact data_inj h fX (e1.symm.trans e2)
  unfold diffs
  omega
end Go.Proofs.Ytmmibaaidfcbhaa
/- nil is compared with nil. -/
namespace Go.YtmmibaaidfcbhaaAbs
open Go Go.RowKit
set_option linter.unusedSimpArgs false
set_option linter.unusedVariables false
section
variable {P : Program} {t : Tr AV} {d : Option Tmp} {ty tv v : TypeId} {x y : Operand} {pos : String} {af : Array Edge} {g : Option (Nat × Bool)}
theorem aback0_eql_val {A B : AV} {a b : Value} {r : Bool} (hx : ev t x = A) (hy : ev t y = B) (va : A.val? = some a) (vb : B.val? = some b) (hg : semPure P (eqGuard .eql ty x y a b) = some ()) (he : semPure P (binOp .eql ty a b) = some (.bool r)) : aback0 P t ⟨d, .binOp .eql ty x y tv, v, pos, af, g⟩ = some (.bool r) := by
  have : semPure P (execOp (fun x => ((ev t x).val?).getD undef) ⟨d, .binOp .eql ty x y tv, v, pos, af, g⟩) = some (.value (.bool r)) := by
    simp only [execOp, hx, hy, va, vb, Option.getD_some]
    have e1 : semPure P (do
        eqGuard .eql ty x y a b
        binOp .eql ty a b) = some (.bool r) := by
      rw [semPure_bind P (eqGuard .eql ty x y a b) _ (a := ()) hg]
      exact he
    rw [semPure_bind P _ _ e1]
    rfl
  unfold aback0 aback
  simp [Op.operands, hx, hy, va, vb, this]
theorem aback0_neq_val {A B : AV} {a b : Value} {r : Bool} (hx : ev t x = A) (hy : ev t y = B) (va : A.val? = some a) (vb : B.val? = some b) (hg : semPure P (eqGuard .neq ty x y a b) = some ()) (he : semPure P (binOp .neq ty a b) = some (.bool !r)) : aback0 P t ⟨d, .binOp .neq ty x y tv, v, pos, af, g⟩ = some (.bool !r) := by
  have : semPure P (execOp (fun x => ((ev t x).val?).getD undef) ⟨d, .binOp .neq ty x y tv, v, pos, af, g⟩) = some (.value (.bool !r)) := by
    simp only [execOp, hx, hy, va, vb, Option.getD_some]
    have e1 : semPure P (do
        eqGuard .neq ty x y a b
        binOp .neq ty a b) = some (.bool !r) := by
      rw [semPure_bind P (eqGuard .neq ty x y a b) _ (a := ()) hg]
      exact he
    rw [semPure_bind P _ _ e1]
    rfl
  unfold aback0 aback
  simp [Op.operands, hx, hy, va, vb, this]
theorem equal_nils {e : TypeId} (hu : P.underlying ty = some (.slice e)) : semPure P (Op.equal ty (.slice none 0 0) (.slice none 0 0)) = some true := by
  show semPure P (Op.equalIn (_ + 1) ty _ _) = _
  unfold Op.equalIn
  rw [semPure_bind P _ _ (semPure_und hu)]
  rfl
theorem equal_nilp {e : TypeId} (hu : P.underlying ty = some (.pointer e)) : semPure P (Op.equal ty (.pointer none) (.pointer none)) = some true := by
  show semPure P (Op.equalIn (_ + 1) ty _ _) = _
  unfold Op.equalIn
  rw [semPure_bind P _ _ (semPure_und hu)]
  rfl
theorem nils_eql {e : TypeId} (hx : ev t x = .nils) (hy : ev t y = .nils) (hu : P.underlying ty = some (.slice e)) : aback0 P t ⟨d, .binOp .eql ty x y tv, v, pos, af, g⟩ = some (.bool true) := aback0_eql_val hx hy rfl rfl rfl (by show semPure P (Op.equal ty (.slice none 0 0) (.slice none 0 0) >>= fun r => pure (Value.bool (r))) = _; rw [semPure_bind P _ _ (equal_nils hu)]; rfl)
theorem nilp_eql {e : TypeId} (hx : ev t x = .nilp) (hy : ev t y = .nilp) (hu : P.underlying ty = some (.pointer e)) : aback0 P t ⟨d, .binOp .eql ty x y tv, v, pos, af, g⟩ = some (.bool true) := aback0_eql_val hx hy rfl rfl rfl (by show semPure P (Op.equal ty (.pointer none) (.pointer none) >>= fun r => pure (Value.bool (r))) = _; rw [semPure_bind P _ _ (equal_nilp hu)]; rfl)
theorem nils_neq {e : TypeId} (hx : ev t x = .nils) (hy : ev t y = .nils) (hu : P.underlying ty = some (.slice e)) : aback0 P t ⟨d, .binOp .neq ty x y tv, v, pos, af, g⟩ = some (.bool false) := aback0_neq_val hx hy rfl rfl rfl (by show semPure P (Op.equal ty (.slice none 0 0) (.slice none 0 0) >>= fun r => pure (Value.bool (!r))) = _; rw [semPure_bind P _ _ (equal_nils hu)]; rfl)
theorem nilp_neq {e : TypeId} (hx : ev t x = .nilp) (hy : ev t y = .nilp) (hu : P.underlying ty = some (.pointer e)) : aback0 P t ⟨d, .binOp .neq ty x y tv, v, pos, af, g⟩ = some (.bool false) := aback0_neq_val hx hy rfl rfl rfl (by show semPure P (Op.equal ty (.pointer none) (.pointer none) >>= fun r => pure (Value.bool (!r))) = _; rw [semPure_bind P _ _ (equal_nilp hu)]; rfl)
@[simp] theorem aeql_nn : aeql P ty .nils .nils = none := by unfold aeql; cases P.underlying ty with | none => rfl | some u => cases u <;> rfl
@[simp] theorem aeql_pp : aeql P ty .nilp .nilp = none := by unfold aeql; cases P.underlying ty with | none => rfl | some u => cases u <;> rfl
@[simp] theorem bcmp_nn {op : BinOp} : bcmp P op ty .nils .nils = none := by cases op <;> rfl
@[simp] theorem bcmp_pp {op : BinOp} : bcmp P op ty .nilp .nilp = none := by cases op <;> rfl
end
end Go.YtmmibaaidfcbhaaAbs
/- depotbook.Same of texts; what RsTells needs. -/
namespace Go.Proofs.Ytmmibaaidfcbhaa
open Go Go.YtmmibaaidfcbhaaAbs
set_option linter.unusedSimpArgs false
set_option linter.unusedVariables false
set_option maxRecDepth 4000

theorem sameT_ok (k : Nat) (h : Heap) (v1 v2 : AV) (E : Mt) (n : Nat) (S1 : Sl 1 n h v1 (E.map tx)) (S2 : Sl 1 n h v2 (E.map tx)) (hk : n + 2 < k) (hm : n < 1000000) :
    acall Try.prog (k + 1) 27 [v1, v2] h = some (.bool true, h) := by
  rw [acall_text [] Try.func27 (by kernel_rfl)]
  refine afuncT_of rfl (by simp [Try.f27]) ?_
  have l1 := S1.len'
  have l2 := S2.len'
  have hl := S1.length
  rw [List.length_map, Nat.mul_one] at hl
  simp [Try.f27, l1, l2]
  refine W_loop (fun m st => ∃ j, m = n - j ∧ j ≤ n ∧ st.h = h ∧ st.t.get 0 = some v1 ∧ st.t.get 1 = some v2 ∧ st.t.get 5 = some (.int .i64 (j : Nat))) n (by omega) ⟨0, by simp⟩ ?_
  rintro m ⟨t, h'⟩ ⟨j, rfl, hj, rfl, q0, q1, q5⟩
  simp only at q0 q1 q5 S1 S2
  by_cases hlt : j < n
  · obtain ⟨i1, d1, _⟩ := txs_at S1 (i := j) (by omega)
    obtain ⟨i2, d2, _⟩ := txs_at S2 (i := j) (by omega)
    simp [q0, q1, q5, l1, isLt (show (j : Int) < (n : Int) by omega), i1, d1, i2, d2, tx, i64w ((j : Int) + 1) (by omega) (by omega)]
    exact ⟨n - (j + 1), by omega, j + 1, rfl, by omega, by simp⟩
  · simp [q0, q1, q5, l1, isLe (show (n : Int) ≤ (j : Int) by omega)]
theorem size_no (f : Nat) {h : Heap} {b k m : Nat} {rv : AV} (C : Cd h (.ptr b 0) b k m rv) (n : Int) (hn : n < 0) : acall Try.prog (f + 1) 23 [.ptr b 0, .int .i64 n] h = some (.int .i64 0, h) := by
  rw [acall_text [] Try.func23 (by kernel_rfl)]
  refine afuncT_of rfl (by simp [Try.f23]) ?_
  simp [Try.f23, isLe (show n ≤ 0 by omega)]
theorem nn_sl {n : Nat} {h : Heap} {v : AV} {l : List AV} (S : Sl 1 n h v l) (hn : 0 < n) : aeql Try.prog 53 v .nils = some false := by
  rcases S with ⟨_, _, e⟩ | ⟨_, _, e⟩ | ⟨b, i, cap, ex, c, ro, rfl, _⟩
  · omega
  · omega
  · simp [aeql, Try.underlying53]
section
variable {t : Tr AV} {d : Option Tmp} {tv v : TypeId} {x y : Operand} {pos : String} {af : Array Edge} {g : Option (Nat × Bool)}
theorem nil_rows (hx : ev t x = .nils) (hy : ev t y = .nils) : aback0 Try.prog t ⟨d, .binOp .eql 53 x y tv, v, pos, af, g⟩ = some (.bool true) := nils_eql hx hy Try.underlying53
theorem nil_code (hx : ev t x = .nilp) : aback0 Try.prog t ⟨d, .binOp .eql 22 x (.const (.pointer none)) tv, v, pos, af, g⟩ = some (.bool true) := nilp_eql hx rfl Try.underlying22
end
end Go.Proofs.Ytmmibaaidfcbhaa
