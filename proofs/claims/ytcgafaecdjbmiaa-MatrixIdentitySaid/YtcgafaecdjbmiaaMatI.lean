/- matrix.Identity, slices.Clone, copied. -/
import Derived.Test.YtcgafaecdjbmiaaMatO
namespace Go.Proofs.Ytcgafaecdjbmiaa
open Go Go.YtcgafaecdjbmiaaAbs
set_option linter.unusedSimpArgs false
set_option linter.unusedVariables false
set_option maxRecDepth 4000

/-- Rows so far, and nil ones. -/
def sofar (n j : Nat) (M : Mt) : Mt := M.take j ++ List.replicate (n - j) []
theorem sofar_len {n j : Nat} {M : Mt} (h : M.length = n) (hj : j ≤ n) : (sofar n j M).length = n := by
  unfold sofar
  rw [List.length_append, List.length_take, List.length_replicate]; omega
theorem sofar_set {n j : Nat} {M : Mt} {r : Vc} (h : M.length = n) (hr : M[j]? = some r) : (sofar n j M).set j r = sofar n (j + 1) M := by
  have hj := (List.getElem?_eq_some_iff.1 hr).1
  refine List.ext_getElem? fun i => ?_
  unfold sofar
  by_cases hij : j = i
  · subst hij
    rw [List.getElem?_set_self (by rw [List.length_append, List.length_take, List.length_replicate]; omega), List.getElem?_append_left (by rw [List.length_take]; omega), List.getElem?_take, if_pos (by omega), hr]
  · rw [List.getElem?_set_ne hij]
    by_cases hi : i < j
    · rw [List.getElem?_append_left (by rw [List.length_take]; omega), List.getElem?_append_left (by rw [List.length_take]; omega), List.getElem?_take, List.getElem?_take, if_pos hi, if_pos (by omega)]
    · rw [List.getElem?_append_right (by rw [List.length_take]; omega), List.getElem?_append_right (by rw [List.length_take]; omega), List.getElem?_replicate, List.getElem?_replicate, List.length_take, List.length_take]
      by_cases hn : i < n
      · rw [if_pos (by omega), if_pos (by omega)]
      · rw [if_neg (by omega), if_neg (by omega)]
theorem sofar_0 (n : Nat) (M : Mt) : sofar n 0 M = List.replicate n [] := by simp [sofar]
theorem sofar_all {n : Nat} {M : Mt} (h : M.length = n) : sofar n n M = M := by simp [sofar, ← h]
theorem new_row (h : Heap) (l : Vc) (n : Nat) (hn : l.length = n) : Mine 1 n (h.new (.cells (l.map bb) false)) (.sl h.next 0 n n 1 true) (l.map bb) := by
  have := Mine.new (sz := 1) (n := n) (m := n) h (l.map bb) (by simp [hn]) (Nat.le_refl _) (by have := bb_one l; rw [List.all_eq_true] at this ⊢; exact fun x hx => this x (List.mem_of_mem_take hx)) true
  rw [Nat.mul_one, List.take_of_length_le (by simp [hn])] at this
  exact this

set_option maxHeartbeats 1000000 in
theorem identity_ok (k : Nat) (hk : 30 < k) (h : Heap) (n : Nat) (h1 : 1 ≤ n) (h2 : n ≤ 12) :
    ∃ v' h', acall Try.prog (k + 1) 14 [.int .i64 (n : Nat)] h = some (v', h') ∧ Nw h h' v' (idM n) := by
  rw [acall_text [] Try.func14 (by kernel_rfl)]
  refine afuncT_ex rfl (by simp [Try.f14]) ?_
  have N0 := rows_nil h n
  have lv : ∀ (k : Heap) (e : TypeId), vlen' k (.sl h.next 0 n n 1 true) (some (.slice e)) = some (.int .i64 (n : Nat)) := fun k e => rfl
  simp [Try.f14, isLe (show (1 : Int) ≤ (n : Int) by omega), isLe (show (n : Int) ≤ 12 by omega), aalloc_make (P := Try.prog) el27 (z := [.nils]) az31 rfl rfl n n (Nat.le_refl _) (by omega), flat1, afill, lv]
  obtain ⟨mv, hmv⟩ : ∃ mv, AV.sl h.next 0 n n 1 true = mv := ⟨_, rfl⟩
  rw [hmv] at N0 ⊢
  refine W_cutLoop 0 (fun st => st.t.get 3 = some mv ∧ Nw h st.h mv (idM n)) ?_ ?_
  · refine W_loop (fun m st => ∃ j, m = n - j ∧ j ≤ n ∧ st.t.get 0 = some (.int .i64 (n : Nat)) ∧ st.t.get 3 = some mv ∧ st.t.get 14 = some (.int .i64 (n : Nat)) ∧ st.t.get 15 = some (.int .i64 (j : Nat)) ∧ Nw h st.h mv (sofar n j (idM n))) n (by omega)
      ⟨0, by omega, by omega, by simp, by simp, by simp, by simp, by rw [sofar_0]; exact N0⟩ ?_
    rintro m ⟨t, h3⟩ ⟨j, rfl, hj, q0, q3, q14, q15, N⟩
    simp only at q0 q3 q14 q15 N
    by_cases hlt : j < n
    · have sl := sofar_len (M := idM n) (j := j) (idM_len n) hj
      obtain ⟨h4, a4, N4, rs4, R4, hr4⟩ := N.set (j := j) (by omega) (Keep.new (Nat.le_refl _) (.cells ((zv n).map bb) false)) (L' := zv n) (r' := .sl h3.next 0 n n 1 true) (by rw [zv_len]; exact new_row h3 (zv n) n (zv_len n)) (fun d hd => by cases hd; exact Nat.le_refl _)
      have ixv := R4.own.sl.idx1 (P := Try.prog) Try.underlying27 ts31 (j := j) (by rw [R4.len, List.length_set]; omega) .i64
      have ldv := R4.own.sl.ld (P := Try.prog) ta31 hr4
      obtain ⟨h5, a5, N5⟩ := N4.put R4 hr4 (L := zv n) (by rw [List.getElem?_set_self (by omega)]) (i := j) (by simp; omega) 1
      have ixr : aindex Try.prog 31 (.sl h3.next 0 n n 1 true) (.int .i64 (j : Nat)) = some (.ptr h3.next j) := by
        have := (R4.each j _ (zv n) hr4 (by rw [List.getElem?_set_self (by omega)])).sl.idx1 (P := Try.prog) Try.underlying31 ts5 (j := j) (by simp; omega) .i64
        simpa [AV.blk, AV.off] using this
      have a5 : alay h4 h3.next j [.int .u8 1] = some h5 := by rw [← a5]; simp [AV.blk, AV.off]
      rw [List.set_set, sofar_set (idM_len n) (show (idM n)[j]? = some ((zv n).set j 1) from idM_get hlt)] at N5
      rw [zv_bb] at a4
      have hr4' := row1_one (show (AV.sl h3.next 0 n n 1 true).one = true from rfl)
      simp [q0, q3, q14, q15, isLt (show (j : Int) < (n : Int) by omega), aalloc_make (P := Try.prog) el31 (z := [.int .u8 0]) az5 rfl rfl n n (Nat.le_refl _) (by omega), flat1, afill, ixv, a4, ldv, ixr, a5, i64w ((j : Int) + 1) (by omega) (by omega)]
      exact ⟨n - (j + 1), by omega, j + 1, rfl, by omega, by simp, N5⟩
    · have e : j = n := by omega
      subst e
      rw [sofar_all (idM_len j)] at N
      simp [q0, q3, q14, q15]
      exact N
  · rintro ⟨t, h3⟩ ⟨q3, N⟩
    simp only at q3 N
    simp [q3]
    exact N

theorem clone_ok (k : Nat) (h : Heap) (v : AV) (L : Vc) (S : Sl 1 L.length h v (L.map bb)) (h1 : 1 ≤ L.length) (h2 : L.length < 1000000) :
    ∃ v' h', acall Try.prog (k + 1) 29 [v] h = some (v', h') ∧ Mine 1 L.length h' v' (L.map bb) ∧ (∀ d, Has v' d → h.next ≤ d) ∧ Keep h.next nob h h' := by
  rw [acall_text [] Try.func29 (by kernel_rfl)]
  refine afuncT_ex rfl (by simp [Try.f29]) ?_
  have V0 : Mine 1 0 (h.new (.cells [] false)) (.sl h.next 0 0 0 1 true) [] := by
    have := Mine.new (sz := 1) (n := 0) (m := 0) h [] (by simp) (Nat.le_refl _) (by simp) true
    simpa using this
  have k0 : Keep h.next nob h (h.new (.cells [] false)) := Keep.new (Nat.le_refl _) _
  have S' := S.ext k0
  obtain ⟨w, h3, b1, b2, b3, b4⟩ := V0.append (P := Try.prog) el31 (xt := 31) (by rw [Try.underlying31]; rfl) S'.alen S'.acells (bb_one L) (by simp) (by omega)
  have en : aeql Try.prog 31 v .nils = some false := by
    rcases S with ⟨_, _, e⟩ | ⟨_, _, e⟩ | ⟨b, i, cap, ex, c, ro, rfl, _⟩
    · omega
    · omega
    · simp [aeql, Try.underlying31]
  simp [Try.f29, en, aalloc, afill, b1]
  refine ⟨by simpa using b2, fun d hd => ?_, ⟨Nat.le_trans k0.1 b4.1, fun d hd _ => ?_⟩⟩
  · rcases b3 d hd with z | z
    · cases z; exact Nat.le_refl _
    · exact Nat.le_trans k0.1 z
  · rw [b4.2 d (Nat.lt_of_lt_of_le hd k0.1) (fun q => by cases q; omega), k0.2 d hd id]
set_option maxHeartbeats 1000000 in
theorem copied_ok (k : Nat) (hk : 30 < k) (h : Heap) (v : AV) (rs : List AV) (M : Mt) (R : Rd h v rs M) (hl : M.length ≤ 12) (hr : ∀ r, r ∈ M → 1 ≤ r.length ∧ r.length < 1000000) :
    ∃ v' h', acall Try.prog (k + 2) 27 [v] h = some (v', h') ∧ Nw h h' v' M := by
  rw [acall_text [] Try.func27 (by kernel_rfl)]
  refine afuncT_ex rfl (by simp [Try.f27]) ?_
  obtain ⟨n, hn⟩ : ∃ n, M.length = n := ⟨_, rfl⟩
  have N0 := rows_nil h n
  have lv := R.sl.len'
  rw [hn] at lv
  simp [Try.f27, lv, aalloc_make (P := Try.prog) el27 (z := [.nils]) az31 rfl rfl n n (Nat.le_refl _) (by omega), flat1, afill]
  obtain ⟨mv, hmv⟩ : ∃ mv, AV.sl h.next 0 n n 1 true = mv := ⟨_, rfl⟩
  rw [hmv] at N0 ⊢
  refine W_cutLoop 0 (fun st => st.t.get 3 = some mv ∧ Nw h st.h mv M) ?_ ?_
  · refine W_loop (fun m st => ∃ j, m = n - j ∧ j ≤ n ∧ st.t.get 0 = some v ∧ st.t.get 3 = some mv ∧ st.t.get 9 = some (.int .i64 (n : Nat)) ∧ st.t.get 10 = some (.int .i64 (j : Nat)) ∧ Nw h st.h mv (sofar n j M)) n (by omega)
      ⟨0, by omega, by omega, by simp, by simp, by simp, by simp, by rw [sofar_0]; exact N0⟩ ?_
    rintro m ⟨t, h3⟩ ⟨j, rfl, hj, q0, q3, q9, q10, N⟩
    simp only at q0 q3 q9 q10 N
    by_cases hlt : j < n
    · have sl := sofar_len (M := M) (j := j) hn hj
      have R3 := R.ext N.kb
      obtain ⟨r, hr1, S⟩ := R3.get (i := j) (by omega)
      obtain ⟨hm1, hm2⟩ := rowA_mem (A := M) (i := j) (by omega)
      obtain ⟨l1, l2⟩ := hr _ hm2
      generalize rowA M j = L at *
      have ix := R3.sl.idx1 (P := Try.prog) Try.underlying27 ts31 (j := j) (by omega) .i64
      have ld := R3.sl.ld (P := Try.prog) ta31 hr1
      obtain ⟨w, h4, E4, M4, F4, K4⟩ := clone_ok k h3 r L S l1 l2
      obtain ⟨rsx, Rx, Ax, fx, Kx⟩ := id N
      obtain ⟨h5, a5, N5, rs5, R5, hr5⟩ := N.set (j := j) (by omega) K4 M4 F4
      rw [sofar_set hn hm1] at N5
      have ixv := Rx.own.sl.idx1 (P := Try.prog) Try.underlying27 ts31 (j := j) (by rw [Rx.len]; omega) .i64
      have rww := row1_one M4.oneV
      simp [q0, q3, q9, q10, isLt (show (j : Int) < (n : Int) by omega), ix, ld, E4, ixv, rww, a5, i64w ((j : Int) + 1) (by omega) (by omega)]
      exact ⟨n - (j + 1), by omega, j + 1, rfl, by omega, by simp, N5⟩
    · have e : j = n := by omega
      subst e
      rw [sofar_all hn] at N
      simp [q0, q3, q9, q10]
      exact N
  · rintro ⟨t, h3⟩ ⟨q3, N⟩
    simp only at q3 N
    simp [q3]
    exact N
end Go.Proofs.Ytcgafaecdjbmiaa
