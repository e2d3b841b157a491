/- Contracts of chapter 9: the frame that bytes tell. -/
import Derived.Test.YtnjpfjdnidekgaaWireP
namespace Go.Proofs.Ytnjpfjdnidekgaa
open Go Go.YtnjpfjdnidekgaaAbs
set_option linter.unusedSimpArgs false
set_option linter.unusedVariables false
set_option maxRecDepth 4000

/-- So many numbers, one behind the other. -/
def rdNs (l : List UInt8) : Nat → List Int × Nat × Int
  | 0 => ([], 0, 0)
  | n + 1 => ((rdNs l n).1 ++ [(rdNum l (rdNs l n).2.1 (rdNs l n).2.2).1], (rdNum l (rdNs l n).2.1 (rdNs l n).2.2).2)
theorem rdNs_len (l : List UInt8) : ∀ n, (rdNs l n).1.length = n
  | 0 => rfl
  | n + 1 => by simp [rdNs, rdNs_len l n]
theorem rdNs_le (l : List UInt8) : ∀ n, (rdNs l n).2.1 ≤ l.length
  | 0 => Nat.zero_le _
  | n + 1 => rdNum_le _ (rdNs_le l n)
def mkF (xs : List Int) (key : List UInt8) (v : Int) (data : List UInt8) : Fr :=
  ⟨xs.getD 0 0, xs.getD 1 0, xs.getD 2 0, xs.getD 3 0, xs.getD 4 0, xs.getD 5 0, txt key, v, txt data⟩
def getF (l : List UInt8) : Fr × Nat × Int :=
  (mkF (rdNs l 6).1 (rdText l 250 (rdNs l 6).2.1 (rdNs l 6).2.2).1
    (rdNum l (rdText l 250 (rdNs l 6).2.1 (rdNs l 6).2.2).2.1 (rdText l 250 (rdNs l 6).2.1 (rdNs l 6).2.2).2.2).1
    (rdText l 1049600 (rdNum l (rdText l 250 (rdNs l 6).2.1 (rdNs l 6).2.2).2.1 (rdText l 250 (rdNs l 6).2.1 (rdNs l 6).2.2).2.2).2.1 (rdNum l (rdText l 250 (rdNs l 6).2.1 (rdNs l 6).2.2).2.1 (rdText l 250 (rdNs l 6).2.1 (rdNs l 6).2.2).2.2).2.2).1,
   (rdText l 1049600 (rdNum l (rdText l 250 (rdNs l 6).2.1 (rdNs l 6).2.2).2.1 (rdText l 250 (rdNs l 6).2.1 (rdNs l 6).2.2).2.2).2.1 (rdNum l (rdText l 250 (rdNs l 6).2.1 (rdNs l 6).2.2).2.1 (rdText l 250 (rdNs l 6).2.1 (rdNs l 6).2.2).2.2).2.2).2)
def Fr.zero : Fr := ⟨0, 0, 0, 0, 0, 0, .empty, 0, .empty⟩
def getR (l : List UInt8) : Fr × Int :=
  if rdEnd l (getF l).2.1 (getF l).2.2 = 0 then (if (getF l).1.R then ((getF l).1, 0) else (.zero, 4)) else (.zero, rdEnd l (getF l).2.1 (getF l).2.2)
/-- A frame's cells, of which some are read. -/
def fzs : List AV := Fr.zero.c
def fcs (xs : List Int) : List AV := xs.map ii ++ fzs.drop xs.length
theorem fcs_snoc {xs : List Int} (x : Int) (h : xs.length < 9) : (fcs xs).set xs.length (.int .i64 x) = fcs (xs ++ [x]) := by
  have hl : fzs.length = 9 := rfl
  unfold fcs
  have e : fzs.drop xs.length = fzs[xs.length] :: fzs.drop (xs.length + 1) := List.drop_eq_getElem_cons (by omega)
  rw [e, List.set_append_right _ _ (by simp), List.length_map, Nat.sub_self, List.set_cons_zero, List.map_append, List.length_append]
  simp [ii]
theorem fcs_len {xs : List Int} (h : xs.length ≤ 9) : (fcs xs).length = 9 := by
  have hl : fzs.length = 9 := rfl
  unfold fcs
  simp [hl]
  omega
theorem six {xs : List Int} (h : xs.length = 6) : ∃ a b c d e f, xs = [a, b, c, d, e, f] := by
  match xs, h with
  | [a, b, c, d, e, f], _ => exact ⟨a, b, c, d, e, f, rfl⟩
theorem rdText_size {l : List UInt8} {most : Int} {p : Nat} {e : Int} : (rdText l most p e).1.length ≤ l.length := by
  unfold rdText
  split
  · exact Nat.zero_le _
  · split
    · exact Nat.zero_le _
    · split
      · exact Nat.zero_le _
      · simp only [List.length_take, List.length_drop]
        omega
theorem txt_size (l : List UInt8) : (txt l).size = l.length := rfl
/-- A cell beside a reader is set. -/
theorem Rdr.beside {h : Heap} {b p d i : Nat} {w : AV} {l : List UInt8} {e : Int} {c : List AV} (r : Rdr h b w l p e) (g : h.get d = some (.cells c false)) (hd : d ≠ b) (hw : ∀ c i n k s x, w = .sl c i n k s x → c ≠ d) (hi : i < c.length) (x : AV) :
    ∃ h', alay h d i [x] = some h' ∧ Rdr h' b w l p e ∧ h'.get d = some (.cells (c.set i x) false) ∧ Keep h.next (fun c => c = d) h h' := by
  have kk : Keep h.next (fun c => c = d) h (h.set d (.cells (c.set i x) false)) := Keep.set (F := fun c => c = d) (.inl rfl) _
  refine ⟨h.set d (.cells (c.set i x) false), ?_, r.keep kk (fun q => hd q.symm) fun c' i' n k s x' q => hw c' i' n k s x' q, get_set_self _ _ _, kk⟩
  unfold alay
  rw [g]
  simp only
  rw [layAt_set hi]
theorem frc_len (f : Fr) : f.c.length = 9 := rfl
def pts (b : Nat) : List AV := [.ptr b 0, .ptr b 1, .ptr b 2, .ptr b 3, .ptr b 4, .ptr b 5]
theorem pts_get (b : Nat) : ∀ n, n < 6 → (pts b)[n]? = some (.ptr b n)
  | 0, _ => rfl
  | 1, _ => rfl
  | 2, _ => rfl
  | 3, _ => rfl
  | 4, _ => rfl
  | 5, _ => rfl
  | n + 6, h => by omega

set_option maxHeartbeats 2000000 in
theorem wGet_ok (k : Nat) (hk : 60 < k) (h : Heap) (v : AV) (l : List UInt8) (r : Sl 1 l.length h v (l.map bb)) (hl : l.length < 100000000) :
    ∃ v' h', acall Try.prog (k + 5) 8 [v] h = some (v', h') ∧ v' = .tup [.agg (getR l).1.c, .int .i64 (getR l).2] ∧ Keep h.next nob h h' := by
  obtain ⟨h1, e1⟩ : ∃ h1, h1 = h.new (.cells fzs false) := ⟨_, rfl⟩
  have k1 : Keep h.next nob h h1 := by rw [e1]; exact Keep.new (Nat.le_refl _) _
  have g2 : h1.get h.next = some (.cells fzs false) := by rw [e1]; exact get_new_self _ _
  have n2 : h.next < h1.next := by rw [e1]; exact Nat.lt_succ_self _
  have r1 := r.ext k1
  obtain ⟨v2, h2, E2, b, w, e2, hb1, hb2, R2, k2⟩ := read_ok (k + 2) h1 v l r1 hl
  subst e2
  have K2 := k1.trans (k2.weak k1.1 fun _ _ q => q)
  have hb3 : h.next < b := by omega
  obtain ⟨b5, eb5⟩ : ∃ b5, b5 = h2.next := ⟨_, rfl⟩
  obtain ⟨h3, e3⟩ : ∃ h3, h3 = h2.new (.cells fzs false) := ⟨_, rfl⟩
  have k3 : Keep h2.next nob h2 h3 := by rw [e3]; exact Keep.new (Nat.le_refl _) _
  have g5 : h3.get b5 = some (.cells fzs false) := by rw [e3, eb5]; exact get_new_self _ _
  have n5 : b5 < h3.next := by rw [e3, eb5]; exact Nat.lt_succ_self _
  obtain ⟨h4, e4⟩ : ∃ h4, h4 = h3.new (.cells (pts b5) false) := ⟨_, rfl⟩
  have k4 : Keep h3.next nob h3 h4 := by rw [e4]; exact Keep.new (Nat.le_refl _) _
  have S4 : Sl 1 6 h4 (.sl h3.next 0 6 6 1 true) (pts b5) := by
    rw [e4]
    exact .inr (.inr ⟨h3.next, 0, 6, true, _, false, rfl, Nat.lt_succ_self _, get_new_self _ _, rfl, by simp [pts], rfl, Nat.le_refl _⟩)
  obtain ⟨v17, hv17⟩ : ∃ v, v = AV.sl h3.next 0 6 6 1 true := ⟨_, rfl⟩
  rw [← hv17] at S4
  have blt := R2.2.1
  have wlt : ∀ c i n k s x, w = .sl c i n k s x → c ≠ b5 := fun c i n k s x q => by have := sl_lt R2.2.2.1 c i n k s x q; omega
  have v17lt : ∀ c i n k s x, v17 = .sl c i n k s x → c = h3.next := fun c i n k s x q => by rw [hv17] at q; cases q; rfl
  have R4 : Rdr h4 b w l 0 0 := (R2.keep k3 id fun _ _ _ _ _ _ _ => id).keep (k4.weak (Nat.le_refl _) fun _ _ q => q) id fun _ _ _ _ _ _ _ => id
  have g54 : h4.get b5 = some (.cells (fcs []) false) := (k4.2 _ n5 id).trans g5
  have K4 : Keep h.next nob h h4 := ((K2.trans (k3.weak K2.1 fun _ _ q => q)).trans (k4.weak (Nat.le_trans K2.1 k3.1) fun _ _ q => q))
  have n24 : h.next < h2.next := Nat.lt_of_lt_of_le n2 k2.1
  have g24 : h4.get h.next = some (.cells fzs false) := by
    rw [k4.2 _ (Nat.lt_of_lt_of_le n24 k3.1) id, k3.2 _ n24 id, k2.2 _ n2 id]
    exact g2
  have b5b : b5 ≠ b := by omega
  have b5h : h.next < b5 := by omega
  have h34 := k4.1
  have h23 := k3.1
  have s3l : h3.next < h4.next := by rw [e4]; exact Nat.lt_succ_self _
  have e1' : h.new (.cells [.int .i64 0, .int .i64 0, .int .i64 0, .int .i64 0, .int .i64 0, .int .i64 0, .str .empty, .int .i64 0, .str .empty] false) = h1 := e1.symm
  have e3' : h2.new (.cells [.int .i64 0, .int .i64 0, .int .i64 0, .int .i64 0, .int .i64 0, .int .i64 0, .str .empty, .int .i64 0, .str .empty] false) = h3 := e3.symm
  have e4' : h3.new (.cells [.ptr h2.next 0, .ptr h2.next 1, .ptr h2.next 2, .ptr h2.next 3, .ptr h2.next 4, .ptr h2.next 5] false) = h4 := by rw [e4, eb5]; rfl
  rw [acall_text [] Try.func8 (by kernel_rfl)]
  refine afuncT_ex rfl (by simp [Try.f8]) ?_
  simp [Try.f8, aalloc, afill, AV.row1, AV.row, AV.one, e1', E2, e3', e4']
  rw [← hv17]
  refine W_cutLoop 0 (fun st => st.t.get 2 = some (.ptr h.next 0) ∧ st.t.get 3 = some (.int .i64 0) ∧ st.t.get 4 = some (.ptr b 0) ∧ st.t.get 5 = some (.ptr b5 0) ∧ Keep h4.next (fun c => c = b ∨ c = b5) h4 st.h ∧
      st.h.get b5 = some (.cells (fcs (rdNs l 6).1) false) ∧ Rdr st.h b w l (rdNs l 6).2.1 (rdNs l 6).2.2) ?_ ?_
  · refine W_loop (fun m st => ∃ (n : Nat), m = 6 - n ∧ n ≤ 6 ∧ st.t.get 2 = some (.ptr h.next 0) ∧ st.t.get 3 = some (.int .i64 0) ∧ st.t.get 4 = some (.ptr b 0) ∧ st.t.get 5 = some (.ptr b5 0) ∧ st.t.get 17 = some v17 ∧ st.t.get 18 = some (.int .i64 6) ∧ st.t.get 19 = some (.int .i64 (n : Nat)) ∧
      Keep h4.next (fun c => c = b ∨ c = b5) h4 st.h ∧ st.h.get b5 = some (.cells (fcs (rdNs l n).1) false) ∧ Rdr st.h b w l (rdNs l n).2.1 (rdNs l n).2.2) 6 (by omega)
      ⟨0, by simp, by omega, by simp, by simp, by simp, by simp [eb5], by simp [hv17], by simp, by simp, Keep.refl _ _ _, g54, R4⟩ ?_
    rintro m ⟨t, h5⟩ ⟨n, rfl, hn, q2, q3, q4, q5, q17, q18, q19, K, G, R⟩
    simp only at q2 q3 q4 q5 q17 q18 q19 K G R
    by_cases hlt : n < 6
    · have S5 := S4.keep K fun c i n k s x q => by have := v17lt c i n k s x q; constructor <;> omega
      have ix := S5.idx1 (P := Try.prog) Try.underlying45 ts44 (j := n) hlt .i64
      have ld := S5.ld (P := Try.prog) ta44 (pts_get b5 n hlt)
      obtain ⟨u6, h6, E6, f6, R6, k6⟩ := num_all (k + 2) h5 b _ w l _ (by omega) R (rdNs_le l n) hl
      subst f6
      have hK5 := K.1
      have G6 : h6.get b5 = some (.cells (fcs (rdNs l n).1) false) := (k6.2 _ (by omega) b5b).trans G
      obtain ⟨h7, E7, R7, G7, k7⟩ := R6.beside (i := n) G6 b5b wlt (by rw [fcs_len (by rw [rdNs_len]; omega)]; omega) (.int .i64 (rdNum l (rdNs l n).2.1 (rdNs l n).2.2).1)
      have hK6 := k6.1
      have K7 : Keep h4.next (fun c => c = b ∨ c = b5) h4 h7 := (K.trans (k6.weak K.1 fun _ _ q => .inl q)).trans (k7.weak (by omega) fun _ _ q => .inr q)
      have ef := fcs_snoc (xs := (rdNs l n).1) (rdNum l (rdNs l n).2.1 (rdNs l n).2.2).1 (by rw [rdNs_len]; omega)
      rw [rdNs_len] at ef
      rw [ef] at G7
      have G8 : h7.get b5 = some (.cells (fcs (rdNs l (n + 1)).1) false) := G7
      have R8 : Rdr h7 b w l (rdNs l (n + 1)).2.1 (rdNs l (n + 1)).2.2 := R7
      simp [q2, q3, q4, q5, q17, q18, q19, isLt (show (n : Int) < 6 by omega), ix, ld, E6, E7, i64w ((n : Int) + 1) (by omega) (by omega)]
      exact ⟨6 - (n + 1), by omega, n + 1, rfl, by omega, rfl, K7, G8, R8⟩
    · have : n = 6 := by omega
      subst this
      simp [q2, q3, q4, q5, q17, q18, q19]
      exact ⟨K, G, R⟩
  rintro ⟨t, h5⟩ ⟨q2, q3, q4, q5, K, G, R⟩
  simp only at q2 q3 q4 q5 K G R
  have hK5 := K.1
  have p6 := rdNs_le l 6
  obtain ⟨a0, a1, a2, a3, a4, a5, hx⟩ := six (rdNs_len l 6)
  have hgF : getF l = getF l := rfl
  unfold getF at hgF
  obtain ⟨u6, h6, E6, f6, R6, k6⟩ := text_ok k h5 b _ w l _ (by omega) 250 R p6 hl
  subst f6
  have p7 := rdText_le 250 (rdNs l 6).2.2 p6
  have z7 := rdText_size (l := l) (most := 250) (p := (rdNs l 6).2.1) (e := (rdNs l 6).2.2)
  have hK6 := k6.1
  obtain ⟨h7, E7, R7, G7, k7⟩ := R6.beside (i := 6) ((k6.2 _ (by omega) b5b).trans G) b5b wlt (by rw [fcs_len (by rw [rdNs_len]; omega)]; omega) (.str (txt (rdText l 250 (rdNs l 6).2.1 (rdNs l 6).2.2).1))
  have hK7 := k7.1
  obtain ⟨u8, h8, E8, f8, R8, k8⟩ := num_all (k + 2) h7 b _ w l _ (by omega) R7 p7 hl
  subst f8
  have p8 := rdNum_le (rdText l 250 (rdNs l 6).2.1 (rdNs l 6).2.2).2.2 p7
  have hK8 := k8.1
  obtain ⟨h9, E9, R9, G9, k9⟩ := R8.beside (i := 7) ((k8.2 _ (by omega) b5b).trans G7) b5b wlt (by rw [List.length_set, fcs_len (by rw [rdNs_len]; omega)]; omega) (.int .i64 (rdNum l (rdText l 250 (rdNs l 6).2.1 (rdNs l 6).2.2).2.1 (rdText l 250 (rdNs l 6).2.1 (rdNs l 6).2.2).2.2).1)
  have hK9 := k9.1
  obtain ⟨u10, h10, E10, f10, R10, k10⟩ := text_ok k h9 b _ w l _ (by omega) 1049600 R9 p8 hl
  subst f10
  have p10 := rdText_le 1049600 (rdNum l (rdText l 250 (rdNs l 6).2.1 (rdNs l 6).2.2).2.1 (rdText l 250 (rdNs l 6).2.1 (rdNs l 6).2.2).2.2).2.2 p8
  have z10 := rdText_size (l := l) (most := 1049600) (p := (rdNum l (rdText l 250 (rdNs l 6).2.1 (rdNs l 6).2.2).2.1 (rdText l 250 (rdNs l 6).2.1 (rdNs l 6).2.2).2.2).2.1) (e := (rdNum l (rdText l 250 (rdNs l 6).2.1 (rdNs l 6).2.2).2.1 (rdText l 250 (rdNs l 6).2.1 (rdNs l 6).2.2).2.2).2.2)
  have hK10 := k10.1
  obtain ⟨h11, E11, R11, G11, k11⟩ := R10.beside (i := 8) ((k10.2 _ (by omega) b5b).trans G9) b5b wlt (by rw [List.length_set, List.length_set, fcs_len (by rw [rdNs_len]; omega)]; omega) (.str (txt (rdText l 1049600 (rdNum l (rdText l 250 (rdNs l 6).2.1 (rdNs l 6).2.2).2.1 (rdText l 250 (rdNs l 6).2.1 (rdNs l 6).2.2).2.2).2.1 (rdNum l (rdText l 250 (rdNs l 6).2.1 (rdNs l 6).2.2).2.1 (rdText l 250 (rdNs l 6).2.1 (rdNs l 6).2.2).2.2).2.2).1))
  have hK11 := k11.1
  obtain ⟨u12, h12, E12, f12, R12, k12⟩ := end_ok (k + 3) h11 b _ w l _ R11 p10 hl
  subst f12
  have hK12 := k12.1
  have G12 : h12.get b5 = some (.cells (getF l).1.c false) := by
    rw [k12.2 _ (by omega) b5b, G11]
    unfold getF mkF
    rw [hx]
    rfl
  have zk : (getF l).1.key.size ≤ maxLen := by
    show (txt _).size ≤ maxLen
    rw [txt_size]
    have : maxLen = 9223372036854775807 := rfl
    omega
  have zd : (getF l).1.data.size ≤ maxLen := by
    show (txt _).size ≤ maxLen
    rw [txt_size]
    have : maxLen = 9223372036854775807 := rfl
    omega
  have e12 : rdEnd l (getF l).2.1 (getF l).2.2 = rdEnd l (getF l).2.1 (getF l).2.2 := rfl
  conv at e12 => lhs; unfold getF; simp only
  rw [e12] at E12
  have K12 : Keep h4.next (fun c => c = b ∨ c = b5) h4 h12 := ⟨by omega, fun c hc hn => by
    have n1 : ¬ c = b := fun q => hn (.inl q)
    have n2 : ¬ c = b5 := fun q => hn (.inr q)
    rw [k12.2 c (by omega) n1, k11.2 c (by omega) n2, k10.2 c (by omega) n1, k9.2 c (by omega) n2, k8.2 c (by omega) n1, k7.2 c (by omega) n2, k6.2 c (by omega) n1, K.2 c hc hn]⟩
  have KK : Keep h.next nob h h12 := ⟨by have := K4.1; omega, fun c hc _ => by rw [K12.2 c (by have := K4.1; omega) (by omega), K4.2 c hc id]⟩
  have g212 : h12.get h.next = some (.cells fzs false) := by rw [K12.2 _ (by omega) (by omega)]; exact g24
  clear e12 hgF hx z7 z10 p6 p7 p8 p10 G G7 G9 G11 R R6 R7 R8 R9 R10 R11 R12
  unfold getR
  generalize rdEnd l (getF l).2.1 (getF l).2.2 = e at *
  obtain ⟨f, hf⟩ : ∃ f, f = (getF l).1 := ⟨_, rfl⟩
  rw [← hf] at zk zd G12 ⊢
  have L12 := (fr_ld G12).2.2.2.2.2.2.2.2.2
  have fin : ∀ (h' : Heap) (g : Fr), Keep h.next nob h h' → h.next < h'.next → h'.get h.next = some (.cells fzs false) → ∃ h'', alay h' h.next 0 g.c = some h'' ∧ aload Try.prog h'' 25 h.next 0 = some (.agg g.c) ∧ Keep h.next nob h h'' := fun h' g K' n' g' =>
    ⟨h'.set h.next (.cells g.c false), by unfold alay; rw [g']; rfl, (fr_ld (get_set_self _ _ _)).2.2.2.2.2.2.2.2.2, K'.trans (Keep.set (.inr (Nat.le_refl _)) _)⟩
  have nh12 : h.next < h12.next := by omega
  have rw0 : (AV.agg [.int .i64 0, .int .i64 0, .int .i64 0, .int .i64 0, .int .i64 0, .int .i64 0, .str .empty, .int .i64 0, .str .empty]).row1 = some Fr.zero.c := rfl
  have rwf : (AV.agg f.c).row1 = some f.c := rfl
  by_cases he : e = 0
  rotate_left
  · rw [if_neg he]
    obtain ⟨h14, E14, L14, K14⟩ := fin h12 .zero KK nh12 g212
    simp [q2, q3, q4, q5, E6, E7, E8, E9, E10, E11, E12, he, afill, frc_len, rw0, E14, L14]
    exact K14
  rw [if_pos he]
  subst he
  obtain ⟨u13, h13, E13, f13, k13⟩ := wRight_ok (k + 2) h12 f zk zd
  subst f13
  have K13 := KK.trans (k13.weak KK.1 fun _ _ q => q)
  have nh13 : h.next < h13.next := Nat.lt_of_lt_of_le nh12 k13.1
  have g213 : h13.get h.next = some (.cells fzs false) := (k13.2 _ nh12 id).trans g212
  have L13 := (fr_ld ((k13.2 _ (by omega) id).trans G12)).2.2.2.2.2.2.2.2.2
  by_cases hR : f.R
  · rw [if_pos hR]
    rw [decide_eq_true hR] at E13
    obtain ⟨h14, E14, L14, K14⟩ := fin h13 f K13 nh13 g213
    simp [q2, q3, q4, q5, E6, E7, E8, E9, E10, E11, E12, L12, L13, E13, afill, frc_len, rwf, E14, L14]
    exact K14
  · rw [if_neg hR]
    rw [decide_eq_false hR] at E13
    obtain ⟨h14, E14, L14, K14⟩ := fin h13 .zero K13 nh13 g213
    simp [q2, q3, q4, q5, E6, E7, E8, E9, E10, E11, E12, L12, L13, E13, afill, frc_len, rw0, E14, L14]
    exact K14

set_option maxHeartbeats 2000000 in
theorem rGet_ok (k : Nat) (hk : 60 < k) (h : Heap) (v : AV) (l : List UInt8) (r : Sl 1 l.length h v (l.map bb)) (hl : l.length < 100000000) :
    ∃ v' h', acall Try.prog (k + 5) 14 [v] h = some (v', h') ∧ v' = .tup [.agg (getR l).1.c, .int .i64 (getR l).2] ∧ Keep h.next nob h h' := by
  obtain ⟨h1, e1⟩ : ∃ h1, h1 = h.new (.cells fzs false) := ⟨_, rfl⟩
  have k1 : Keep h.next nob h h1 := by rw [e1]; exact Keep.new (Nat.le_refl _) _
  have g2 : h1.get h.next = some (.cells fzs false) := by rw [e1]; exact get_new_self _ _
  have n2 : h.next < h1.next := by rw [e1]; exact Nat.lt_succ_self _
  have r1 := r.ext k1
  obtain ⟨h2, e2⟩ : ∃ h2, h2 = h1.new (.cells [v, .int .i64 0, .int .i64 0] false) := ⟨_, rfl⟩
  obtain ⟨b, eb⟩ : ∃ b, b = h1.next := ⟨_, rfl⟩
  obtain ⟨w, ew⟩ : ∃ w, w = v := ⟨_, rfl⟩
  have k2 : Keep h1.next nob h1 h2 := by rw [e2]; exact Keep.new (Nat.le_refl _) _
  have R2 : Rdr h2 b w l 0 0 := by
    rw [e2, eb, ew]
    exact ⟨get_new_self _ _, Nat.lt_succ_self _, r1.new _, fun c i n k s x q => Nat.ne_of_lt (sl_lt r1 c i n k s x q)⟩
  have K2 := k1.trans (k2.weak k1.1 fun _ _ q => q)
  have hb2 : b < h2.next := R2.2.1
  have hb3 : h.next < b := by omega
  obtain ⟨b5, eb5⟩ : ∃ b5, b5 = h2.next := ⟨_, rfl⟩
  obtain ⟨h3, e3⟩ : ∃ h3, h3 = h2.new (.cells fzs false) := ⟨_, rfl⟩
  have k3 : Keep h2.next nob h2 h3 := by rw [e3]; exact Keep.new (Nat.le_refl _) _
  have g5 : h3.get b5 = some (.cells fzs false) := by rw [e3, eb5]; exact get_new_self _ _
  have n5 : b5 < h3.next := by rw [e3, eb5]; exact Nat.lt_succ_self _
  obtain ⟨h4, e4⟩ : ∃ h4, h4 = h3.new (.cells (pts b5) false) := ⟨_, rfl⟩
  have k4 : Keep h3.next nob h3 h4 := by rw [e4]; exact Keep.new (Nat.le_refl _) _
  have S4 : Sl 1 6 h4 (.sl h3.next 0 6 6 1 true) (pts b5) := by
    rw [e4]
    exact .inr (.inr ⟨h3.next, 0, 6, true, _, false, rfl, Nat.lt_succ_self _, get_new_self _ _, rfl, by simp [pts], rfl, Nat.le_refl _⟩)
  obtain ⟨v17, hv17⟩ : ∃ v, v = AV.sl h3.next 0 6 6 1 true := ⟨_, rfl⟩
  rw [← hv17] at S4
  have blt := R2.2.1
  have wlt : ∀ c i n k s x, w = .sl c i n k s x → c ≠ b5 := fun c i n k s x q => by have := sl_lt R2.2.2.1 c i n k s x q; omega
  have v17lt : ∀ c i n k s x, v17 = .sl c i n k s x → c = h3.next := fun c i n k s x q => by rw [hv17] at q; cases q; rfl
  have R4 : Rdr h4 b w l 0 0 := (R2.keep k3 id fun _ _ _ _ _ _ _ => id).keep (k4.weak (Nat.le_refl _) fun _ _ q => q) id fun _ _ _ _ _ _ _ => id
  have g54 : h4.get b5 = some (.cells (fcs []) false) := (k4.2 _ n5 id).trans g5
  have K4 : Keep h.next nob h h4 := ((K2.trans (k3.weak K2.1 fun _ _ q => q)).trans (k4.weak (Nat.le_trans K2.1 k3.1) fun _ _ q => q))
  have n24 : h.next < h2.next := Nat.lt_of_lt_of_le n2 k2.1
  have g24 : h4.get h.next = some (.cells fzs false) := by
    rw [k4.2 _ (Nat.lt_of_lt_of_le n24 k3.1) id, k3.2 _ n24 id, k2.2 _ n2 id]
    exact g2
  have b5b : b5 ≠ b := by omega
  have b5h : h.next < b5 := by omega
  have h34 := k4.1
  have h23 := k3.1
  have s3l : h3.next < h4.next := by rw [e4]; exact Nat.lt_succ_self _
  have e1' : h.new (.cells [.int .i64 0, .int .i64 0, .int .i64 0, .int .i64 0, .int .i64 0, .int .i64 0, .str .empty, .int .i64 0, .str .empty] false) = h1 := e1.symm
  have e3' : h2.new (.cells [.int .i64 0, .int .i64 0, .int .i64 0, .int .i64 0, .int .i64 0, .int .i64 0, .str .empty, .int .i64 0, .str .empty] false) = h3 := e3.symm
  have e4' : h3.new (.cells [.ptr h2.next 0, .ptr h2.next 1, .ptr h2.next 2, .ptr h2.next 3, .ptr h2.next 4, .ptr h2.next 5] false) = h4 := by rw [e4, eb5]; rfl
  rw [acall_text [] Try.func14 (by kernel_rfl)]
  refine afuncT_ex rfl (by simp [Try.f14]) ?_
  have e2' : h1.new (.cells [v, .int .i64 0, .int .i64 0] false) = h2 := e2.symm
  have rwv : v.one = true := r1.oneV
  have rwg : (AV.agg [v, .int .i64 0, .int .i64 0]).row1 = some [v, .int .i64 0, .int .i64 0] := by rw [row1_agg]; simp [rwv]
  have j2 : h2.next = b + 1 := by rw [e2, eb]; rfl
  have j3 : h3.next = b + 1 + 1 := by rw [e3, ← j2]; rfl
  rw [j2] at e4'
  simp [Try.f14, aalloc, afill, e1', row1_one rwv, rwg, e2', e3', e4', ← eb]
  rw [← j3]
  rw [← hv17]
  refine W_cutLoop 0 (fun st => st.t.get 2 = some (.ptr h.next 0) ∧ st.t.get 3 = some (.int .i64 0) ∧ st.t.get 4 = some (.ptr b 0) ∧ st.t.get 5 = some (.ptr b5 0) ∧ Keep h4.next (fun c => c = b ∨ c = b5) h4 st.h ∧
      st.h.get b5 = some (.cells (fcs (rdNs l 6).1) false) ∧ Rdr st.h b w l (rdNs l 6).2.1 (rdNs l 6).2.2) ?_ ?_
  · refine W_loop (fun m st => ∃ (n : Nat), m = 6 - n ∧ n ≤ 6 ∧ st.t.get 2 = some (.ptr h.next 0) ∧ st.t.get 3 = some (.int .i64 0) ∧ st.t.get 4 = some (.ptr b 0) ∧ st.t.get 5 = some (.ptr b5 0) ∧ st.t.get 18 = some v17 ∧ st.t.get 19 = some (.int .i64 6) ∧ st.t.get 20 = some (.int .i64 (n : Nat)) ∧
      Keep h4.next (fun c => c = b ∨ c = b5) h4 st.h ∧ st.h.get b5 = some (.cells (fcs (rdNs l n).1) false) ∧ Rdr st.h b w l (rdNs l n).2.1 (rdNs l n).2.2) 6 (by omega)
      ⟨0, by simp, by omega, by simp, by simp, by simp, by simp [eb5, j2], by simp [hv17], by simp, by simp, Keep.refl _ _ _, g54, R4⟩ ?_
    rintro m ⟨t, h5⟩ ⟨n, rfl, hn, q2, q3, q4, q5, q17, q18, q19, K, G, R⟩
    simp only at q2 q3 q4 q5 q17 q18 q19 K G R
    by_cases hlt : n < 6
    · have S5 := S4.keep K fun c i n k s x q => by have := v17lt c i n k s x q; constructor <;> omega
      have ix := S5.idx1 (P := Try.prog) Try.underlying45 ts44 (j := n) hlt .i64
      have ld := S5.ld (P := Try.prog) ta44 (pts_get b5 n hlt)
      obtain ⟨u6, h6, E6, f6, R6, k6⟩ := rnum_all (k + 2) h5 b _ w l _ (by omega) R (rdNs_le l n) hl
      subst f6
      have hK5 := K.1
      have G6 : h6.get b5 = some (.cells (fcs (rdNs l n).1) false) := (k6.2 _ (by omega) b5b).trans G
      obtain ⟨h7, E7, R7, G7, k7⟩ := R6.beside (i := n) G6 b5b wlt (by rw [fcs_len (by rw [rdNs_len]; omega)]; omega) (.int .i64 (rdNum l (rdNs l n).2.1 (rdNs l n).2.2).1)
      have hK6 := k6.1
      have K7 : Keep h4.next (fun c => c = b ∨ c = b5) h4 h7 := (K.trans (k6.weak K.1 fun _ _ q => .inl q)).trans (k7.weak (by omega) fun _ _ q => .inr q)
      have ef := fcs_snoc (xs := (rdNs l n).1) (rdNum l (rdNs l n).2.1 (rdNs l n).2.2).1 (by rw [rdNs_len]; omega)
      rw [rdNs_len] at ef
      rw [ef] at G7
      have G8 : h7.get b5 = some (.cells (fcs (rdNs l (n + 1)).1) false) := G7
      have R8 : Rdr h7 b w l (rdNs l (n + 1)).2.1 (rdNs l (n + 1)).2.2 := R7
      simp [q2, q3, q4, q5, q17, q18, q19, isLt (show (n : Int) < 6 by omega), ix, ld, E6, E7, i64w ((n : Int) + 1) (by omega) (by omega)]
      exact ⟨6 - (n + 1), by omega, n + 1, rfl, by omega, rfl, K7, G8, R8⟩
    · have : n = 6 := by omega
      subst this
      simp [q2, q3, q4, q5, q17, q18, q19]
      exact ⟨K, G, R⟩
  rintro ⟨t, h5⟩ ⟨q2, q3, q4, q5, K, G, R⟩
  simp only at q2 q3 q4 q5 K G R
  have hK5 := K.1
  have p6 := rdNs_le l 6
  obtain ⟨a0, a1, a2, a3, a4, a5, hx⟩ := six (rdNs_len l 6)
  have hgF : getF l = getF l := rfl
  unfold getF at hgF
  obtain ⟨u6, h6, E6, f6, R6, k6⟩ := rtext_ok k h5 b _ w l _ (by omega) 250 R p6 hl
  subst f6
  have p7 := rdText_le 250 (rdNs l 6).2.2 p6
  have z7 := rdText_size (l := l) (most := 250) (p := (rdNs l 6).2.1) (e := (rdNs l 6).2.2)
  have hK6 := k6.1
  obtain ⟨h7, E7, R7, G7, k7⟩ := R6.beside (i := 6) ((k6.2 _ (by omega) b5b).trans G) b5b wlt (by rw [fcs_len (by rw [rdNs_len]; omega)]; omega) (.str (txt (rdText l 250 (rdNs l 6).2.1 (rdNs l 6).2.2).1))
  have hK7 := k7.1
  obtain ⟨u8, h8, E8, f8, R8, k8⟩ := rnum_all (k + 2) h7 b _ w l _ (by omega) R7 p7 hl
  subst f8
  have p8 := rdNum_le (rdText l 250 (rdNs l 6).2.1 (rdNs l 6).2.2).2.2 p7
  have hK8 := k8.1
  obtain ⟨h9, E9, R9, G9, k9⟩ := R8.beside (i := 7) ((k8.2 _ (by omega) b5b).trans G7) b5b wlt (by rw [List.length_set, fcs_len (by rw [rdNs_len]; omega)]; omega) (.int .i64 (rdNum l (rdText l 250 (rdNs l 6).2.1 (rdNs l 6).2.2).2.1 (rdText l 250 (rdNs l 6).2.1 (rdNs l 6).2.2).2.2).1)
  have hK9 := k9.1
  obtain ⟨u10, h10, E10, f10, R10, k10⟩ := rtext_ok k h9 b _ w l _ (by omega) 1049600 R9 p8 hl
  subst f10
  have p10 := rdText_le 1049600 (rdNum l (rdText l 250 (rdNs l 6).2.1 (rdNs l 6).2.2).2.1 (rdText l 250 (rdNs l 6).2.1 (rdNs l 6).2.2).2.2).2.2 p8
  have z10 := rdText_size (l := l) (most := 1049600) (p := (rdNum l (rdText l 250 (rdNs l 6).2.1 (rdNs l 6).2.2).2.1 (rdText l 250 (rdNs l 6).2.1 (rdNs l 6).2.2).2.2).2.1) (e := (rdNum l (rdText l 250 (rdNs l 6).2.1 (rdNs l 6).2.2).2.1 (rdText l 250 (rdNs l 6).2.1 (rdNs l 6).2.2).2.2).2.2)
  have hK10 := k10.1
  obtain ⟨h11, E11, R11, G11, k11⟩ := R10.beside (i := 8) ((k10.2 _ (by omega) b5b).trans G9) b5b wlt (by rw [List.length_set, List.length_set, fcs_len (by rw [rdNs_len]; omega)]; omega) (.str (txt (rdText l 1049600 (rdNum l (rdText l 250 (rdNs l 6).2.1 (rdNs l 6).2.2).2.1 (rdText l 250 (rdNs l 6).2.1 (rdNs l 6).2.2).2.2).2.1 (rdNum l (rdText l 250 (rdNs l 6).2.1 (rdNs l 6).2.2).2.1 (rdText l 250 (rdNs l 6).2.1 (rdNs l 6).2.2).2.2).2.2).1))
  have hK11 := k11.1
  obtain ⟨u12, h12, E12, f12, R12, k12⟩ := rend_ok (k + 2) h11 b _ w l _ R11 p10 hl
  subst f12
  have hK12 := k12.1
  have G12 : h12.get b5 = some (.cells (getF l).1.c false) := by
    rw [k12.2 _ (by omega) b5b, G11]
    unfold getF mkF
    rw [hx]
    rfl
  have zk : (getF l).1.key.size ≤ maxLen := by
    show (txt _).size ≤ maxLen
    rw [txt_size]
    have : maxLen = 9223372036854775807 := rfl
    omega
  have zd : (getF l).1.data.size ≤ maxLen := by
    show (txt _).size ≤ maxLen
    rw [txt_size]
    have : maxLen = 9223372036854775807 := rfl
    omega
  have e12 : rdEnd l (getF l).2.1 (getF l).2.2 = rdEnd l (getF l).2.1 (getF l).2.2 := rfl
  conv at e12 => lhs; unfold getF; simp only
  rw [e12] at E12
  have K12 : Keep h4.next (fun c => c = b ∨ c = b5) h4 h12 := ⟨by omega, fun c hc hn => by
    have n1 : ¬ c = b := fun q => hn (.inl q)
    have n2 : ¬ c = b5 := fun q => hn (.inr q)
    rw [k12.2 c (by omega) n1, k11.2 c (by omega) n2, k10.2 c (by omega) n1, k9.2 c (by omega) n2, k8.2 c (by omega) n1, k7.2 c (by omega) n2, k6.2 c (by omega) n1, K.2 c hc hn]⟩
  have KK : Keep h.next nob h h12 := ⟨by have := K4.1; omega, fun c hc _ => by rw [K12.2 c (by have := K4.1; omega) (by omega), K4.2 c hc id]⟩
  have g212 : h12.get h.next = some (.cells fzs false) := by rw [K12.2 _ (by omega) (by omega)]; exact g24
  clear e12 hgF hx z7 z10 p6 p7 p8 p10 G G7 G9 G11 R R6 R7 R8 R9 R10 R11 R12
  unfold getR
  generalize rdEnd l (getF l).2.1 (getF l).2.2 = e at *
  obtain ⟨f, hf⟩ : ∃ f, f = (getF l).1 := ⟨_, rfl⟩
  rw [← hf] at zk zd G12 ⊢
  have L12 := (fr_ld G12).2.2.2.2.2.2.2.2.2
  have fin : ∀ (h' : Heap) (g : Fr), Keep h.next nob h h' → h.next < h'.next → h'.get h.next = some (.cells fzs false) → ∃ h'', alay h' h.next 0 g.c = some h'' ∧ aload Try.prog h'' 25 h.next 0 = some (.agg g.c) ∧ Keep h.next nob h h'' := fun h' g K' n' g' =>
    ⟨h'.set h.next (.cells g.c false), by unfold alay; rw [g']; rfl, (fr_ld (get_set_self _ _ _)).2.2.2.2.2.2.2.2.2, K'.trans (Keep.set (.inr (Nat.le_refl _)) _)⟩
  have nh12 : h.next < h12.next := by omega
  have rw0 : (AV.agg [.int .i64 0, .int .i64 0, .int .i64 0, .int .i64 0, .int .i64 0, .int .i64 0, .str .empty, .int .i64 0, .str .empty]).row1 = some Fr.zero.c := rfl
  have rwf : (AV.agg f.c).row1 = some f.c := rfl
  by_cases he : e = 0
  rotate_left
  · rw [if_neg he]
    obtain ⟨h14, E14, L14, K14⟩ := fin h12 .zero KK nh12 g212
    simp [q2, q3, q4, q5, E6, E7, E8, E9, E10, E11, E12, he, afill, frc_len, rw0, E14, L14]
    exact K14
  rw [if_pos he]
  subst he
  obtain ⟨u13, h13, E13, f13, k13⟩ := rRight_ok (k + 3) h12 f zk zd
  subst f13
  have K13 := KK.trans (k13.weak KK.1 fun _ _ q => q)
  have nh13 : h.next < h13.next := Nat.lt_of_lt_of_le nh12 k13.1
  have g213 : h13.get h.next = some (.cells fzs false) := (k13.2 _ nh12 id).trans g212
  have L13 := (fr_ld ((k13.2 _ (by omega) id).trans G12)).2.2.2.2.2.2.2.2.2
  by_cases hR : f.R
  · rw [if_pos hR]
    rw [decide_eq_true hR] at E13
    obtain ⟨h14, E14, L14, K14⟩ := fin h13 f K13 nh13 g213
    simp [q2, q3, q4, q5, E6, E7, E8, E9, E10, E11, E12, L12, L13, E13, afill, frc_len, rwf, E14, L14]
    exact K14
  · rw [if_neg hR]
    rw [decide_eq_false hR] at E13
    obtain ⟨h14, E14, L14, K14⟩ := fin h13 .zero K13 nh13 g213
    simp [q2, q3, q4, q5, E6, E7, E8, E9, E10, E11, E12, L12, L13, E13, afill, frc_len, rw0, E14, L14]
    exact K14
end Go.Proofs.Ytnjpfjdnidekgaa
