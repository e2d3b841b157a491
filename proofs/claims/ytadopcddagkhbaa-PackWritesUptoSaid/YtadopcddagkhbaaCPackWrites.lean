/- The law PackWrites returns true for every input of bulk at most 1048576, and its input reads behind the call as it did; no conditions. The kit's model is followed by an abstract machine that is shown to tell what the model does; the contracts of the functions are proved over that machine. -/
import Derived.Test.YtadopcddagkhbaaRows
import Derived.Test.YtadopcddagkhbaaRuns
import Derived.Test.YtadopcddagkhbaaPack
import Derived.Test.YtadopcddagkhbaaAbsT
import Derived.WalkKit
import Derived.ProofKit
import Derived.OpenShut
import Derived.JoinedCond
namespace Go.Proofs.Ytadopcddagkhbaa.cPackWrites
open Go Go.ChangeShapes Go.WideShapes Go.ChangeAt Go.RowKit Go.YtadopcddagkhbaaAbs
set_option linter.unusedSimpArgs false
set_option linter.unusedVariables false

set_option maxRecDepth 4000
abbrev It := Int × (Int × (ByteArray × Unit))
abbrev kIt : Kind It := kPair (kInt .i64) (kPair (kInt .i64) (kPair kStr kNil))
theorem item_cells {h : Heap} {c : List AV} {xs : List It} (r : RdL kIt h c xs) {j : Nat} {x : It} (hx : xs[j]? = some x) :
    c[j * 3 + 0]? = some (.int .i64 x.1) ∧ c[j * 3 + 1]? = some (.int .i64 x.2.1) ∧ c[j * 3 + 2]? = some (.str x.2.2.1) ∧ (Lit.int .i64 x.1).wf = true ∧ (Lit.int .i64 x.2.1).wf = true := by
  obtain ⟨⟨a1, a2⟩, ⟨b1, b2⟩, ⟨c1, c2⟩, d⟩ := r.2 j x hx
  have g : ∀ o, o < 3 → c[j * 3 + o]? = ((c.drop (j * 3)).take 3)[o]? := fun o ho => by
    rw [List.getElem?_take, if_pos ho, List.getElem?_drop]
  have a1 : ((c.drop (j * 3)).take 3).take 1 = [.int .i64 x.1] := a1
  have b1 : (((c.drop (j * 3)).take 3).drop 1).take 1 = [.int .i64 x.2.1] := b1
  have c1 : ((((c.drop (j * 3)).take 3).drop 1).drop 1).take 1 = [.str x.2.2.1] := c1
  generalize (c.drop (j * 3)).take 3 = m at *
  refine ⟨?_, ?_, ?_, a2, b2⟩
  · rw [g 0 (by omega)]
    have := congrArg (·[0]?) a1
    simpa using this
  · rw [g 1 (by omega)]
    have := congrArg (·[0]?) b1
    simpa using this
  · rw [g 2 (by omega)]
    have := congrArg (·[0]?) c1
    simpa using this
/-- No more than 100 bytes. -/
def cut100 (s : ByteArray) : ByteArray := if s.size ≤ 100 then s else s.extract 0 100
theorem cut100_le (s : ByteArray) : (cut100 s).size ≤ 100 := by
  unfold cut100
  split
  · assumption
  · simp
    omega
/-- What a thing is written as. -/
def itB (x : It) : List UInt8 := if x.1 = 2 then packT (cut100 x.2.2.1) else packN x.2.1
theorem itB_le (x : It) : (itB x).length ≤ 200 := by
  unfold itB
  have h1 := vint_len 10 (zig ((cut100 x.2.2.1).size : Nat))
  have h2 := vint_len 10 (zig x.2.1)
  have h3 := cut100_le x.2.2.1
  split
  · unfold packT packN
    rw [List.length_append, sb_len]
    omega
  · unfold packN
    omega
def wr (l : List UInt8) (xs : List It) : List UInt8 := l ++ (xs.map itB).flatten

set_option maxHeartbeats 2000000 in
theorem law_run (k : Nat) (hk : 2000000 < k) (h : Heap) (v0 : AV) (a0 : (List UInt8)) (w0 : SlA kByte h v0 a0) (v1 : AV) (a1 : (List (Int × (Int × (ByteArray × Unit))))) (w1 : SlA (kPair (kInt .i64) (kPair (kInt .i64) (kPair kStr kNil))) h v1 a1) (hb : (kSlice kByte).bulk a0 + ((kSlice (kPair (kInt .i64) (kPair (kInt .i64) (kPair kStr kNil)))).bulk a1 + (0)) ≤ 1048576) :
    ∃ v h', afuncT Try.prog [11] (orRuns 3 (acall Try.prog (k + 10))) (k + 10) Try.f4 [v0, v1] h = some (v, h') ∧ v = .bool true := by
  have l0 : a0.length + 1 ≤ (kSlice kByte).bulk a0 := by
    have := len_sumL (f := kByte.bulk) (fun _ => Nat.le_refl 1) a0
    show a0.length + 1 ≤ sumL kByte.bulk a0 + 1
    omega
  have l1 : a1.length + 1 ≤ (kSlice kIt).bulk a1 := by
    have := len_sumL (f := kIt.bulk) (fun x => by show 1 ≤ 1 + _; omega) a1
    show a1.length + 1 ≤ sumL kIt.bulk a1 + 1
    omega
  have hb : (kSlice kByte).bulk a0 + ((kSlice kIt).bulk a1 + 0) ≤ 1048576 := hb
  obtain ⟨c1, s1, r1⟩ := SlA.sl (K := kIt) w1
  have s1 : Sl 3 a1.length h v1 c1 := s1
  refine afuncT_ex rfl (by simp [Try.f4]) ?_
  simp [Try.f4]
  refine use (roomy_ok (k + 9) a0 v0 11 h (sla_bytes w0) (by omega) (by omega)) ?_
  intro x h3 hh
  rw [hh.1]
  have gx := hh.2.1
  have nx := hh.2.2.1
  have k3 := hh.2.2.2
  clear hh
  have rl : ∀ (a : List UInt8) m, (roomy a m).length = a.length + 80 := fun a m => by unfold roomy; simp
  have X : Sl 1 (a0.length + 80) h3 (.sl h.next 0 (a0.length + 80) (a0.length + 80) 1 true) (roomy a0 11) := .inr (.inr ⟨h.next, 0, _, true, _, false, rfl, nx, gx, by rw [rl]; omega, by rw [rl]; omega, by rw [List.drop_zero, List.take_of_length_le (by rw [rl]; omega)], Nat.le_refl _⟩)
  generalize (AV.sl h.next 0 (a0.length + 80) (a0.length + 80) 1 true) = x at X
  have S0 := (sla_bytes w0).ext k3
  have S1 := s1.ext k3
  obtain ⟨x', g0, u0⟩ := X.to (P := Try.prog) (ty := 23) Try.underlying23 ts5 (k := .i64) (j := a0.length) (by omega)
  have ht : (roomy a0 11).take (a0.length * 1) = a0.map bb := by
    unfold roomy
    rw [Nat.mul_one, List.take_append_of_le_length (by simp), List.take_of_length_le (by simp)]
  rw [ht] at u0
  have V0 : Vec h3.next nob 1 0 (h3.new (.cells [] false)) (.sl h3.next 0 0 0 1 true) [] :=
    .inr ⟨h3.next, 0, 0, true, [], rfl, .inr (Nat.le_refl _), Nat.lt_succ_self _, get_new_self _ _, rfl, by simp, Nat.le_refl _, by simp, rfl⟩
  have S0' := S0.new (.cells [] false)
  simp [S0.len', g0, aalloc, afill]
  refine use (vec_append el23 (xt := 23) (by rw [Try.underlying23]; rfl) V0 S0'.alen S0'.acells (bb_one a0) (by simp) (by omega) (Nat.le_succ _)) ?_
  intro y h4 hh
  have Y := hh.1.sl
  have k4 := (Keep.new (Nat.le_refl h3.next) (.cells [] false)).trans hh.2
  clear hh
  simp at Y
  simp
  refine W_cutLoop 0 (fun st => st.t.get 0 = some v0 ∧ st.t.get 5 = some x ∧ Keep h3.next nob h3 st.h ∧ ∃ (y1 y2 : AV) (L : List UInt8), st.t.get 6 = some y1 ∧ st.t.get 7 = some y2 ∧ Sl 1 L.length st.h y1 (L.map bb) ∧ Sl 1 L.length st.h y2 (L.map bb) ∧ L.length ≤ a0.length + 6000) ?_ ?_
  · refine W_loop (fun m st => ∃ (i : Nat) (y1 y2 : AV) (L : List UInt8), m = min a1.length 30 - i ∧ i ≤ min a1.length 30 ∧ st.t.get 0 = some v0 ∧ st.t.get 1 = some v1 ∧ st.t.get 5 = some x ∧ st.t.get 8 = some (.int .i64 (i : Nat)) ∧ Keep h3.next nob h3 st.h ∧
      st.t.get 6 = some y1 ∧ st.t.get 7 = some y2 ∧ Sl 1 L.length st.h y1 (L.map bb) ∧ Sl 1 L.length st.h y2 (L.map bb) ∧ L.length ≤ a0.length + 200 * i) (min a1.length 30) (by omega)
      ⟨0, x', y, a0, by simp [k4, u0.ext k4, Y]⟩ ?_
    rintro m ⟨t, h5⟩ ⟨i, y1, y2, L, rfl, hi, q0, q1, q5, q8, hK, q6, q7, Y1, Y2, hL⟩
    simp only at q0 q1 q5 q8 hK q6 q7 Y1 Y2
    have S1' := S1.ext hK
    by_cases hlt : i < min a1.length 30
    · obtain ⟨it, hit⟩ := getb (l := a1) (j := i) (by omega)
      obtain ⟨e0, e1, e2, wf1, wf2⟩ := item_cells r1 hit
      obtain ⟨b, p, c, ro, p1, p2, p3, p4, p5, _⟩ := S1.at (P := Try.prog) (ty := 29) (e := 32) (k := .i64) Try.underlying29 ts32 (j := i) (by omega)
      have p3' : h5.get b = some (.cells c ro) := by rw [hK.2 b p2 id]; exact p3
      have f0 : c[p]? = some (.int .i64 it.1) := by have := p5 0 (by omega); rw [e0] at this; simpa using this
      have f1 : c[p + 1]? = some (.int .i64 it.2.1) := by have := p5 1 (by omega); rw [e1] at this; exact this
      have f2 : c[p + 2]? = some (.str it.2.2.1) := by have := p5 2 (by omega); rw [e2] at this; exact this
      have hn : -9223372036854775808 ≤ it.2.1 ∧ it.2.1 ≤ 9223372036854775807 := by
        simp [Lit.wf, IntKind.min, IntKind.max, IntKind.signed, IntKind.bits] at wf2
        exact wf2
      have hl1 := isLt (show (i : Int) < (a1.length : Int) by omega)
      have hl2 := isLt (show (i : Int) < 30 by omega)
      obtain ⟨s', hs'⟩ : ∃ s', s' = cut100 it.2.2.1 := ⟨_, rfl⟩
      have hs100 : s'.size ≤ 100 := by rw [hs']; exact cut100_le _
      have w8 := i64w ((i : Int) + 1) (by omega) (by omega)
      have hit2 := itB_le it
      generalize it.2.2.1 = s at *
      generalize it.2.1 = n at *
      generalize it.1 = kd at *
      have hT : (packT s').length ≤ 200 := by
        have h1 := vint_len 10 (zig (s'.size : Nat))
        unfold packT packN
        rw [List.length_append, sb_len]
        omega
      have hNn : (packN n).length ≤ 200 := by
        have h2 := vint_len 10 (zig n)
        unfold packN
        omega
      have hcase : (s.size ≤ 100 ∧ s = s') ∨ (¬ s.size ≤ 100 ∧ aslice Try.prog 9 (.str s) none (some (.int .i64 100)) none = some (.str s')) := by
        by_cases hs : s.size ≤ 100
        · exact .inl ⟨hs, by rw [hs', cut100, if_pos hs]⟩
        · refine .inr ⟨hs, ?_⟩
          rw [hs', cut100, if_neg hs]
          exact aslice_strTo Try.underlying9 (s := s) (k := .i64) (n := 100) (by omega) (by omega)
      have fin : ∀ (hx : Heap) (z1 z2 : AV) (B : List UInt8), B.length ≤ 200 → Keep h5.next nob h5 hx → Sl 1 (L ++ B).length hx z1 ((L ++ B).map bb) → Sl 1 (L ++ B).length hx z2 ((L ++ B).map bb) → Keep h3.next nob h3 hx ∧ (L ++ B).length ≤ a0.length + 200 * (i + 1) := fun hx z1 z2 B hB kx _ _ =>
        ⟨hK.trans (kx.weak hK.1 fun _ _ q => q), by rw [List.length_append]; omega⟩
      rcases hcase with ⟨hs, hss⟩ | ⟨hs, hss⟩
      · have hc1 := isLe (show (s.size : Int) ≤ 100 by omega)
        by_cases hk2 : kd = 2
        · simp [q0, q1, q5, q8, q6, q7, S1'.len', hl1, hl2, p1, aload, Heap.row, p3', f0, f1, f2, hc1, hk2]
          rw [hss]
          refine use (packText_ok (k + 8) (by omega) h5 y1 L s' Y1 (by omega) (by omega)) ?_
          intro z1 h6 hh
          have Z1 := hh.1.sl
          have k6 := hh.2
          clear hh
          simp [q7]
          refine use (refText_ok (k + 8) (by omega) h6 y2 L s' (Y2.ext k6) (by omega) (by omega)) ?_
          intro z2 h7 hh
          have Z2 := hh.1.sl
          have k7 := hh.2
          clear hh
          obtain ⟨g1, g2⟩ := fin h7 z1 z2 (packT s') hT (k6.trans (k7.weak k6.1 fun _ _ q => q)) (Z1.ext k7) Z2
          simp [q0, q1, q5, q8, w8]
          exact ⟨min a1.length 30 - (i + 1), by omega, i + 1, rfl, by omega, rfl, g1, L ++ packT s', Z1.ext k7, Z2, g2⟩
        · simp [q0, q1, q5, q8, q6, q7, S1'.len', hl1, hl2, p1, aload, Heap.row, p3', f0, f1, f2, hc1, hk2]
          refine W_drawn h5.next (by rfl) (by kernel_rfl) ?_
          have hbn : b < h5.next := Nat.lt_of_lt_of_le p2 hK.1
          simp [q0, q1, q5, q8, q6, q7, S1'.len', p1, aload, Heap.row, p3', f0, f1, f2, obl, mayEff, mayRead, hbn, sameAV]
          refine use (packNum_ok (k + 8) (by omega) h5 y1 L n Y1 (by omega) hn.1 hn.2) ?_
          intro z1 h6 hh
          have Z1 := hh.1.sl
          have k6 := hh.2
          clear hh
          have p3'' : h6.get b = some (.cells c ro) := by rw [k6.2 b hbn id]; exact p3'
          simp [q0, q1, q5, q8, q6, q7, p1, aload, Heap.row, p3'', f0, f1, f2, obl, mayEff, mayRead, hbn, sameAV]
          refine ⟨fun c hc => k6.2 c hc id, ?_⟩
          refine use (refNum_ok (k + 9) (by omega) h6 y2 L n (Y2.ext k6) (by omega) hn.1 hn.2) ?_
          intro z2 h7 hh
          have Z2 := hh.1.sl
          have k7 := hh.2
          clear hh
          obtain ⟨g1, g2⟩ := fin h7 z1 z2 (packN n) hNn (k6.trans (k7.weak k6.1 fun _ _ q => q)) (Z1.ext k7) Z2
          simp [q0, q1, q5, q8, w8, obl, mayEff, mayRead]
          refine ⟨fun c hc => k7.2 c (Nat.lt_of_lt_of_le hc k6.1) id, ?_⟩
          exact ⟨min a1.length 30 - (i + 1), by omega, i + 1, rfl, by omega, rfl, g1, L ++ packN n, Z1.ext k7, Z2, g2⟩
      · have hc1 := isLt (show (100 : Int) < (s.size : Int) by omega)
        by_cases hk2 : kd = 2
        · simp [q0, q1, q5, q8, q6, q7, S1'.len', hl1, hl2, p1, aload, Heap.row, p3', f0, f1, f2, hc1, hk2, hss]
          refine use (packText_ok (k + 8) (by omega) h5 y1 L s' Y1 (by omega) (by omega)) ?_
          intro z1 h6 hh
          have Z1 := hh.1.sl
          have k6 := hh.2
          clear hh
          simp [q7]
          refine use (refText_ok (k + 8) (by omega) h6 y2 L s' (Y2.ext k6) (by omega) (by omega)) ?_
          intro z2 h7 hh
          have Z2 := hh.1.sl
          have k7 := hh.2
          clear hh
          obtain ⟨g1, g2⟩ := fin h7 z1 z2 (packT s') hT (k6.trans (k7.weak k6.1 fun _ _ q => q)) (Z1.ext k7) Z2
          simp [q0, q1, q5, q8, w8]
          exact ⟨min a1.length 30 - (i + 1), by omega, i + 1, rfl, by omega, rfl, g1, L ++ packT s', Z1.ext k7, Z2, g2⟩
        · simp [q0, q1, q5, q8, q6, q7, S1'.len', hl1, hl2, p1, aload, Heap.row, p3', f0, f1, f2, hc1, hk2, hss]
          refine W_drawn h5.next (by rfl) (by kernel_rfl) ?_
          have hbn : b < h5.next := Nat.lt_of_lt_of_le p2 hK.1
          simp [q0, q1, q5, q8, q6, q7, S1'.len', p1, aload, Heap.row, p3', f0, f1, f2, obl, mayEff, mayRead, hbn, sameAV]
          refine use (packNum_ok (k + 8) (by omega) h5 y1 L n Y1 (by omega) hn.1 hn.2) ?_
          intro z1 h6 hh
          have Z1 := hh.1.sl
          have k6 := hh.2
          clear hh
          have p3'' : h6.get b = some (.cells c ro) := by rw [k6.2 b hbn id]; exact p3'
          simp [q0, q1, q5, q8, q6, q7, p1, aload, Heap.row, p3'', f0, f1, f2, obl, mayEff, mayRead, hbn, sameAV]
          refine ⟨fun c hc => k6.2 c hc id, ?_⟩
          refine use (refNum_ok (k + 9) (by omega) h6 y2 L n (Y2.ext k6) (by omega) hn.1 hn.2) ?_
          intro z2 h7 hh
          have Z2 := hh.1.sl
          have k7 := hh.2
          clear hh
          obtain ⟨g1, g2⟩ := fin h7 z1 z2 (packN n) hNn (k6.trans (k7.weak k6.1 fun _ _ q => q)) (Z1.ext k7) Z2
          simp [q0, q1, q5, q8, w8, obl, mayEff, mayRead]
          refine ⟨fun c hc => k7.2 c (Nat.lt_of_lt_of_le hc k6.1) id, ?_⟩
          exact ⟨min a1.length 30 - (i + 1), by omega, i + 1, rfl, by omega, rfl, g1, L ++ packN n, Z1.ext k7, Z2, g2⟩
    · have hge : i = min a1.length 30 := by omega
      by_cases hl3 : i < a1.length
      · have h30 : i = 30 := by omega
        have hl1 := isLt (show (i : Int) < (a1.length : Int) by omega)
        have hl2 := isLe (show (30 : Int) ≤ (i : Int) by omega)
        simp [q0, q1, q5, q8, q6, q7, S1'.len', hl1, hl2]
        exact ⟨hK, L, Y1, Y2, by omega⟩
      · have hl1 := isLe (show (a1.length : Int) ≤ (i : Int) by omega)
        simp [q0, q1, q5, q8, q6, q7, S1'.len', hl1]
        exact ⟨hK, L, Y1, Y2, by omega⟩
  · rintro ⟨t, h5⟩ ⟨q0, q5, hK, y1, y2, L, q6, q7, Y1, Y2, hL⟩
    simp only at q0 q5 hK q6 q7 Y1 Y2
    have E1 : acall Try.prog (k + 10) 8 [y1, y2] h5 = _ := sameB_ok (k + 9) L L y1 y2 h5 Y1 Y2 (by omega) (by omega)
    have E2 : acall Try.prog (k + 10) 15 [x, v0, .int .u8 11] h5 = _ := intact_ok (k + 8) a0 x v0 11 h5 (X.ext hK) (S0.ext hK) (by omega) (by omega)
    simp [q0, q5, q6, q7, E1, E2]


mutual
theorem up1 {H : Type} : ∀ d : DataW H, Rows.uptoBulk d = bulkD d
  | .lit (.string b) => rfl
  | .lit .nil => rfl
  | .lit (.bool _) => rfl
  | .lit (.int ..) => rfl
  | .lit (.float ..) => rfl
  | .nil => rfl
  | .ptr d => by simp only [Rows.uptoBulk, bulkD, up1 d]
  | .slice e r => by simp only [Rows.uptoBulk, bulkD, up2 e, up2 r]
  | .agg p => by simp only [Rows.uptoBulk, bulkD, up2 p]
  | .iface _ d => by simp only [Rows.uptoBulk, bulkD, up1 d]
  | .map e => by simp only [Rows.uptoBulk, bulkD, up3 e]
  | .held _ => rfl
theorem up2 {H : Type} : ∀ l : List (DataW H), Rows.uptoBulkAll l = bulkDs l
  | [] => rfl
  | d :: r => by simp only [Rows.uptoBulkAll, bulkDs, up1 d, up2 r]
theorem up3 {H : Type} : ∀ l : List (Lit × DataW H), Rows.uptoBulkEntries l = bulkDe l
  | [] => rfl
  | x :: r => by simp only [Rows.uptoBulkEntries, bulkDe, up4 x, up3 r]
theorem up4 {H : Type} : ∀ x : Lit × DataW H, Rows.uptoBulkEntry x = bulkDx x
  | (.string b, d) => by simp only [Rows.uptoBulkEntry, bulkDx, up1 d]
  | (.nil, d) => by simp only [Rows.uptoBulkEntry, bulkDx, up1 d]
  | (.bool _, d) => by simp only [Rows.uptoBulkEntry, bulkDx, up1 d]
  | (.int .., d) => by simp only [Rows.uptoBulkEntry, bulkDx, up1 d]
  | (.float .., d) => by simp only [Rows.uptoBulkEntry, bulkDx, up1 d]
end
theorem own : ownKnob Try.prog.godebug = none := by kernel_rfl
theorem laid : laidOutB Try.prog = true := by kernel_rfl

set_option maxRecDepth 100000 in
theorem lifted (os : Os) (started : os.Started) (H : Type) (enc : TypeId × Value → H) (F0 : Stop.Interp) :
    ReturnsInHanded {} Try.checked os 4 .any ((Rows.OpenSpec.upto Rows.packWritesSpec).pre6 enc Try.prog Try.f4 Rows.packWritesUptoRow.domain false) (((Rows.OpenSpec.upto Rows.packWritesSpec).at F0).post enc Try.prog Try.f4 false true false false) := by
  refine returnsInHanded_of_cond (C := Try.checked) (s := Rows.OpenSpec.upto Rows.packWritesSpec) (k := Rows.uptoSmall) rfl own started (by kernel_rfl) Try.func4
    (OpenSpec.witness (enc := enc) (C := Try.checked) (s := Rows.OpenSpec.upto Rows.packWritesSpec) (k := Rows.uptoSmall) rfl false ⟨#[], #[.slice none 0 0, .slice none 0 0], []⟩ 8 (by kernel_rfl) (by kernel_rfl) (by kernel_rfl)
      (x := ([.nil, .nil], [], [])) (by kernel_rfl) (by kernel_rfl) (by kernel_rfl)) ?_
  intro W base args ds gs before hval0 hW _ hk _
  have hval : ∀ (j : Nat) t v, Try.f4.params.toList[j]? = some t → args.toList[j]? = some v → Value.okWide Try.prog W .any base t v := fun j t v h1 h2 => hval0 j t v (by simpa using h1) (by simpa using h2)
  have hW' := hW
  obtain ⟨p, q, hA0, hV, rfl, hfz, hnd⟩ := hW
  have hA : DataW.TrodAll enc Try.prog W 0 (fun _ => true) true Try.f4.params.toList args.toList ds p := hA0
  obtain ⟨rfl, rfl⟩ := trodVars_none hV
  have hlt : ∀ x ∈ p, x.block < W.heap.size := fun x hx => hW'.lt x (by simp [hx])
  have hps : Try.f4.params.toList = [23, 29] := by rw [Try.params4]
  rw [hps] at hA hval
  obtain ⟨m, h, avs, x, g1, _, _, g2, g3, g4⟩ := (good_as1 (good_slice Try.underlying23 (by kernel_rfl) (by decide) (good_byte Try.underlying5 (by kernel_rfl))) rfl (by kernel_rfl) (good_as1 (good_slice Try.underlying29 (by kernel_rfl) (by decide) (good_struct Try.underlying32 (by kernel_rfl) (good_fs rfl (good_int Try.underlying3 (by kernel_rfl)) (good_fs rfl (good_int Try.underlying3 (by kernel_rfl)) (good_fs rfl (good_str Try.underlying9 (by kernel_rfl)) (good_fs0 _)))))) rfl (by kernel_rfl) good_as0)) H enc W base args.toList ds p hval hA _ _ (HRo.start W)
  obtain ⟨a0, a1, _⟩ := x
  obtain ⟨v0, _, rfl, ⟨u0, e0, w0⟩, ⟨v1, _, rfl, ⟨u1, e1, w1⟩, rfl⟩⟩ := g3
  obtain rfl := (List.cons.inj e0).1
  obtain rfl := (List.cons.inj e1).1
  have hb0 := Nat.le_trans g4 (show bulkDs ds ≤ 1048576 by
    have h1 : decide (Rows.uptoBulkAll (ds ++ []) ≤ 1048576) = true := hk
    rw [List.append_nil] at h1
    rw [← up2]
    exact of_decide_eq_true h1)
  have hcall := law_any mixed (k := 3000000 + 10) Try.func4 (by kernel_rfl) runs_ok g1 g2 (law_run 3000000 (by decide) h v0 a0 w0 v1 a1 w1 hb0)
  refine hcall.mono fun e W' ⟨he, hg⟩ => ?_
  subst he
  simp only [List.append_nil] at hW' hA0 ⊢
  have hlen : ds.length = 2 := trodAll_len hA
  have hvars : (((Rows.OpenSpec.upto Rows.packWritesSpec).at F0).fn H (ds ++ [])).vars = [] ∧ (((Rows.OpenSpec.upto Rows.packWritesSpec).at F0).fn H (ds ++ [])).args = ds ∧ (((Rows.OpenSpec.upto Rows.packWritesSpec).at F0).fn H (ds ++ [])).results = [.lit (.bool true)] := by
    rw [List.append_nil]
    match ds, hlen with
    | [d0, d1], _ => exact ⟨rfl, rfl, rfl⟩
  obtain ⟨hv1, hv2, hv3⟩ := hvars
  refine ⟨_, rfl, law_post hW' rfl hg (fun _ _ _ => ?_) (fun sp hsp => ?_) hv1
    (ok_one (by kernel_rfl) rfl (okWide_bool_mk Try.underlying4 _))⟩
  · rw [hv3]
    exact (trodAll_cons_mk (shut_bool Try.underlying4 _) trodAll_mk0)
  · have hA1 := trodAll_below laid hg sp (ts := [23, 29]) (by decide +kernel) hlt hsp hA
    rw [hv2, hps]
    exact hA1

theorem over : Rows.packWritesUptoRow.holds Try.pinned (Rows.OpenSpec.upto Rows.packWritesSpec) :=
  OpenClaim.holds_of_cond 4 Try.f4 rfl rfl rfl rfl rfl rfl rfl ⟨rfl, rfl, rfl, rfl, rfl⟩ rfl rfl rfl rfl rfl (by kernel_rfl) Try.func4 (by kernel_rfl)
    (of_decide_eq_true (by kernel_rfl)) (by unfold Func.isWrapper; first | (rw [if_pos (by decide +kernel)]; kernel_rfl) | (rw [if_neg (by decide +kernel)]; exact ⟨rfl, rfl⟩))
    (fun os started H enc _ F0 => lifted os started H enc F0)

/-- The statement. -/
theorem proved : Rows.PackWritesUptoSaid :=
  over
#print axioms proved
end Go.Proofs.Ytadopcddagkhbaa.cPackWrites
