/- The law PackReads returns true for every input of bulk at most 1048576, and its input reads behind the call as it did; no conditions. The kit's model is followed by an abstract machine that is shown to tell what the model does; the contracts of the functions are proved over that machine. -/
import Derived.Test.YtadopcddagkhbaaRows
import Derived.Test.YtadopcddagkhbaaRuns
import Derived.Test.YtadopcddagkhbaaReads
import Derived.WalkKit
import Derived.ProofKit
import Derived.OpenShut
import Derived.JoinedCond
namespace Go.Proofs.Ytadopcddagkhbaa.cPackReads
open Go Go.ChangeShapes Go.WideShapes Go.ChangeAt Go.RowKit Go.YtadopcddagkhbaaAbs
set_option linter.unusedSimpArgs false
set_option linter.unusedVariables false

set_option maxRecDepth 4000
abbrev It := Int × (Int × (ByteArray × Unit))
abbrev kIt : Kind It := kPair (kInt .i64) (kPair (kInt .i64) (kPair kStr kNil))
theorem item_cells {h : Heap} {c : List AV} {xs : List It} (r : RdL kIt h c xs) {j : Nat} {x : It} (hx : xs[j]? = some x) :
    c[j * 3 + 0]? = some (.int .i64 x.1) ∧ c[j * 3 + 1]? = some (.int .i64 x.2.1) ∧ (Lit.int .i64 x.1).wf = true ∧ (Lit.int .i64 x.2.1).wf = true := by
  obtain ⟨⟨a1, a2⟩, ⟨b1, b2⟩, ⟨c1, c2⟩, d⟩ := r.2 j x hx
  have g : ∀ o, o < 3 → c[j * 3 + o]? = ((c.drop (j * 3)).take 3)[o]? := fun o ho => by
    rw [List.getElem?_take, if_pos ho, List.getElem?_drop]
  have a1 : ((c.drop (j * 3)).take 3).take 1 = [.int .i64 x.1] := a1
  have b1 : (((c.drop (j * 3)).take 3).drop 1).take 1 = [.int .i64 x.2.1] := b1
  generalize (c.drop (j * 3)).take 3 = m at *
  refine ⟨?_, ?_, a2, b2⟩
  · rw [g 0 (by omega)]
    have := congrArg (·[0]?) a1
    simpa using this
  · rw [g 1 (by omega)]
    have := congrArg (·[0]?) b1
    simpa using this
set_option maxHeartbeats 2000000 in
theorem law_run (k : Nat) (hk : 2000000 < k) (h : Heap) (v0 : AV) (a0 : (List UInt8)) (w0 : SlA kByte h v0 a0) (v1 : AV) (a1 : (List (Int × (Int × (ByteArray × Unit))))) (w1 : SlA (kPair (kInt .i64) (kPair (kInt .i64) (kPair kStr kNil))) h v1 a1) (hb : (kSlice kByte).bulk a0 + ((kSlice (kPair (kInt .i64) (kPair (kInt .i64) (kPair kStr kNil)))).bulk a1 + (0)) ≤ 1048576) :
    ∃ v h', afuncT Try.prog [13,16] (orRuns 3 (acall Try.prog (k + 10))) (k + 10) Try.f7 [v0, v1] h = some (v, h') ∧ v = .bool true := by
  have l0 := bulk_len (K := kByte) (fun _ => Nat.le_refl 1) a0
  have l1 := bulk_len (K := kIt) (fun x => by show 1 ≤ 1 + _; omega) a1
  have hb : (kSlice kByte).bulk a0 + ((kSlice kIt).bulk a1 + 0) ≤ 1048576 := hb
  obtain ⟨c1, s1, r1⟩ := SlA.sl (K := kIt) w1
  have s1 : Sl 3 a1.length h v1 c1 := s1
  have s0 := sla_bytes w0
  refine afuncT_ex rfl (by simp [Try.f7]) ?_
  simp [Try.f7]
  refine use (roomy_ok (k + 9) a0 v0 12 h s0 (by omega) (by omega)) ?_
  intro x h3 hq
  have ex := hq.1
  have gx := hq.2.1
  have nx := hq.2.2.1
  have k3 := hq.2.2.2
  clear hq
  subst ex
  have rl : ∀ (a : List UInt8) m, (roomy a m).length = a.length + 80 := fun a m => by unfold roomy; simp
  have X : Sl 1 (a0.length + 80) h3 (.sl h.next 0 (a0.length + 80) (a0.length + 80) 1 true) (roomy a0 12) := .inr (.inr ⟨h.next, 0, _, true, _, false, rfl, nx, gx, by rw [rl]; omega, by rw [rl]; omega, by rw [List.drop_zero, List.take_of_length_le (by rw [rl]; omega)], Nat.le_refl _⟩)
  generalize (AV.sl h.next 0 (a0.length + 80) (a0.length + 80) 1 true) = x at X
  have S0 := s0.ext k3
  have S1 := s1.ext k3
  have v0lt := sl_lt S0
  obtain ⟨x', g0, u0⟩ := X.to (P := Try.prog) (ty := 23) Try.underlying23 ts5 (k := .i64) (j := a0.length) (by omega)
  have ht : (roomy a0 12).take (a0.length * 1) = a0.map bb := by
    unfold roomy
    rw [Nat.mul_one, List.take_append_of_le_length (by simp), List.take_of_length_le (by simp)]
  rw [ht] at u0
  simp [S0.len', g0]
  refine use (read_ok (k + 8) h3 x' a0 u0 (by omega)) ?_
  intro y h4 hq
  obtain ⟨b, w, rfl, hb1, hb2, R, k4⟩ := hq
  have wlt := sl_lt R.2.2.1
  have row0 := row1_one S0.oneV
  simp [afill, row0, S0.oneV, row1_agg, aeql]
  have k5 : Keep h3.next nob h3 (h4.new (.cells [v0, .int .i64 0, .int .i64 0] false)) := k4.trans (Keep.new k4.1 _)
  have R2 : Rdr (h4.new (.cells [v0, .int .i64 0, .int .i64 0] false)) h4.next v0 a0 0 0 := ⟨get_new_self _ _, Nat.lt_succ_self _, S0.ext k5, fun c i n k s x q => by have := v0lt c i n k s x q; have := k4.1; omega⟩
  have R1 : Rdr (h4.new (.cells [v0, .int .i64 0, .int .i64 0] false)) b w a0 0 0 := R.keep (F := nob) (Keep.new (Nat.le_refl _) _) id fun _ _ _ _ _ _ _ => id
  generalize h4.new (.cells [v0, .int .i64 0, .int .i64 0] false) = h5 at k5 R1 R2
  obtain ⟨b2, hb2e⟩ : ∃ b2, b2 = h4.next := ⟨_, rfl⟩
  rw [← hb2e] at R2 ⊢
  have n12 : b ≠ b2 := by omega
  have nw : ∀ c i n k s x, w = .sl c i n k s x → c ≠ b2 := fun c i n k s x q => by have := wlt c i n k s x q; omega
  have nv : ∀ c i n k s x, v0 = .sl c i n k s x → c ≠ b := fun c i n k s x q => by have := v0lt c i n k s x q; omega
  have b2n : h3.next ≤ b2 := by have := k4.1; omega
  refine W_cutLoop 0 (fun st => st.t.get 0 = some v0 ∧ st.t.get 5 = some x ∧ Keep h3.next nob h3 st.h) ?_ ?_
  · refine W_loop (fun m st => ∃ (i p : Nat) (e : Int), m = min a1.length 60 - i ∧ i ≤ min a1.length 60 ∧ p ≤ a0.length ∧ st.t.get 0 = some v0 ∧ st.t.get 1 = some v1 ∧ st.t.get 5 = some x ∧ st.t.get 6 = some (.ptr b 0) ∧ st.t.get 7 = some (.ptr b2 0) ∧ st.t.get 8 = some (.int .i64 (i : Nat)) ∧ Keep h3.next nob h3 st.h ∧
      Rdr st.h b w a0 p e ∧ Rdr st.h b2 v0 a0 p e) (min a1.length 60) (by omega)
      ⟨0, 0, 0, by simp [k5, R1, R2]⟩ ?_
    rintro m ⟨t, h6⟩ ⟨i, p, e, rfl, hi, hp, q0, q1, q5, q6, q7, q8, hK, A1, A2⟩
    simp only at q0 q1 q5 q6 q7 q8 hK A1 A2
    have S1' := S1.ext hK
    by_cases hlt : i < min a1.length 60
    · obtain ⟨it, hit⟩ := getb (l := a1) (j := i) (by omega)
      obtain ⟨e0, e1, wf1, wf2⟩ := item_cells r1 hit
      have ix := S1'.idx (P := Try.prog) Try.underlying29 ts32 (j := i) (by omega) .i64
      have f0 := S1'.ld (P := Try.prog) ta3 e0
      have f1 := S1'.ld (P := Try.prog) ta3 e1
      have hn := wf64 wf2
      rw [← Nat.add_assoc] at f0 f1
      have hl1 := isLt (show (i : Int) < (a1.length : Int) by omega)
      have hl2 := isLt (show (i : Int) < 60 by omega)
      have w8 := i64w ((i : Int) + 1) (by omega) (by omega)
      simp only [Nat.add_zero] at f0
      simp [q0, q1, q5, q6, q7, q8, S1'.len', hl1, hl2, ix, f0, -W_block, W_blockNot 2]
      have bn : b < h6.next := A1.2.1
      have bn2 : b2 < h6.next := A2.2.1
      have vbn : v1.blk < h3.next := S1.blk_lt (by omega)
      refine W_cutN (fun s => ∃ (p : Nat) (e : Int), p ≤ a0.length ∧ s.t.get 0 = some v0 ∧ s.t.get 1 = some v1 ∧ s.t.get 5 = some x ∧ s.t.get 6 = some (.ptr b 0) ∧ s.t.get 7 = some (.ptr b2 0) ∧ s.t.get 8 = some (.int .i64 (i : Nat)) ∧ s.t.get 9 = some (.bool true) ∧ Keep h3.next nob h3 s.h ∧
        Rdr s.h b w a0 p e ∧ Rdr s.h b2 v0 a0 p e) ?_ ?_
      · have both : ∀ (h7 h8 : Heap) (p' : Nat) (e' : Int), Rdr h7 b w a0 p' e' → Keep h6.next (fun c => c = b) h6 h7 → Rdr h8 b2 v0 a0 p' e' → Keep h7.next (fun c => c = b2) h7 h8 → Keep h3.next nob h3 h8 ∧ Rdr h8 b w a0 p' e' ∧ Rdr h8 b2 v0 a0 p' e' := fun h7 h8 p' e' B1 m1 B2 m2 => by
          refine ⟨⟨Nat.le_trans hK.1 (Nat.le_trans m1.1 m2.1), fun c hc _ => ?_⟩, B1.keep m2 n12 nw, B2⟩
          rw [m2.2 c (by have := m1.1; have := hK.1; omega) (by simp only; omega), m1.2 c (by have := hK.1; omega) (by simp only; omega), hK.2 c hc id]
        have oth : ∀ (h7 : Heap), Keep h6.next (fun c => c = b) h6 h7 → Rdr h7 b2 v0 a0 p e := fun h7 m1 => A2.keep m1 (fun q => n12 q.symm) nv
        by_cases k1 : it.1 = 1
        · simp [k1, q0, q1, q5, q6, q7, q8]
          refine use (num_all (k + 8) h6 b p w a0 e (by omega) A1 hp (by omega)) ?_
          intro y h7 hq
          have ey := hq.1
          have B1 := hq.2.1
          have m1 := hq.2.2
          clear hq
          subst ey
          simp [q7]
          refine use (rnum_all (k + 8) h7 b2 p v0 a0 e (by omega) (oth h7 m1) hp (by omega)) ?_
          intro y h8 hq
          have ey := hq.1
          have B2 := hq.2.1
          have m2 := hq.2.2
          clear hq
          subst ey
          simp [q0, q1, q5, q6, q7, q8]
          obtain ⟨g1, g2, g3⟩ := both h7 h8 _ _ B1 m1 B2 m2
          exact ⟨_, rdNum_le e hp, g1, _, g2, g3⟩
        · by_cases k2 : it.1 = 2
          · simp [k2, q0, q1, q5, q6, q7, q8]
            refine W_drawn h3.next (by rfl) (by kernel_rfl) ?_
            simp [q0, q1, q5, q6, q7, q8, ix, f1, obl, mayEff, mayRead, sameAV, vbn]
            refine use (text_ok (k + 6) h6 b p w a0 e (by omega) it.2.1 A1 hp (by omega)) ?_
            intro y h7 hq
            have ey := hq.1
            have B1 := hq.2.1
            have m1 := hq.2.2
            clear hq
            subst ey
            have S7 : Sl 3 a1.length h7 v1 c1 := S1'.keep' m1 fun _ => ⟨by have := hK.1; omega, fun (q : v1.blk = b) => by omega⟩
            have f7 := S7.ld (P := Try.prog) ta3 e1
            rw [← Nat.add_assoc] at f7
            have ix7 := S7.idx (P := Try.prog) Try.underlying29 ts32 (j := i) (by omega) .i64
            have ag1 : Agree h3.next h6 h7 := fun c hc => m1.2 c (by have := hK.1; omega) (by simp only; omega)
            simp [q0, q1, q5, q6, q7, q8, ix7, f7, obl, mayEff, mayRead, sameAV, vbn, ag1]
            refine use (rtext_ok (k + 6) h7 b2 p v0 a0 e (by omega) it.2.1 (oth h7 m1) hp (by omega)) ?_
            intro y h8 hq
            have ey := hq.1
            have B2 := hq.2.1
            have m2 := hq.2.2
            clear hq
            subst ey
            have ag2 : Agree h3.next h7 h8 := fun c hc => m2.2 c (by have := hK.1; have := m1.1; omega) (by simp only; omega)
            simp [q0, q1, q5, q6, q7, q8, obl, mayEff, mayRead, sameAV, ag2]
            obtain ⟨g1, g2, g3⟩ := both h7 h8 _ _ B1 m1 B2 m2
            exact ⟨_, rdText_le _ e hp, g1, _, g2, g3⟩
          · by_cases k3 : it.1 = 3
            · simp [k3, q0, q1, q5, q6, q7, q8]
              refine use (end_ok (k + 9) h6 b p w a0 e A1 hp (by omega)) ?_
              intro y h7 hq
              have ey := hq.1
              have B1 := hq.2.1
              have m1 := hq.2.2
              clear hq
              subst ey
              simp [q7]
              refine use (rend_ok (k + 8) h7 b2 p v0 a0 e (oth h7 m1) hp (by omega)) ?_
              intro y h8 hq
              have ey := hq.1
              have B2 := hq.2.1
              have m2 := hq.2.2
              clear hq
              subst ey
              simp [q0, q1, q5, q6, q7, q8]
              obtain ⟨g1, g2, g3⟩ := both h7 h8 _ _ B1 m1 B2 m2
              exact ⟨_, hp, g1, _, g2, g3⟩
            · simp [k1, k2, k3, q0, q1, q5, q6, q7, q8]
              exact ⟨p, hp, hK, e, A1, A2⟩
      · rintro ⟨t2, h7⟩ ⟨p', e', hp', q0, q1, q5, q6, q7, q8, q9, hK7, B1, B2⟩
        simp only at q0 q1 q5 q6 q7 q8 q9 hK7 B1 B2
        have bn : b < h7.next := B1.2.1
        have bn2 : b2 < h7.next := B2.2.1
        have E1 : acall Try.prog (k + 10) 18 [.ptr b 0] h7 = _ := wrong_ok (k + 9) h7 b p' w a0 e' B1
        have E2 : acall Try.prog (k + 10) 19 [.ptr b 0] h7 = _ := at_ok (k + 9) h7 b p' w a0 e' B1
        have ag : Agree h7.next h7 h7 := fun _ _ => rfl
        simp
        refine W_drawn h7.next (by rfl) (by kernel_rfl) ?_
        simp [q0, q1, q5, q6, q7, q8, q9, E1, E2, B2.ld1, B2.ld2, obl, mayEff, mayRead, sameAV, bn2, ag, w8]
        exact ⟨min a1.length 60 - (i + 1), by omega, i + 1, rfl, by omega, p', hp', by omega, hK7, e', B1, B2⟩
    · by_cases hl3 : i < a1.length
      · simp [q0, q1, q5, q6, q7, q8, S1'.len', isLt (show (i : Int) < (a1.length : Int) by omega), isLe (show (60 : Int) ≤ (i : Int) by omega)]
        exact hK
      · simp [q0, q1, q5, q6, q7, q8, S1'.len', isLe (show (a1.length : Int) ≤ (i : Int) by omega)]
        exact hK
  · rintro ⟨t, h5⟩ ⟨q0, q5, hK⟩
    simp only at q0 q5 hK
    have E2 : acall Try.prog (k + 10) 15 [x, v0, .int .u8 12] h5 = _ := intact_ok (k + 8) a0 x v0 12 h5 (X.ext hK) (S0.ext hK) (by omega) (by omega)
    simp [q0, q5, E2]


mutual
theorem up1 {H : Type} : ∀ d : DataW H, Rows.uptoBulk d = bulkD d
  | .lit (.string b) => rfl
  | .lit .nil => rfl
  | .lit (.bool _) => rfl
  | .lit (.int ..) => rfl
  | .lit (.float ..) => rfl
  | .nil => rfl
  | .ptr d => by simp only [Rows.uptoBulk, bulkD, up1 d]
  | .slice e r => by simp only [Rows.uptoBulk, bulkD, up2 e, up2 r]
  | .agg p => by simp only [Rows.uptoBulk, bulkD, up2 p]
  | .iface _ d => by simp only [Rows.uptoBulk, bulkD, up1 d]
  | .map e => by simp only [Rows.uptoBulk, bulkD, up3 e]
  | .held _ => rfl
theorem up2 {H : Type} : ∀ l : List (DataW H), Rows.uptoBulkAll l = bulkDs l
  | [] => rfl
  | d :: r => by simp only [Rows.uptoBulkAll, bulkDs, up1 d, up2 r]
theorem up3 {H : Type} : ∀ l : List (Lit × DataW H), Rows.uptoBulkEntries l = bulkDe l
  | [] => rfl
  | x :: r => by simp only [Rows.uptoBulkEntries, bulkDe, up4 x, up3 r]
theorem up4 {H : Type} : ∀ x : Lit × DataW H, Rows.uptoBulkEntry x = bulkDx x
  | (.string b, d) => by simp only [Rows.uptoBulkEntry, bulkDx, up1 d]
  | (.nil, d) => by simp only [Rows.uptoBulkEntry, bulkDx, up1 d]
  | (.bool _, d) => by simp only [Rows.uptoBulkEntry, bulkDx, up1 d]
  | (.int .., d) => by simp only [Rows.uptoBulkEntry, bulkDx, up1 d]
  | (.float .., d) => by simp only [Rows.uptoBulkEntry, bulkDx, up1 d]
end
theorem own : ownKnob Try.prog.godebug = none := by kernel_rfl
theorem laid : laidOutB Try.prog = true := by kernel_rfl

set_option maxRecDepth 100000 in
theorem lifted (os : Os) (started : os.Started) (H : Type) (enc : TypeId × Value → H) (F0 : Stop.Interp) :
    ReturnsInHanded {} Try.checked os 7 .any ((Rows.OpenSpec.upto Rows.packReadsSpec).pre6 enc Try.prog Try.f7 Rows.packReadsUptoRow.domain false) (((Rows.OpenSpec.upto Rows.packReadsSpec).at F0).post enc Try.prog Try.f7 false true false false) := by
  refine returnsInHanded_of_cond (C := Try.checked) (s := Rows.OpenSpec.upto Rows.packReadsSpec) (k := Rows.uptoSmall) rfl own started (by kernel_rfl) Try.func7
    (OpenSpec.witness (enc := enc) (C := Try.checked) (s := Rows.OpenSpec.upto Rows.packReadsSpec) (k := Rows.uptoSmall) rfl false ⟨#[], #[.slice none 0 0, .slice none 0 0], []⟩ 8 (by kernel_rfl) (by kernel_rfl) (by kernel_rfl)
      (x := ([.nil, .nil], [], [])) (by kernel_rfl) (by kernel_rfl) (by kernel_rfl)) ?_
  intro W base args ds gs before hval0 hW _ hk _
  have hval : ∀ (j : Nat) t v, Try.f7.params.toList[j]? = some t → args.toList[j]? = some v → Value.okWide Try.prog W .any base t v := fun j t v h1 h2 => hval0 j t v (by simpa using h1) (by simpa using h2)
  have hW' := hW
  obtain ⟨p, q, hA0, hV, rfl, hfz, hnd⟩ := hW
  have hA : DataW.TrodAll enc Try.prog W 0 (fun _ => true) true Try.f7.params.toList args.toList ds p := hA0
  obtain ⟨rfl, rfl⟩ := trodVars_none hV
  have hlt : ∀ x ∈ p, x.block < W.heap.size := fun x hx => hW'.lt x (by simp [hx])
  have hps : Try.f7.params.toList = [23, 29] := by rw [Try.params7]
  rw [hps] at hA hval
  obtain ⟨m, h, avs, x, g1, _, _, g2, g3, g4⟩ := (good_as1 (good_slice Try.underlying23 (by kernel_rfl) (by decide) (good_byte Try.underlying5 (by kernel_rfl))) rfl (by kernel_rfl) (good_as1 (good_slice Try.underlying29 (by kernel_rfl) (by decide) (good_struct Try.underlying32 (by kernel_rfl) (good_fs rfl (good_int Try.underlying3 (by kernel_rfl)) (good_fs rfl (good_int Try.underlying3 (by kernel_rfl)) (good_fs rfl (good_str Try.underlying9 (by kernel_rfl)) (good_fs0 _)))))) rfl (by kernel_rfl) good_as0)) H enc W base args.toList ds p hval hA _ _ (HRo.start W)
  obtain ⟨a0, a1, _⟩ := x
  obtain ⟨v0, _, rfl, ⟨u0, e0, w0⟩, ⟨v1, _, rfl, ⟨u1, e1, w1⟩, rfl⟩⟩ := g3
  obtain rfl := (List.cons.inj e0).1
  obtain rfl := (List.cons.inj e1).1
  have hb0 := Nat.le_trans g4 (show bulkDs ds ≤ 1048576 by
    have h1 : decide (Rows.uptoBulkAll (ds ++ []) ≤ 1048576) = true := hk
    rw [List.append_nil] at h1
    rw [← up2]
    exact of_decide_eq_true h1)
  have hcall := law_any mixed (k := 3000000 + 10) Try.func7 (by kernel_rfl) runs_ok g1 g2 (law_run 3000000 (by decide) h v0 a0 w0 v1 a1 w1 hb0)
  refine hcall.mono fun e W' ⟨he, hg⟩ => ?_
  subst he
  simp only [List.append_nil] at hW' hA0 ⊢
  have hlen : ds.length = 2 := trodAll_len hA
  have hvars : (((Rows.OpenSpec.upto Rows.packReadsSpec).at F0).fn H (ds ++ [])).vars = [] ∧ (((Rows.OpenSpec.upto Rows.packReadsSpec).at F0).fn H (ds ++ [])).args = ds ∧ (((Rows.OpenSpec.upto Rows.packReadsSpec).at F0).fn H (ds ++ [])).results = [.lit (.bool true)] := by
    rw [List.append_nil]
    match ds, hlen with
    | [d0, d1], _ => exact ⟨rfl, rfl, rfl⟩
  obtain ⟨hv1, hv2, hv3⟩ := hvars
  refine ⟨_, rfl, law_post hW' rfl hg (fun _ _ _ => ?_) (fun sp hsp => ?_) hv1
    (ok_one (by kernel_rfl) rfl (okWide_bool_mk Try.underlying4 _))⟩
  · rw [hv3]
    exact (trodAll_cons_mk (shut_bool Try.underlying4 _) trodAll_mk0)
  · have hA1 := trodAll_below laid hg sp (ts := [23, 29]) (by decide +kernel) hlt hsp hA
    rw [hv2, hps]
    exact hA1

theorem over : Rows.packReadsUptoRow.holds Try.pinned (Rows.OpenSpec.upto Rows.packReadsSpec) :=
  OpenClaim.holds_of_cond 7 Try.f7 rfl rfl rfl rfl rfl rfl rfl ⟨rfl, rfl, rfl, rfl, rfl⟩ rfl rfl rfl rfl rfl (by kernel_rfl) Try.func7 (by kernel_rfl)
    (of_decide_eq_true (by kernel_rfl)) (by unfold Func.isWrapper; first | (rw [if_pos (by decide +kernel)]; kernel_rfl) | (rw [if_neg (by decide +kernel)]; exact ⟨rfl, rfl⟩))
    (fun os started H enc _ F0 => lifted os started H enc F0)

/-- The statement. -/
theorem proved : Rows.PackReadsUptoSaid :=
  over
#print axioms proved
end Go.Proofs.Ytadopcddagkhbaa.cPackReads
