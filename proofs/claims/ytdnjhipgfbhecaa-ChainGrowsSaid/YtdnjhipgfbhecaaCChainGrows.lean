/- The law ChainGrows returns true for every input, and its input reads behind the call as it did; no conditions. The kit's model is followed by an abstract machine that is shown to tell what the model does; the contracts of the functions are proved over that machine. -/
import Derived.Test.YtdnjhipgfbhecaaRows
import Derived.Test.YtdnjhipgfbhecaaRuns
import Derived.Test.YtdnjhipgfbhecaaChainG
import Derived.Test.YtdnjhipgfbhecaaBook
import Derived.Test.YtdnjhipgfbhecaaBytes
import Derived.WalkKit
import Derived.ProofKit
import Derived.OpenShut
import Derived.JoinedCond
namespace Go.Proofs.Ytdnjhipgfbhecaa.cChainGrows
open Go Go.ChangeShapes Go.WideShapes Go.ChangeAt Go.RowKit Go.YtdnjhipgfbhecaaAbs
set_option linter.unusedSimpArgs false
set_option linter.unusedVariables false

set_option maxRecDepth 4000
theorem fw_lo (i : Nat) : fwrap .u8 (i : Int) = ((UInt8.ofNat i).toNat : Nat) := by
  have : (UInt8.ofNat i).toNat = i % 256 := by simp
  rw [this]
  simp [fwrap] <;> omega
theorem fw_hi (i : Nat) : fwrap .u8 ((i : Int) / 256) = ((UInt8.ofNat (i / 256)).toNat : Nat) := by
  rw [← fw_lo]; rfl
theorem sl_new2 (h : Heap) (a b : UInt8) (ex : Bool) : Sl 1 2 (h.new (.cells [.int .u8 (a.toNat : Nat), .int .u8 (b.toNat : Nat)] false)) (.sl h.next 0 2 2 1 ex) ([a, b].map bb) :=
  .inr (.inr ⟨h.next, 0, 2, ex, [.int .u8 (a.toNat : Nat), .int .u8 (b.toNat : Nat)], false, rfl, Nat.lt_succ_self _, get_new_self _ _, rfl, by simp, rfl, Nat.le_refl _⟩)
/-- The key is built. -/
theorem key_conv (h : Heap) (i : Nat) (ex : Bool) : ∃ x y : UInt8, fwrap .u8 (i : Int) = (x.toNat : Nat) ∧ fwrap .u8 ((i : Int) / 256) = (y.toNat : Nat) ∧
    aconv Try.prog (h.new (.cells [.int .u8 (x.toNat : Nat), .int .u8 (y.toNat : Nat)] false)) 25 9 (.sl h.next 0 2 2 1 ex) = some (.str (keyB i), h.new (.cells [.int .u8 (x.toNat : Nat), .int .u8 (y.toNat : Nat)] false)) :=
  ⟨UInt8.ofNat i, UInt8.ofNat (i / 256), fw_lo i, fw_hi i, aconv_bs (P := Try.prog) (src := 25) (dst := 9) (sl_new2 h (UInt8.ofNat i) (UInt8.ofNat (i / 256)) ex) Try.underlying25 Try.underlying9 Try.underlying5⟩
set_option maxHeartbeats 2000000 in
theorem law_run (k : Nat) (hk : 300000 < k) (h : Heap) (a0 : Int) (w0 : (Lit.int .i64 a0).wf = true) :
    ∃ v h', afuncT Try.prog [] (orRuns 3 (acall Try.prog (k + 10))) (k + 10) Try.f5 [.int .i64 a0] h = some (v, h') ∧ v = .bool true := by
  obtain ⟨p1, h1, E1, b, vn, vo, rn, ro, e1, O, f, k1⟩ := new_ok (k + 9) h
  subst e1
  have W : acall Try.prog (k + 10) 15 [.int .i64 a0, .int .i64 0, .int .i64 300] h1 = _ := within_ok (k + 9) a0 0 300 (by omega) (by omega) (by omega) h1
  obtain ⟨K, hK⟩ : ∃ K : Nat, (0 : Int) + a0 % (300 - 0 + 1) = (K : Int) := ⟨((0 : Int) + a0 % (300 - 0 + 1)).toNat, by omega⟩
  have hK2 : K ≤ 300 := by omega
  rw [hK] at W
  clear hK
  refine afuncT_ex rfl (by simp [Try.f5]) ?_
  simp [Try.f5, E1, W, aeql]
  refine W_cutLoop 0 (fun st => st.t.get 3 = some (.ptr b 0) ∧ st.t.get 4 = some (.int .i64 (K : Nat)) ∧ ∃ (c : Ch) (vn vo : AV) (rn ro : List AV), ChI K c ∧ c.len = K ∧ GotG K c ∧ ChO st.h b c vn vo rn ro) ?_ ?_
  · refine W_loop (fun m st => ∃ (i : Nat) (c : Ch) (vn vo : AV) (rn ro : List AV), m = K - i ∧ i ≤ K ∧ st.t.get 3 = some (.ptr b 0) ∧ st.t.get 4 = some (.int .i64 (K : Nat)) ∧ st.t.get 5 = some (.int .i64 (i : Nat)) ∧
      ChI i c ∧ ChM c ∧ ChG c ∧ c.len = i ∧ GotG i c ∧ ChO st.h b c vn vo rn ro) K (by omega)
      ⟨0, .new, vn, vo, rn, ro, by simp, by omega, rfl, rfl, rfl, ChI.new 0, ChM.new, ChG.new, rfl, fun k => ⟨fun j hj _ => absurd hj (Nat.not_lt_zero j), fun _ => new_get k⟩, O⟩ ?_
    rintro m ⟨t, h2⟩ ⟨i, c, vn, vo, rn, ro, rfl, hi, q3, q4, q5, I, M, G, L, T, O⟩
    simp only at q3 q4 q5 O
    by_cases hlt : i < K
    · obtain ⟨x, y, fx, fy, cv⟩ := key_conv h2 i true
      obtain ⟨h3, hN⟩ : ∃ h3, h3 = h2.new (.cells [.int .u8 (x.toNat : Nat), .int .u8 (y.toNat : Nat)] false) := ⟨_, rfl⟩
      have O3 : ChO h3 b c vn vo rn ro := by rw [hN]; exact O.ext (Keep.new (Nat.le_refl _) _)
      rw [← hN] at cv
      obtain ⟨g1, g2, g3⟩ := T.put (by omega) I M
      have ks : (keyG i).size ≤ 1000 := by rw [keyG_size]; omega
      obtain ⟨v4, h4, E4, e4, ⟨vn4, vo4, rn4, ro4, O4, f4⟩, K4⟩ := put_ok (k + 7) (by omega) h3 b c vn vo rn ro O3 (I.ok (by omega)) (I.step.ok (by omega)) (keyG i) ks (i : Int)
      have I4 := I.put ks (i : Int)
      have G4 := G.put I (keyG i) (i : Int)
      have L4 := put_len c (keyG i) (i : Int)
      rw [g1, if_pos rfl, L] at L4
      rw [g1] at e4
      subst e4
      generalize (c.put (keyG i) i).2 = d at *
      have sh : acall Try.prog (k + 10) 11 [.ptr b 0] h4 = _ := shape_ok (k + 9) h4 b d vn4 vo4 rn4 ro4 O4
      have ln : acall Try.prog (k + 10) 13 [.ptr b 0] h4 = _ := len_ok (k + 9) h4 b d vn4 vo4 rn4 ro4 O4
      have ksz : (keyB i).size = 2 := rfl
      have kz : (⟨⟨[107]⟩⟩ : ByteArray).size = 1 := rfl
      have kg : (⟨⟨[107]⟩⟩ : ByteArray) ++ keyB i = keyG i := rfl
      have Go := G4.o; have Ge := G4.e; have Gm := I4.mv; have nw1 := I4.n1; have Io1 := I4.o1
      rw [L4] at ln
      obtain ⟨w, hw⟩ : ∃ w, d.now.length = w := ⟨_, rfl⟩
      obtain ⟨o, ho⟩ : ∃ o, d.old.length = o := ⟨_, rfl⟩
      obtain ⟨mv, hmv⟩ : ∃ m, d.moved = m := ⟨_, rfl⟩
      rw [hw, ho, hmv] at sh
      rw [hw, ho, hmv, L4] at Go
      rw [hw, ho, L4] at Ge
      rw [ho, hmv] at Gm
      rw [hw] at nw1
      rw [ho] at Io1
      have s1 := i64s (n := 3 * (w : Int)) (by omega) (by omega)
      have s2 := i64s (n := 3 * (w : Int) + 1) (by omega) (by omega)
      have s3 := i64s (n := (i : Int) + 1) (by omega) (by omega)
      have c1 := isLe (show (i : Int) + 1 ≤ 3 * (w : Int) + 1 by
        by_cases z : o = 0
        · have := Ge z; omega
        · have := Go z; have := Gm z; omega)
      by_cases h0 : o = 0
      · subst h0
        simp [q3, q4, q5, isLt (show (i : Int) < (K : Int) by omega), fx, fy, aalloc, afill, AV.row1, AV.row, AV.one, ← hN, cv, kg, kz, ksz, E4, sh, ln, s1, s2, s3, c1]
        exact ⟨K - (i + 1), by omega, i + 1, rfl, by omega, by omega, d, I4, g2, G4, L4, g3, vn4, vo4, rn4, ro4, O4⟩
      · obtain ⟨z1, z2⟩ := Go h0
        have z3 := Gm h0
        have z4 : ¬ (o : Int) = 0 := by omega
        have z5 : 2 * (o : Int) = (w : Int) := by omega
        have s4 := i64s (n := (w : Int)) (by omega) (by omega)
        simp [q3, q4, q5, isLt (show (i : Int) < (K : Int) by omega), fx, fy, aalloc, afill, AV.row1, AV.row, AV.one, ← hN, cv, kg, kz, ksz, E4, sh, ln, s1, s2, s3, s4, c1, h0, z4, z5, isLe (show (0 : Int) ≤ (mv : Int) by omega), isLt (show (mv : Int) < (o : Int) by omega)]
        exact ⟨K - (i + 1), by omega, i + 1, rfl, by omega, by omega, d, I4, g2, G4, L4, g3, vn4, vo4, rn4, ro4, O4⟩
    · simp [q3, q4, q5, isLe (show (K : Int) ≤ (i : Int) by omega)]
      have : i = K := by omega
      subst this
      exact ⟨c, I, L, T, vn, vo, rn, ro, O⟩
  rintro ⟨t, h2⟩ ⟨q3, q4, c, vn, vo, rn, ro, I, L, T, O⟩
  simp only at q3 q4 O
  have C := I.ok (by omega)
  simp [q3, q4]
  refine W_cutLoop 2 (fun st => st.t.get 3 = some (.ptr b 0) ∧ st.t.get 4 = some (.int .i64 (K : Nat)) ∧ ChO st.h b c vn vo rn ro) ?_ ?_
  · refine W_loop (fun m st => ∃ (i : Nat), m = K - i ∧ i ≤ K ∧ st.t.get 3 = some (.ptr b 0) ∧ st.t.get 4 = some (.int .i64 (K : Nat)) ∧ st.t.get 9 = some (.int .i64 (i : Nat)) ∧ ChO st.h b c vn vo rn ro) K (by omega)
      ⟨0, by simp, by omega, by simp [q3], by simp [q4], by simp, O⟩ ?_
    rintro m ⟨t, h2⟩ ⟨i, rfl, hi, q3, q4, q9, O⟩
    simp only at q3 q4 q9 O
    by_cases hlt : i < K
    · obtain ⟨x, y, fx, fy, cv⟩ := key_conv h2 i true
      obtain ⟨h3, hN⟩ : ∃ h3, h3 = h2.new (.cells [.int .u8 (x.toNat : Nat), .int .u8 (y.toNat : Nat)] false) := ⟨_, rfl⟩
      have O3 : ChO h3 b c vn vo rn ro := by rw [hN]; exact O.ext (Keep.new (Nat.le_refl _) _)
      rw [← hN] at cv
      have ks : (keyG i).size ≤ 1000 := by rw [keyG_size]; omega
      obtain ⟨v4, h4, E4, e4, K4⟩ := get_ok (k + 7) (by omega) h3 b c vn vo rn ro O3 C (keyG i) ks
      rw [(T (keyG i)).1 i hlt rfl] at e4
      subst e4
      have O4 := O3.ext K4
      have ksz : (keyB i).size = 2 := rfl
      have kz : (⟨⟨[107]⟩⟩ : ByteArray).size = 1 := rfl
      have kg : (⟨⟨[107]⟩⟩ : ByteArray) ++ keyB i = keyG i := rfl
      simp [q3, q4, q9, isLt (show (i : Int) < (K : Int) by omega), fx, fy, aalloc, afill, AV.row1, AV.row, AV.one, ← hN, cv, kg, kz, ksz, E4, i64s (n := (i : Int) + 1) (by omega) (by omega)]
      exact ⟨K - (i + 1), by omega, i + 1, rfl, by omega, by omega, O4⟩
    · simp [q3, q4, q9, isLe (show (K : Int) ≤ (i : Int) by omega)]
      exact O
  rintro ⟨t, h2⟩ ⟨q3, q4, O⟩
  simp only at q3 q4 O
  have ln : acall Try.prog (k + 10) 13 [.ptr b 0] h2 = _ := len_ok (k + 9) h2 b c vn vo rn ro O
  simp [q3, q4, ln, L]


theorem own : ownKnob Try.prog.godebug = none := by kernel_rfl
theorem laid : laidOutB Try.prog = true := by kernel_rfl

set_option maxRecDepth 100000 in
theorem lifted (os : Os) (started : os.Started) (H : Type) (enc : TypeId × Value → H) :
    ReturnsInHanded {} Try.checked os 5 .any (Rows.chainGrowsSpec.pre6 enc Try.prog Try.f5 Rows.chainGrowsRow.domain false) (Rows.chainGrowsSpec.post enc Try.prog Try.f5 false true false false) := by
  refine returnsInHanded_of_change (C := Try.checked) own started (by kernel_rfl) Try.func5
    (ChangeSpec.witness6 (enc := enc) (C := Try.checked) false ⟨#[], #[.int .i64 0], []⟩ 8 (by kernel_rfl) (by kernel_rfl) (by kernel_rfl) (by kernel_rfl)) ?_
  intro W base args ds gs before hval0 hW hcnd _
  have hval : ∀ (j : Nat) t v, Try.f5.params.toList[j]? = some t → args.toList[j]? = some v → Value.okWide Try.prog W .any base t v := fun j t v h1 h2 => hval0 j t v (by simpa using h1) (by simpa using h2)
  have hW' := hW
  obtain ⟨p, q, hA0, hV, rfl, hfz, hnd⟩ := hW
  have hA : DataW.TrodAll enc Try.prog W 0 (fun _ => true) true Try.f5.params.toList args.toList ds p := hA0
  obtain ⟨rfl, rfl⟩ := trodVars_none hV
  have hlt : ∀ x ∈ p, x.block < W.heap.size := fun x hx => hW'.lt x (by simp [hx])
  have hps : Try.f5.params.toList = [3] := by rw [Try.params5]
  rw [hps] at hA hval
  obtain ⟨m, h, avs, x, g1, _, _, g2, g3, g4⟩ := (good_as1 (good_int Try.underlying3 (by kernel_rfl)) rfl (by kernel_rfl) good_as0) H enc W base args.toList ds p hval hA _ _ (HRo.start W)
  obtain ⟨a0, _⟩ := x
  obtain ⟨_, _, rfl, ⟨e0, w0⟩, rfl⟩ := g3
  obtain rfl := (List.cons.inj e0).1
  have hcall := law_any mixed (k := 400000 + 10) Try.func5 (by kernel_rfl) runs_ok g1 g2 (law_run 400000 (by decide) h a0 w0)
  refine hcall.mono fun e W' ⟨he, hg⟩ => ?_
  subst he
  simp only [List.append_nil] at hW' hA0 ⊢
  have hlen : ds.length = 1 := trodAll_len hA
  have hvars : (Rows.chainGrowsSpec.fn H (ds ++ [])).vars = [] ∧ (Rows.chainGrowsSpec.fn H (ds ++ [])).args = ds ∧ (Rows.chainGrowsSpec.fn H (ds ++ [])).results = [.lit (.bool true)] := by
    rw [List.append_nil]
    match ds, hlen with
    | [d0], _ => exact ⟨rfl, rfl, rfl⟩
  obtain ⟨hv1, hv2, hv3⟩ := hvars
  refine ⟨_, rfl, law_post hW' rfl hg (fun _ _ _ => ?_) (fun sp hsp => ?_) hv1
    (ok_one (by kernel_rfl) rfl (okWide_bool_mk Try.underlying4 _))⟩
  · rw [hv3]
    exact (trodAll_cons_mk (shut_bool Try.underlying4 _) trodAll_mk0)
  · have hA1 := trodAll_below laid hg sp (ts := [3]) (by decide +kernel) hlt hsp hA
    rw [hv2, hps]
    exact hA1

theorem over : Rows.chainGrowsRow.holds Try.pinned (OpenSpec.ofChange Rows.chainGrowsSpec) :=
  OpenClaim.holds_of_wide 5 Try.f5 rfl rfl rfl rfl rfl rfl rfl ⟨rfl, rfl, rfl, rfl, rfl⟩ rfl rfl rfl rfl rfl (by kernel_rfl) Try.func5 (by kernel_rfl)
    (of_decide_eq_true (by kernel_rfl)) (by unfold Func.isWrapper; first | (rw [if_pos (by decide +kernel)]; kernel_rfl) | (rw [if_neg (by decide +kernel)]; exact ⟨rfl, rfl⟩))
    (fun os started H enc _ => lifted os started H enc)

/-- The statement. -/
theorem proved : Rows.ChainGrowsSaid :=
  over
#print axioms proved
end Go.Proofs.Ytdnjhipgfbhecaa.cChainGrows
