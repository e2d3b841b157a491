/- The law GfTells returns true for every input, and its input reads behind the call as it did; no conditions. The kit's model is followed by an abstract machine that is shown to tell what the model does; the contracts of the functions are proved over that machine. -/
import Derived.Test.YthcnehemnjongaaRows
import Derived.Test.YthcnehemnjongaaRuns
import Derived.Test.YthcnehemnjongaaRefGf
import Derived.Test.YthcnehemnjongaaBook
import Derived.Test.YthcnehemnjongaaFieldEq
import Derived.WalkKit
import Derived.ProofKit
import Derived.OpenShut
import Derived.JoinedCond
namespace Go.Proofs.Ythcnehemnjongaa.cGfTells
open Go Go.ChangeShapes Go.WideShapes Go.ChangeAt Go.RowKit Go.YthcnehemnjongaaAbs
set_option linter.unusedSimpArgs false
set_option linter.unusedVariables false

set_option maxRecDepth 4000
theorem powG_eq {a : Nat} (ha : a < 256) (n : Nat) : powG a (n : Nat) = powN a n := by
  unfold powG
  rw [if_neg (by omega)]
  by_cases h0 : n = 0
  · subst h0; rfl
  · rw [if_neg (by omega)]
    by_cases h1 : a = 0
    · subst h1
      rw [if_pos rfl]
      obtain ⟨m, rfl⟩ : ∃ m, n = m + 1 := ⟨n - 1, by omega⟩
      show 0 = mul (powN 0 m) 0
      rw [mul_zero]
    · rw [if_neg h1]
      conv => rhs; rw [← pw_lg a ha h1]
      rw [powN_pw, ← pw_mod (lg a * n), Int.toNat_natCast]
      congr 1
      rw [Nat.mul_mod, Nat.mod_mod, ← Nat.mul_mod]
theorem pow_two (i : Nat) : powN 2 i = pw i := by
  have : (2 : Nat) = pw 1 := rfl
  rw [this, powN_pw, Nat.one_mul]

set_option maxHeartbeats 4000000 in
theorem law_run (k : Nat) (hk : 3000 < k) (h : Heap) (a0 : UInt8) (a1 : UInt8) (a2 : Int) (w2 : (Lit.int .i64 a2).wf = true) (a3 : Int) (w3 : (Lit.int .i64 a3).wf = true) :
    ∃ v h', afuncT Try.prog [5] (orRuns 3 (acall Try.prog (k + 10))) (k + 10) Try.f4 [.int .u8 (a0.toNat : Nat), .int .u8 (a1.toNat : Nat), .int .i64 a2, .int .i64 a3] h = some (v, h') ∧ v = .bool true := by
  obtain ⟨n1, n2⟩ := wf64 w2
  refine afuncT_ex rfl (by simp [Try.f4]) ?_
  simp [Try.f4]
  refine use (make_ok (k + 9) (by omega) h) ?_
  intro v h1 hq
  have ev := hq.1
  have k1 := hq.2
  clear hq
  subst ev
  have row : (AV.agg fieldC).row1 = some fieldC := row1_agg fieldC_one
  have lay : alay (h1.new (.cells zz25 false)) h1.next 0 fieldC = some (h1.new (.cells fieldC false)) := alay_new (by rw [fieldC_len, zz25_len])
  have g2 : (h1.new (.cells fieldC false)).get h1.next = some (.cells fieldC false) := get_new_self _ _
  have n2' : h1.next < (h1.new (.cells fieldC false)).next := Nat.lt_succ_self _
  generalize h1.new (.cells fieldC false) = h2 at lay g2 n2'
  have lay2 : alay (h2.new (.cells zz25 false)) h2.next 0 fieldC = some (h2.new (.cells fieldC false)) := alay_new (by rw [fieldC_len, zz25_len])
  have g3 : (h2.new (.cells fieldC false)).get h1.next = some (.cells fieldC false) := by rw [get_new_old n2']; exact g2
  have g4 : (h2.new (.cells fieldC false)).get h2.next = some (.cells fieldC false) := get_new_self _ _
  have n3 : h2.next < (h2.new (.cells fieldC false)).next := Nat.lt_succ_self _
  generalize h2.new (.cells fieldC false) = h3 at lay2 g3 g4 n3
  have tk : fieldC.take 766 = fieldC := List.take_of_length_le (by rw [fieldC_len]; exact Nat.le_refl _)
  have ld2 : aload Try.prog h2 25 h1.next 0 = some (.agg fieldC) := by simp [aload, Heap.row, g2, fieldC_len, tk]
  have ld3 : aload Try.prog h3 25 h1.next 0 = some (.agg fieldC) := by simp [aload, Heap.row, g3, fieldC_len, tk]
  have ld4 : aload Try.prog h3 25 h2.next 0 = some (.agg fieldC) := by simp [aload, Heap.row, g4, fieldC_len, tk]
  have f : Fld h3 (.ptr h1.next 0) := ⟨_, _, _, _, rfl, by omega, g3, fun j _ => by rw [Nat.zero_add]⟩
  have e1 : acall Try.prog (k + 10) 16 [.int .i64 a3, .int .i64 0, .int .i64 509] h3 = _ := within_ok (k + 9) a3 0 509 (by omega) (by omega) (by omega) h3
  have b1 : 0 ≤ a3 % (509 - 0 + 1) := Int.emod_nonneg _ (by omega)
  have b2 : a3 % (509 - 0 + 1) < 509 - 0 + 1 := Int.emod_lt_of_pos _ (by omega)
  generalize a3 % (509 - 0 + 1) = q at e1 b1 b2
  obtain ⟨c, hc⟩ := Int.eq_ofNat_of_zero_le (show 0 ≤ 0 + q by omega)
  rw [hc] at e1
  have M1 : acall Try.prog (k + 10) 11 [.ptr h1.next 0, .int .u8 (a0.toNat : Nat), .int .u8 (a1.toNat : Nat)] h3 = _ := mulB_ok (k + 9) h3 _ f a0 a1
  have M2 : acall Try.prog (k + 10) 17 [.int .u8 (a0.toNat : Nat), .int .u8 (a1.toNat : Nat)] h3 = _ := rmul_ok (k + 9) (by omega) h3 a0 a1
  have M3 : acall Try.prog (k + 10) 12 [.ptr h1.next 0, .int .u8 (a0.toNat : Nat)] h3 = _ := invB_ok (k + 9) h3 _ f a0
  have M4 : ∀ x : UInt8, acall Try.prog (k + 10) 18 [.int .u8 (x.toNat : Nat)] h3 = _ := fun x => rinv_ok (k + 8) (by omega) h3 x
  have M5 : acall Try.prog (k + 10) 14 [.ptr h1.next 0, .int .u8 (a0.toNat : Nat), .int .u8 (a1.toNat : Nat)] h3 = _ := divB_ok (k + 8) h3 _ f a0 a1
  have M6 : acall Try.prog (k + 10) 17 [.int .u8 (a0.toNat : Nat), .int .u8 ((gi a1).toNat : Nat)] h3 = _ := rmul_ok (k + 9) (by omega) h3 a0 (gi a1)
  have M7 : acall Try.prog (k + 10) 13 [.ptr h1.next 0, .int .u8 (a0.toNat : Nat), .int .i64 a2] h3 = _ := pow_ok (k + 9) h3 _ f a0.toNat a2 (b_lt a0) n2
  have M8 : acall Try.prog (k + 10) 19 [.int .u8 (a0.toNat : Nat), .int .i64 a2] h3 = _ := rpow_ok (k + 8) (by omega) h3 a0 a2 n2
  have M9 : acall Try.prog (k + 10) 19 [.int .u8 2, .int .i64 (c : Nat)] h3 = _ := rpow_ok (k + 8) (by omega) h3 2 (c : Nat) (by omega)
  simp [row, fieldC_len, lay, ld2, lay2, e1, M1, M2, M3, M4, M5, M6, M7, M8]
  refine W_drawn h3.next (by rfl) (by kernel_rfl) ?_
  have hc5 : c < 510 := by omega
  rw [show (2 : UInt8).toNat = 2 from rfl, powG_eq (by omega), pow_two] at M9
  have i1 : aindex Try.prog 22 (.ptr h1.next 0) (.int .i64 (c : Nat)) = some (.ptr h1.next c) := by
    have : (c : Int) < 510 := by omega
    simp [aindex, this]
  have d1 : aload Try.prog h3 5 h1.next c = some (.int .u8 (pw c : Nat)) := ldc g3 ta5 (fieldC_exp hc5)
  have i2 : ∀ x : Nat, x < 256 → ∀ kd, aindex Try.prog 23 (.ptr h1.next 510) (.int kd (x : Nat)) = some (.ptr h1.next (510 + x)) := fun x hx kd => by
    have : (x : Int) < 256 := by omega
    simp [aindex, this]
  have d2 : ∀ x : Nat, x < 256 → aload Try.prog h3 5 h1.next (510 + x) = some (.int .u8 (lg x : Nat)) := fun x hx => ldc g3 ta5 (fieldC_log hx)
  have i3 := i2 0 (by omega) .i64
  have d3 := d2 0 (by omega)
  have l0 : lg 0 = 0 := by decide +kernel
  rw [l0] at d3
  have nb1 : h1.next < h3.next := by omega
  have ag : Agree h3.next h3 h3 := fun _ _ => rfl
  have i3' : aindex Try.prog 23 (.ptr h1.next 510) (.int .i64 0) = some (.ptr h1.next 510) := i3
  have d3' : aload Try.prog h3 5 h1.next 510 = some (.int .u8 0) := d3
  by_cases hc : c ≤ 254
  · have p1 := pw_lt c
    have i4 := i2 (pw c) p1 .u8
    have d4 := d2 (pw c) p1
    rw [lg_pw c (by omega)] at d4
    have w1 : fwrap .i64 (c : Int) = (c : Nat) := i64w _ (by omega) (by omega)
    simp (maxSteps := 1000000) [obl, mayEff, mayRead, i1, d1, nb1, sameAV, M9, ag, isLe (show (c : Int) ≤ 254 by omega), i4, d4, w1, i3', d3', ld3, ld4, same_fields, n3, aback_field]
  · simp (maxSteps := 1000000) [obl, mayEff, mayRead, i1, d1, nb1, sameAV, M9, ag, isLt (show (254 : Int) < (c : Int) by omega), i3', d3', ld3, ld4, same_fields, n3, aback_field]


theorem own : ownKnob Try.prog.godebug = none := by kernel_rfl
theorem laid : laidOutB Try.prog = true := by kernel_rfl

set_option maxRecDepth 100000 in
theorem lifted (os : Os) (started : os.Started) (H : Type) (enc : TypeId × Value → H) :
    ReturnsInHanded {} Try.checked os 4 .any (Rows.gfTellsSpec.pre6 enc Try.prog Try.f4 Rows.gfTellsRow.domain false) (Rows.gfTellsSpec.post enc Try.prog Try.f4 false true false false) := by
  refine returnsInHanded_of_change (C := Try.checked) own started (by kernel_rfl) Try.func4
    (ChangeSpec.witness6 (enc := enc) (C := Try.checked) false ⟨#[], #[.int .u8 0, .int .u8 0, .int .i64 0, .int .i64 0], []⟩ 8 (by kernel_rfl) (by kernel_rfl) (by kernel_rfl) (by kernel_rfl)) ?_
  intro W base args ds gs before hval0 hW hcnd _
  have hval : ∀ (j : Nat) t v, Try.f4.params.toList[j]? = some t → args.toList[j]? = some v → Value.okWide Try.prog W .any base t v := fun j t v h1 h2 => hval0 j t v (by simpa using h1) (by simpa using h2)
  have hW' := hW
  obtain ⟨p, q, hA0, hV, rfl, hfz, hnd⟩ := hW
  have hA : DataW.TrodAll enc Try.prog W 0 (fun _ => true) true Try.f4.params.toList args.toList ds p := hA0
  obtain ⟨rfl, rfl⟩ := trodVars_none hV
  have hlt : ∀ x ∈ p, x.block < W.heap.size := fun x hx => hW'.lt x (by simp [hx])
  have hps : Try.f4.params.toList = [5, 5, 3, 3] := by rw [Try.params4]
  rw [hps] at hA hval
  obtain ⟨m, h, avs, x, g1, _, _, g2, g3, g4⟩ := (good_as1 (good_byte Try.underlying5 (by kernel_rfl)) rfl (by kernel_rfl) (good_as1 (good_byte Try.underlying5 (by kernel_rfl)) rfl (by kernel_rfl) (good_as1 (good_int Try.underlying3 (by kernel_rfl)) rfl (by kernel_rfl) (good_as1 (good_int Try.underlying3 (by kernel_rfl)) rfl (by kernel_rfl) good_as0)))) H enc W base args.toList ds p hval hA _ _ (HRo.start W)
  obtain ⟨a0, a1, a2, a3, _⟩ := x
  obtain ⟨_, _, rfl, e0, ⟨_, _, rfl, e1, ⟨_, _, rfl, ⟨e2, w2⟩, ⟨_, _, rfl, ⟨e3, w3⟩, rfl⟩⟩⟩⟩ := g3
  obtain rfl := (List.cons.inj e0).1
  obtain rfl := (List.cons.inj e1).1
  obtain rfl := (List.cons.inj e2).1
  obtain rfl := (List.cons.inj e3).1
  have hcall := law_any mixed (k := 4000 + 10) Try.func4 (by kernel_rfl) runs_ok g1 g2 (law_run 4000 (by decide) h a0 a1 a2 w2 a3 w3)
  refine hcall.mono fun e W' ⟨he, hg⟩ => ?_
  subst he
  simp only [List.append_nil] at hW' hA0 ⊢
  have hlen : ds.length = 4 := trodAll_len hA
  have hvars : (Rows.gfTellsSpec.fn H (ds ++ [])).vars = [] ∧ (Rows.gfTellsSpec.fn H (ds ++ [])).args = ds ∧ (Rows.gfTellsSpec.fn H (ds ++ [])).results = [.lit (.bool true)] := by
    rw [List.append_nil]
    match ds, hlen with
    | [d0, d1, d2, d3], _ => exact ⟨rfl, rfl, rfl⟩
  obtain ⟨hv1, hv2, hv3⟩ := hvars
  refine ⟨_, rfl, law_post hW' rfl hg (fun _ _ _ => ?_) (fun sp hsp => ?_) hv1
    (ok_one (by kernel_rfl) rfl (okWide_bool_mk Try.underlying4 _))⟩
  · rw [hv3]
    exact (trodAll_cons_mk (shut_bool Try.underlying4 _) trodAll_mk0)
  · have hA1 := trodAll_below laid hg sp (ts := [5, 5, 3, 3]) (by decide +kernel) hlt hsp hA
    rw [hv2, hps]
    exact hA1

theorem over : Rows.gfTellsRow.holds Try.pinned (OpenSpec.ofChange Rows.gfTellsSpec) :=
  OpenClaim.holds_of_wide 4 Try.f4 rfl rfl rfl rfl rfl rfl rfl ⟨rfl, rfl, rfl, rfl, rfl⟩ rfl rfl rfl rfl rfl (by kernel_rfl) Try.func4 (by kernel_rfl)
    (of_decide_eq_true (by kernel_rfl)) (by unfold Func.isWrapper; first | (rw [if_pos (by decide +kernel)]; kernel_rfl) | (rw [if_neg (by decide +kernel)]; exact ⟨rfl, rfl⟩))
    (fun os started H enc _ => lifted os started H enc)

/-- The statement. -/
theorem proved : Rows.GfTellsSaid :=
  over
#print axioms proved
end Go.Proofs.Ythcnehemnjongaa.cGfTells
