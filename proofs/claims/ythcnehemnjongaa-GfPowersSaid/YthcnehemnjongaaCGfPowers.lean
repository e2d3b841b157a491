/- The law GfPowers returns true for every input, and its input reads behind the call as it did; no conditions. The kit's model is followed by an abstract machine that is shown to tell what the model does; the contracts of the functions are proved over that machine. -/
import Derived.Test.YthcnehemnjongaaRows
import Derived.Test.YthcnehemnjongaaRuns
import Derived.Test.YthcnehemnjongaaRefGf
import Derived.Test.YthcnehemnjongaaBook
import Derived.WalkKit
import Derived.ProofKit
import Derived.OpenShut
namespace Go.Proofs.Ythcnehemnjongaa.cGfPowers
open Go Go.ChangeShapes Go.WideShapes Go.ChangeAt Go.RowKit Go.YthcnehemnjongaaAbs
set_option linter.unusedSimpArgs false
set_option linter.unusedVariables false

set_option maxRecDepth 4000
theorem powG_eq {a : Nat} (ha : a < 256) (n : Nat) : powG a (n : Nat) = powN a n := by
  unfold powG
  rw [if_neg (by omega)]
  by_cases h0 : n = 0
  · subst h0; rfl
  · rw [if_neg (by omega)]
    by_cases h1 : a = 0
    · subst h1
      rw [if_pos rfl]
      obtain ⟨m, rfl⟩ : ∃ m, n = m + 1 := ⟨n - 1, by omega⟩
      show 0 = mul (powN 0 m) 0
      rw [mul_zero]
    · rw [if_neg h1]
      conv => rhs; rw [← pw_lg a ha h1]
      rw [powN_pw, ← pw_mod (lg a * n), Int.toNat_natCast]
      congr 1
      rw [Nat.mul_mod, Nat.mod_mod, ← Nat.mul_mod]
theorem powN_add {a : Nat} (ha : a < 256) (i : Nat) : ∀ j, mul (powN a i) (powN a j) = powN a (i + j)
  | 0 => mul_one _
  | j + 1 => by
    show mul (powN a i) (mul (powN a j) a) = mul (powN a (i + j)) a
    rw [← mul_assoc (powN_lt ha i) (powN_lt ha j) ha, powN_add ha i j]
theorem pow_two (i : Nat) : powN 2 i = pw i := by
  have : (2 : Nat) = pw 1 := rfl
  rw [this, powN_pw, Nat.one_mul]

set_option maxHeartbeats 2000000 in
theorem law_run (k : Nat) (hk : 3000 < k) (h : Heap) (a0 : UInt8) (a1 : Int) (w1 : (Lit.int .i64 a1).wf = true) (a2 : Int) (w2 : (Lit.int .i64 a2).wf = true) :
    ∃ v h', afuncT Try.prog [] (orRuns 3 (acall Try.prog (k + 10))) (k + 10) Try.f7 [.int .u8 (a0.toNat : Nat), .int .i64 a1, .int .i64 a2] h = some (v, h') ∧ v = .bool true := by
  refine afuncT_ex rfl (by simp [Try.f7]) ?_
  simp [Try.f7]
  refine use (make_ok (k + 9) (by omega) h) ?_
  intro v h1 hh
  rw [hh.1]
  clear hh
  have row : (AV.agg fieldC).row1 = some fieldC := by simp [AV.row1, AV.row, fieldC_one]
  have lay : alay (h1.new (.cells zz25 false)) h1.next 0 fieldC = some (h1.new (.cells fieldC false)) := alay_new (by rw [fieldC_len, zz25_len])
  have f : Fld (h1.new (.cells fieldC false)) (.ptr h1.next 0) := ⟨_, _, _, _, rfl, Nat.lt_succ_self _, get_new_self _ _, fun j _ => by rw [Nat.zero_add]⟩
  generalize h1.new (.cells fieldC false) = h2 at lay f
  have e1 : acall Try.prog (k + 10) 16 [.int .i64 a1, .int .i64 0, .int .i64 2000] h2 = _ := within_ok (k + 9) a1 0 2000 (by omega) (by omega) (by omega) h2
  have b1 : 0 ≤ a1 % (2000 - 0 + 1) := Int.emod_nonneg _ (by omega)
  have b2 : a1 % (2000 - 0 + 1) < 2000 - 0 + 1 := Int.emod_lt_of_pos _ (by omega)
  generalize a1 % (2000 - 0 + 1) = z at e1 b1 b2
  obtain ⟨i, hi⟩ := Int.eq_ofNat_of_zero_le (show 0 ≤ 0 + z by omega)
  rw [hi] at e1
  have e2 : acall Try.prog (k + 10) 16 [.int .i64 a2, .int .i64 0, .int .i64 2000] h2 = _ := within_ok (k + 9) a2 0 2000 (by omega) (by omega) (by omega) h2
  have b3 : 0 ≤ a2 % (2000 - 0 + 1) := Int.emod_nonneg _ (by omega)
  have b4 : a2 % (2000 - 0 + 1) < 2000 - 0 + 1 := Int.emod_lt_of_pos _ (by omega)
  generalize a2 % (2000 - 0 + 1) = y at e2 b3 b4
  obtain ⟨j, hj⟩ := Int.eq_ofNat_of_zero_le (show 0 ≤ 0 + y by omega)
  rw [hj] at e2
  have ha := b_lt a0
  generalize a0.toNat = a at ha
  have p1 : acall Try.prog (k + 10) 13 [.ptr h1.next 0, .int .u8 (a : Nat), .int .i64 (i : Nat)] h2 = _ := pow_ok (k + 9) h2 _ f a (i : Nat) ha (by omega)
  have p2 : acall Try.prog (k + 10) 13 [.ptr h1.next 0, .int .u8 (a : Nat), .int .i64 (j : Nat)] h2 = _ := pow_ok (k + 9) h2 _ f a (j : Nat) ha (by omega)
  have p3 : acall Try.prog (k + 10) 13 [.ptr h1.next 0, .int .u8 (a : Nat), .int .i64 ((i : Nat) + (j : Nat) : Int)] h2 = _ := pow_ok (k + 9) h2 _ f a ((i + j : Nat) : Int) ha (by omega)
  have p4 : acall Try.prog (k + 10) 13 [.ptr h1.next 0, .int .u8 2, .int .i64 (i : Nat)] h2 = _ := pow_ok (k + 9) h2 _ f 2 (i : Nat) (by omega) (by omega)
  have p5 : acall Try.prog (k + 10) 13 [.ptr h1.next 0, .int .u8 2, .int .i64 (j : Nat)] h2 = _ := pow_ok (k + 9) h2 _ f 2 (j : Nat) (by omega) (by omega)
  rw [powG_eq ha] at p1 p2 p3
  rw [powG_eq (by omega), pow_two] at p4 p5
  have p6 : acall Try.prog (k + 10) 11 [.ptr h1.next 0, .int .u8 (powN a i : Nat), .int .u8 (powN a j : Nat)] h2 = _ := mul_ok (k + 9) h2 _ f _ _ (powN_lt ha i) (powN_lt ha j)
  rw [powN_add ha] at p6
  have z1 : (i : Int).tmod 255 = ((i % 255 : Nat) : Int) := rfl
  have z2 : (j : Int).tmod 255 = ((j % 255 : Nat) : Int) := rfl
  have n1 : ¬ (pw i : Int) = 0 := fun q => pw_ne i (by omega)
  have n2 : ¬ pw i = 0 := pw_ne i
  have hw := i64w ((i : Int) + (j : Int)) (by omega) (by omega)
  by_cases hm : i % 255 = j % 255
  · have c1 : pw i = pw j := by rw [← pw_mod i, ← pw_mod j, hm]
    have c1' := eq_true (show ((pw i : Nat) : Int) = ((pw j : Nat) : Int) by rw [c1])
    have c2' := eq_true (show ((i % 255 : Nat) : Int) = ((j % 255 : Nat) : Int) by rw [hm])
    generalize i % 255 = I at *
    generalize j % 255 = J at *
    simp (maxSteps := 1000000) [row, fieldC_len, lay, e1, e2, p1, p2, p3, p4, p5, p6, z1, z2, n1, n2, hw, c1', c2']
  · have c1' := eq_false (show ¬ ((pw i : Nat) : Int) = ((pw j : Nat) : Int) from fun q => hm (pw_inj (by omega)))
    have c2' := eq_false (show ¬ ((i % 255 : Nat) : Int) = ((j % 255 : Nat) : Int) from fun q => hm (by omega))
    generalize i % 255 = I at *
    generalize j % 255 = J at *
    simp (maxSteps := 1000000) [row, fieldC_len, lay, e1, e2, p1, p2, p3, p4, p5, p6, z1, z2, n1, n2, hw, c1', c2']


theorem own : ownKnob Try.prog.godebug = none := by kernel_rfl
theorem laid : laidOutB Try.prog = true := by kernel_rfl

set_option maxRecDepth 100000 in
theorem lifted (os : Os) (started : os.Started) (H : Type) (enc : TypeId × Value → H) :
    ReturnsInHanded {} Try.checked os 7 .any (Rows.gfPowersSpec.pre6 enc Try.prog Try.f7 Rows.gfPowersRow.domain false) (Rows.gfPowersSpec.post enc Try.prog Try.f7 false true false false) := by
  refine returnsInHanded_of_change (C := Try.checked) own started (by kernel_rfl) Try.func7
    (ChangeSpec.witness6 (enc := enc) (C := Try.checked) false ⟨#[], #[.int .u8 0, .int .i64 0, .int .i64 0], []⟩ 8 (by kernel_rfl) (by kernel_rfl) (by kernel_rfl) (by kernel_rfl)) ?_
  intro W base args ds gs before hval0 hW hcnd _
  have hval : ∀ (j : Nat) t v, Try.f7.params.toList[j]? = some t → args.toList[j]? = some v → Value.okWide Try.prog W .any base t v := fun j t v h1 h2 => hval0 j t v (by simpa using h1) (by simpa using h2)
  have hW' := hW
  obtain ⟨p, q, hA0, hV, rfl, hfz, hnd⟩ := hW
  have hA : DataW.TrodAll enc Try.prog W 0 (fun _ => true) true Try.f7.params.toList args.toList ds p := hA0
  obtain ⟨rfl, rfl⟩ := trodVars_none hV
  have hlt : ∀ x ∈ p, x.block < W.heap.size := fun x hx => hW'.lt x (by simp [hx])
  have hps : Try.f7.params.toList = [5, 3, 3] := by rw [Try.params7]
  rw [hps] at hA hval
  obtain ⟨m, h, avs, x, g1, _, _, g2, g3⟩ := (good_as1 (good_byte Try.underlying5 (by kernel_rfl)) rfl (by kernel_rfl) (good_as1 (good_int Try.underlying3 (by kernel_rfl)) rfl (by kernel_rfl) (good_as1 (good_int Try.underlying3 (by kernel_rfl)) rfl (by kernel_rfl) good_as0))) H enc W base args.toList ds p hval hA _ _ (HRo.start W)
  obtain ⟨a0, a1, a2, _⟩ := x
  obtain ⟨_, _, rfl, e0, ⟨_, _, rfl, ⟨e1, w1⟩, ⟨_, _, rfl, ⟨e2, w2⟩, rfl⟩⟩⟩ := g3
  obtain rfl := (List.cons.inj e0).1
  obtain rfl := (List.cons.inj e1).1
  obtain rfl := (List.cons.inj e2).1
  have hcall := law_any mixed (k := 5000 + 10) Try.func7 (by kernel_rfl) runs_ok g1 g2 (law_run 5000 (by decide) h a0 a1 w1 a2 w2)
  refine hcall.mono fun e W' ⟨he, hg⟩ => ?_
  subst he
  simp only [List.append_nil] at hW' hA0 ⊢
  have hlen : ds.length = 3 := trodAll_len hA
  have hvars : (Rows.gfPowersSpec.fn H (ds ++ [])).vars = [] ∧ (Rows.gfPowersSpec.fn H (ds ++ [])).args = ds ∧ (Rows.gfPowersSpec.fn H (ds ++ [])).results = [.lit (.bool true)] := by
    rw [List.append_nil]
    match ds, hlen with
    | [d0, d1, d2], _ => exact ⟨rfl, rfl, rfl⟩
  obtain ⟨hv1, hv2, hv3⟩ := hvars
  refine ⟨_, rfl, law_post hW' rfl hg (fun _ _ _ => ?_) (fun sp hsp => ?_) hv1
    (ok_one (by kernel_rfl) rfl (okWide_bool_mk Try.underlying4 _))⟩
  · rw [hv3]
    exact (trodAll_cons_mk (shut_bool Try.underlying4 _) trodAll_mk0)
  · have hA1 := trodAll_below laid hg sp (ts := [5, 3, 3]) (by decide +kernel) hlt hsp hA
    rw [hv2, hps]
    exact hA1

theorem over : Rows.gfPowersRow.holds Try.pinned (OpenSpec.ofChange Rows.gfPowersSpec) :=
  OpenClaim.holds_of_wide 7 Try.f7 rfl rfl rfl rfl rfl rfl rfl ⟨rfl, rfl, rfl, rfl, rfl⟩ rfl rfl rfl rfl rfl (by kernel_rfl) Try.func7 (by kernel_rfl)
    (of_decide_eq_true (by kernel_rfl)) (by unfold Func.isWrapper; first | (rw [if_pos (by decide +kernel)]; kernel_rfl) | (rw [if_neg (by decide +kernel)]; exact ⟨rfl, rfl⟩))
    (fun os started H enc _ => lifted os started H enc)

/-- The statement. -/
theorem proved : Rows.GfPowersSaid :=
  over
#print axioms proved
end Go.Proofs.Ythcnehemnjongaa.cGfPowers
