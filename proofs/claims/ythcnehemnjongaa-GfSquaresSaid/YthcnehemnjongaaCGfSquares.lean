/- The law GfSquares returns true for every input, and its input reads behind the call as it did; no conditions. The kit's model is followed by an abstract machine that is shown to tell what the model does; the contracts of the functions are proved over that machine. -/
import Derived.Test.YthcnehemnjongaaRows
import Derived.Test.YthcnehemnjongaaRuns
import Derived.Test.YthcnehemnjongaaRefGf
import Derived.WalkKit
import Derived.ProofKit
import Derived.OpenShut
namespace Go.Proofs.Ythcnehemnjongaa.cGfSquares
open Go Go.ChangeShapes Go.WideShapes Go.ChangeAt Go.RowKit Go.YthcnehemnjongaaAbs
set_option linter.unusedSimpArgs false
set_option linter.unusedVariables false

set_option maxRecDepth 4000
def sqN (a : UInt8) : Nat → UInt8
  | 0 => a
  | n + 1 => gm (sqN a n) (sqN a n)
theorem sqN_pw (i : Nat) : ∀ n, sqN (UInt8.ofNat (pw i)) n = UInt8.ofNat (pw (i * 2 ^ n))
  | 0 => by rw [Nat.pow_zero, Nat.mul_one]; rfl
  | n + 1 => by
    show gm (sqN _ n) (sqN _ n) = _
    rw [sqN_pw i n]
    refine b_ext ?_
    rw [gm_toNat, ofNat_toNat (pw_lt _), ofNat_toNat (pw_lt _), pw_mul, Nat.pow_succ, ← Nat.mul_assoc, Nat.mul_two]
theorem sq8 (a : UInt8) : sqN a 8 = a := by
  by_cases h : a = 0
  · subst h; decide +kernel
  · have h' : a.toNat ≠ 0 := fun q => h (b_zero.2 q)
    have e : a = UInt8.ofNat (pw (lg a.toNat)) := b_ext (by rw [ofNat_toNat (pw_lt _), pw_lg _ (b_lt a) h'])
    rw [e, sqN_pw]
    congr 1
    rw [← pw_mod, ← pw_mod (lg _)]
    congr 1
    omega
theorem sq_xor (a b : UInt8) : gm (a ^^^ b) (a ^^^ b) = gm a a ^^^ gm b b := by
  rw [gm_xor, xor_gm, xor_gm, gm_comm b a, ← UInt8.xor_assoc, UInt8.xor_assoc (gm a a), UInt8.xor_self, UInt8.xor_zero]
theorem sq_ok (k : Nat) (h : Heap) (v : AV) (f : Fld h v) (x : UInt8) :
    acall Try.prog (k + 2) 22 [.int .u8 (x.toNat : Nat), v] h = some (.int .u8 ((gm x x).toNat : Nat), h) := by
  rw [acall_text [] Try.func22 (by kernel_rfl)]
  refine afuncT_of rfl (by simp [Try.f22]) ?_
  simp [Try.f22, mulB_ok k h v f x x]

set_option maxHeartbeats 2000000 in
theorem law_run (k : Nat) (hk : 3000 < k) (h : Heap) (a0 : UInt8) (a1 : UInt8) :
    ∃ v h', afuncT Try.prog [] (orRuns 3 (acall Try.prog (k + 10))) (k + 10) Try.f9 [.int .u8 (a0.toNat : Nat), .int .u8 (a1.toNat : Nat)] h = some (v, h') ∧ v = .bool true := by
  refine afuncT_ex rfl (by simp [Try.f9]) ?_
  simp [Try.f9]
  refine use (make_ok (k + 9) (by omega) h) ?_
  intro v h1 hh
  rw [hh.1]
  clear hh
  have row : (AV.agg fieldC).row1 = some fieldC := by simp [AV.row1, AV.row, fieldC_one]
  have lay : alay (h1.new (.cells zz25 false)) h1.next 0 fieldC = some (h1.new (.cells fieldC false)) := alay_new (by rw [fieldC_len, zz25_len])
  have f : Fld (h1.new (.cells fieldC false)) (.ptr h1.next 0) := ⟨_, _, _, _, rfl, Nat.lt_succ_self _, get_new_self _ _, fun j _ => by rw [Nat.zero_add]⟩
  generalize h1.new (.cells fieldC false) = h2 at lay f
  have S : ∀ x : UInt8, acall Try.prog (k + 10) 22 [.int .u8 (x.toNat : Nat), .ptr h1.next 0] h2 = some (.int .u8 ((gm x x).toNat : Nat), h2) := fun x => sq_ok (k + 8) h2 _ f x
  simp [row, fieldC_len, lay]
  refine W_cutLoop 0 (fun st => st.h = h2 ∧ st.t.get 0 = some (.int .u8 (a0.toNat : Nat)) ∧ st.t.get 1 = some (.int .u8 (a1.toNat : Nat)) ∧ st.t.get 6 = some (.fn 22 [.ptr h1.next 0]) ∧ st.t.get 7 = some (.int .u8 (a0.toNat : Nat))) ?_ ?_
  · refine W_loop (fun m st => ∃ j, m = 8 - j ∧ j ≤ 8 ∧ st.h = h2 ∧ st.t.get 0 = some (.int .u8 (a0.toNat : Nat)) ∧ st.t.get 1 = some (.int .u8 (a1.toNat : Nat)) ∧ st.t.get 6 = some (.fn 22 [.ptr h1.next 0]) ∧ st.t.get 7 = some (.int .u8 ((sqN a0 j).toNat : Nat)) ∧ st.t.get 8 = some (.int .i64 (j : Nat))) 8 (by omega) ⟨0, by simp [sqN]⟩ ?_
    rintro m ⟨t, h'⟩ ⟨j, rfl, hj, rfl, q0, q1, q6, q7, q8⟩
    simp only at q0 q1 q6 q7 q8
    by_cases hlt : j < 8
    · have hl := isLt (show (j : Int) < 8 by omega)
      have hs : gm (sqN a0 j) (sqN a0 j) = sqN a0 (j + 1) := rfl
      simp [q0, q1, q6, q7, q8, hl, S, hs, i64w ((j : Int) + 1) (by omega) (by omega)]
      exact ⟨8 - (j + 1), by omega, j + 1, by omega, by omega, rfl, by omega⟩
    · obtain rfl : j = 8 := by omega
      rw [sq8] at q7
      simp [q0, q1, q6, q7, q8]
  rintro ⟨t, h'⟩ ⟨rfl, q0, q1, q6, q7⟩
  simp only at q0 q1 q6 q7
  have E1 := b_same (sq_xor a0 a1)
  simp [q0, q1, q6, q7, S, xor_u8, E1, -UInt8.toNat_xor]


theorem own : ownKnob Try.prog.godebug = none := by kernel_rfl
theorem laid : laidOutB Try.prog = true := by kernel_rfl

set_option maxRecDepth 100000 in
theorem lifted (os : Os) (started : os.Started) (H : Type) (enc : TypeId × Value → H) :
    ReturnsInHanded {} Try.checked os 9 .any (Rows.gfSquaresSpec.pre6 enc Try.prog Try.f9 Rows.gfSquaresRow.domain false) (Rows.gfSquaresSpec.post enc Try.prog Try.f9 false true false false) := by
  refine returnsInHanded_of_change (C := Try.checked) own started (by kernel_rfl) Try.func9
    (ChangeSpec.witness6 (enc := enc) (C := Try.checked) false ⟨#[], #[.int .u8 0, .int .u8 0], []⟩ 8 (by kernel_rfl) (by kernel_rfl) (by kernel_rfl) (by kernel_rfl)) ?_
  intro W base args ds gs before hval0 hW hcnd _
  have hval : ∀ (j : Nat) t v, Try.f9.params.toList[j]? = some t → args.toList[j]? = some v → Value.okWide Try.prog W .any base t v := fun j t v h1 h2 => hval0 j t v (by simpa using h1) (by simpa using h2)
  have hW' := hW
  obtain ⟨p, q, hA0, hV, rfl, hfz, hnd⟩ := hW
  have hA : DataW.TrodAll enc Try.prog W 0 (fun _ => true) true Try.f9.params.toList args.toList ds p := hA0
  obtain ⟨rfl, rfl⟩ := trodVars_none hV
  have hlt : ∀ x ∈ p, x.block < W.heap.size := fun x hx => hW'.lt x (by simp [hx])
  have hps : Try.f9.params.toList = [5, 5] := by rw [Try.params9]
  rw [hps] at hA hval
  obtain ⟨m, h, avs, x, g1, _, _, g2, g3⟩ := (good_as1 (good_byte Try.underlying5 (by kernel_rfl)) rfl (by kernel_rfl) (good_as1 (good_byte Try.underlying5 (by kernel_rfl)) rfl (by kernel_rfl) good_as0)) H enc W base args.toList ds p hval hA _ _ (HRo.start W)
  obtain ⟨a0, a1, _⟩ := x
  obtain ⟨_, _, rfl, e0, ⟨_, _, rfl, e1, rfl⟩⟩ := g3
  obtain rfl := (List.cons.inj e0).1
  obtain rfl := (List.cons.inj e1).1
  have hcall := law_any mixed (k := 5000 + 10) Try.func9 (by kernel_rfl) runs_ok g1 g2 (law_run 5000 (by decide) h a0 a1)
  refine hcall.mono fun e W' ⟨he, hg⟩ => ?_
  subst he
  simp only [List.append_nil] at hW' hA0 ⊢
  have hlen : ds.length = 2 := trodAll_len hA
  have hvars : (Rows.gfSquaresSpec.fn H (ds ++ [])).vars = [] ∧ (Rows.gfSquaresSpec.fn H (ds ++ [])).args = ds ∧ (Rows.gfSquaresSpec.fn H (ds ++ [])).results = [.lit (.bool true)] := by
    rw [List.append_nil]
    match ds, hlen with
    | [d0, d1], _ => exact ⟨rfl, rfl, rfl⟩
  obtain ⟨hv1, hv2, hv3⟩ := hvars
  refine ⟨_, rfl, law_post hW' rfl hg (fun _ _ _ => ?_) (fun sp hsp => ?_) hv1
    (ok_one (by kernel_rfl) rfl (okWide_bool_mk Try.underlying4 _))⟩
  · rw [hv3]
    exact (trodAll_cons_mk (shut_bool Try.underlying4 _) trodAll_mk0)
  · have hA1 := trodAll_below laid hg sp (ts := [5, 5]) (by decide +kernel) hlt hsp hA
    rw [hv2, hps]
    exact hA1

theorem over : Rows.gfSquaresRow.holds Try.pinned (OpenSpec.ofChange Rows.gfSquaresSpec) :=
  OpenClaim.holds_of_wide 9 Try.f9 rfl rfl rfl rfl rfl rfl rfl ⟨rfl, rfl, rfl, rfl, rfl⟩ rfl rfl rfl rfl rfl (by kernel_rfl) Try.func9 (by kernel_rfl)
    (of_decide_eq_true (by kernel_rfl)) (by unfold Func.isWrapper; first | (rw [if_pos (by decide +kernel)]; kernel_rfl) | (rw [if_neg (by decide +kernel)]; exact ⟨rfl, rfl⟩))
    (fun os started H enc _ => lifted os started H enc)

/-- The statement. -/
theorem proved : Rows.GfSquaresSaid :=
  over
#print axioms proved
end Go.Proofs.Ythcnehemnjongaa.cGfSquares
