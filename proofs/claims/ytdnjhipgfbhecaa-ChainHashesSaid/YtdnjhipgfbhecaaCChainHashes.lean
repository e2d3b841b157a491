/- The law ChainHashes returns true for every input, and its input reads behind the call as it did; no conditions. The kit's model is followed by an abstract machine that is shown to tell what the model does; the contracts of the functions are proved over that machine. -/
import Derived.Test.YtdnjhipgfbhecaaRows
import Derived.Test.YtdnjhipgfbhecaaRuns
import Derived.Test.YtdnjhipgfbhecaaShort
import Derived.Test.YtdnjhipgfbhecaaHash
import Derived.WalkKit
import Derived.ProofKit
import Derived.OpenShut
namespace Go.Proofs.Ytdnjhipgfbhecaa.cChainHashes
open Go Go.ChangeShapes Go.WideShapes Go.ChangeAt Go.RowKit Go.YtdnjhipgfbhecaaAbs
set_option linter.unusedSimpArgs false
set_option linter.unusedVariables false

set_option maxRecDepth 4000
theorem hash_snoc (l : List UInt8) (c : UInt8) : hash (l ++ [c]) = hstep (hash l) c := by
  unfold hash
  rw [List.foldl_append, List.foldl_cons, List.foldl_nil]
set_option maxHeartbeats 2000000 in
theorem law_run (k : Nat) (hk : 3000 < k) (h : Heap) (a0 : ByteArray) (w0 : a0.size ≤ maxLen) (a1 : UInt8) :
    ∃ v h', afuncT Try.prog [] (orRuns 3 (acall Try.prog (k + 10))) (k + 10) Try.f4 [.str a0, .int .u8 (a1.toNat : Nat)] h = some (v, h') ∧ v = .bool true := by
  refine afuncT_ex rfl (by simp [Try.f4]) ?_
  have e0 : acall Try.prog (k + 10) 14 [.str a0] h = _ := short_ok (k + 9) a0 h
  have hs := short_le a0
  generalize short a0 = s at e0 hs
  have e1 : acall Try.prog (k + 10) 12 [.str s] h = _ := hash_ok (k + 9) s (by omega) (by omega) h
  have hl := hash_lt s.data.toList
  generalize hH : hash s.data.toList = H at e1 hl
  have st := hstep_eq H a1 hl
  have c1 := aconv_bs (P := Try.prog) (src := 25) (dst := 9) (sl_new1 h a1 true) Try.underlying25 Try.underlying9 Try.underlying5
  obtain ⟨u, hu⟩ : ∃ u : ByteArray, u = ⟨⟨[a1]⟩⟩ := ⟨_, rfl⟩
  rw [← hu] at c1
  have us : u.size = 1 := by rw [hu]; rfl
  obtain ⟨X, hX⟩ : ∃ X : ByteArray, X = s ++ u := ⟨_, rfl⟩
  have hsz : X.size = s.size + 1 := by rw [hX, ByteArray.size_append, us]
  have hdata : X.data.toList = s.data.toList ++ [a1] := by rw [hX, hu]; simp
  have hh : hash X.data.toList = hstep H a1 := by rw [hdata, hash_snoc, hH]
  have hle : s.size + u.size ≤ 9223372036854775807 := by omega
  generalize hN : h.new (.cells [.int .u8 (a1.toNat : Nat)] false) = h2 at c1
  have e2 := hash_ok (k + 9) X (by omega) (by omega) h2
  generalize hash X.data.toList = Y at e2 hh
  have hYI : (Y : Int) = ((hstep H a1 : Nat) : Int) := by rw [hh]
  generalize hstep H a1 = T at st hYI
  clear hh hdata hH
  simp [Try.f4, e0, e1, fwrap_byte, aalloc, afill, AV.row1, AV.row, AV.one, st, hN, c1, hle, ← hX, e2, hYI]


theorem own : ownKnob Try.prog.godebug = none := by kernel_rfl
theorem laid : laidOutB Try.prog = true := by kernel_rfl

set_option maxRecDepth 100000 in
theorem lifted (os : Os) (started : os.Started) (H : Type) (enc : TypeId × Value → H) :
    ReturnsInHanded {} Try.checked os 4 .any (Rows.chainHashesSpec.pre6 enc Try.prog Try.f4 Rows.chainHashesRow.domain false) (Rows.chainHashesSpec.post enc Try.prog Try.f4 false true false false) := by
  refine returnsInHanded_of_change (C := Try.checked) own started (by kernel_rfl) Try.func4
    (ChangeSpec.witness6 (enc := enc) (C := Try.checked) false ⟨#[], #[.string ByteArray.empty, .int .u8 0], []⟩ 8 (by kernel_rfl) (by kernel_rfl) (by kernel_rfl) (by kernel_rfl)) ?_
  intro W base args ds gs before hval0 hW hcnd _
  have hval : ∀ (j : Nat) t v, Try.f4.params.toList[j]? = some t → args.toList[j]? = some v → Value.okWide Try.prog W .any base t v := fun j t v h1 h2 => hval0 j t v (by simpa using h1) (by simpa using h2)
  have hW' := hW
  obtain ⟨p, q, hA0, hV, rfl, hfz, hnd⟩ := hW
  have hA : DataW.TrodAll enc Try.prog W 0 (fun _ => true) true Try.f4.params.toList args.toList ds p := hA0
  obtain ⟨rfl, rfl⟩ := trodVars_none hV
  have hlt : ∀ x ∈ p, x.block < W.heap.size := fun x hx => hW'.lt x (by simp [hx])
  have hps : Try.f4.params.toList = [9, 5] := by rw [Try.params4]
  rw [hps] at hA hval
  obtain ⟨m, h, avs, x, g1, _, _, g2, g3⟩ := (good_as1 (good_str Try.underlying9 (by kernel_rfl)) rfl (by kernel_rfl) (good_as1 (good_byte Try.underlying5 (by kernel_rfl)) rfl (by kernel_rfl) good_as0)) H enc W base args.toList ds p hval hA _ _ (HRo.start W)
  obtain ⟨a0, a1, _⟩ := x
  obtain ⟨_, _, rfl, ⟨e0, w0⟩, ⟨_, _, rfl, e1, rfl⟩⟩ := g3
  obtain rfl := (List.cons.inj e0).1
  obtain rfl := (List.cons.inj e1).1
  have hcall := law_any mixed (k := 5000 + 10) Try.func4 (by kernel_rfl) runs_ok g1 g2 (law_run 5000 (by decide) h a0 w0 a1)
  refine hcall.mono fun e W' ⟨he, hg⟩ => ?_
  subst he
  simp only [List.append_nil] at hW' hA0 ⊢
  have hlen : ds.length = 2 := trodAll_len hA
  have hvars : (Rows.chainHashesSpec.fn H (ds ++ [])).vars = [] ∧ (Rows.chainHashesSpec.fn H (ds ++ [])).args = ds ∧ (Rows.chainHashesSpec.fn H (ds ++ [])).results = [.lit (.bool true)] := by
    rw [List.append_nil]
    match ds, hlen with
    | [d0, d1], _ => exact ⟨rfl, rfl, rfl⟩
  obtain ⟨hv1, hv2, hv3⟩ := hvars
  refine ⟨_, rfl, law_post hW' rfl hg (fun _ _ _ => ?_) (fun sp hsp => ?_) hv1
    (ok_one (by kernel_rfl) rfl (okWide_bool_mk Try.underlying4 _))⟩
  · rw [hv3]
    exact (trodAll_cons_mk (shut_bool Try.underlying4 _) trodAll_mk0)
  · have hA1 := trodAll_below laid hg sp (ts := [9, 5]) (by decide +kernel) hlt hsp hA
    rw [hv2, hps]
    exact hA1

theorem over : Rows.chainHashesRow.holds Try.pinned (OpenSpec.ofChange Rows.chainHashesSpec) :=
  OpenClaim.holds_of_wide 4 Try.f4 rfl rfl rfl rfl rfl rfl rfl ⟨rfl, rfl, rfl, rfl, rfl⟩ rfl rfl rfl rfl rfl (by kernel_rfl) Try.func4 (by kernel_rfl)
    (of_decide_eq_true (by kernel_rfl)) (by unfold Func.isWrapper; first | (rw [if_pos (by decide +kernel)]; kernel_rfl) | (rw [if_neg (by decide +kernel)]; exact ⟨rfl, rfl⟩))
    (fun os started H enc _ => lifted os started H enc)

/-- The statement. -/
theorem proved : Rows.ChainHashesSaid :=
  over
#print axioms proved
end Go.Proofs.Ytdnjhipgfbhecaa.cChainHashes
