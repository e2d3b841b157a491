/- The law PlaceTells returns true for every input, and its input reads behind the call as it did; no conditions. The kit's model is followed by an abstract machine that is shown to tell what the model does; the contracts of the functions are proved over that machine. -/
import Derived.Test.YtddlhjhjaggppaaRows
import Derived.Test.YtddlhjhjaggppaaRuns16
import Derived.Test.YtddlhjhjaggppaaPlace
import Derived.WalkKit
import Derived.ProofKit
import Derived.OpenShut
namespace Go.Proofs.Ytddlhjhjaggppaa.cPlaceTells
open Go Go.ChangeShapes Go.WideShapes Go.ChangeAt Go.RowKit Go.YtddlhjhjaggppaaAbs

def lastF (l : List Int) (x : Int) : Nat → Int
  | 0 => -1
  | j + 1 => if l[j]? = some x then (j : Int) else lastF l x j
theorem lastF_spec (l : List Int) (x : Int) : ∀ n, ((∀ j, j < n → l[j]? ≠ some x) ∧ lastF l x n = -1) ∨ ∃ j, j < n ∧ l[j]? = some x ∧ lastF l x n = (j : Nat)
  | 0 => .inl ⟨fun j hj => absurd hj (Nat.not_lt_zero _), rfl⟩
  | n + 1 => by
    simp only [lastF]
    by_cases hx : l[n]? = some x
    · exact .inr ⟨n, Nat.lt_succ_self _, hx, if_pos hx⟩
    · rw [if_neg hx]
      rcases lastF_spec l x n with ⟨h1, h2⟩ | ⟨j, h1, h2, h3⟩
      · refine .inl ⟨fun j hj => ?_, h2⟩
        rcases Nat.lt_succ_iff_lt_or_eq.1 hj with q | rfl
        · exact h1 j q
        · exact hx
      · exact .inr ⟨j, Nat.lt_succ_of_lt h1, h2, h3⟩
theorem posF_spec (x : Int) : ∀ (l : List Int) (i : Nat), ((∀ j : Nat, l[j]? ≠ some x) ∧ posF l x i = -1) ∨ ∃ j : Nat, l[j]? = some x ∧ posF l x i = ((i + j : Nat) : Int)
  | [], i => .inl ⟨fun j => by simp, rfl⟩
  | y :: l, i => by
    simp only [posF]
    by_cases hy : y = x
    · exact .inr ⟨0, by simp [hy], by rw [if_pos hy]; rfl⟩
    · rw [if_neg hy]
      rcases posF_spec x l (i + 1) with ⟨h1, h2⟩ | ⟨j, h1, h2⟩
      · refine .inl ⟨fun j => ?_, h2⟩
        cases j with
        | zero => simpa using hy
        | succ j => simpa using h1 j
      · exact .inr ⟨j + 1, by simpa using h1, by rw [h2]; congr 1; omega⟩
theorem stripe_get {f n s j : Nat} {x : Int} (h : (stripe f n s)[j]? = some x) : j < n ∧ x = (((f + j) % s : Nat) : Int) := by
  simp only [stripe, List.getElem?_map] at h
  by_cases hj : j < n
  · rw [List.getElem?_range hj] at h
    exact ⟨hj, (Option.some.inj h).symm⟩
  · rw [List.getElem?_eq_none (by simp; omega)] at h
    cases h
theorem mod_inj {f s i j : Nat} (hi : i < s) (hj : j < s) (h : (f + i) % s = (f + j) % s) : i = j := by
  have h1 := Nat.sub_mod_eq_zero_of_mod_eq h
  have h2 := Nat.sub_mod_eq_zero_of_mod_eq h.symm
  rw [Nat.mod_eq_of_lt (by omega)] at h1 h2
  omega
theorem stripeL_len (key : List UInt8) (n s : Int) : (stripeL key n s).length ≤ 12 := by
  unfold stripeL
  split
  · rw [stripe_len]; omega
  · simp
theorem stripeL_inj {key : List UInt8} {n s : Int} {i j : Nat} {x : Int} (h1 : (stripeL key n s)[i]? = some x) (h2 : (stripeL key n s)[j]? = some x) : i = j := by
  unfold stripeL at h1 h2
  split at h1
  · rename_i hok
    rw [if_pos hok] at h2
    obtain ⟨a1, a2⟩ := stripe_get h1
    obtain ⟨b1, b2⟩ := stripe_get h2
    exact mod_inj (by omega) (by omega) (Int.ofNat.inj (a2.symm.trans b2))
  · simp at h1
theorem pos_last (key : List UInt8) (n s x : Int) : posF (stripeL key n s) x 0 = lastF (stripeL key n s) x (stripeL key n s).length := by
  rcases posF_spec x (stripeL key n s) 0 with ⟨h1, h2⟩ | ⟨j, h1, h2⟩
  · rcases lastF_spec (stripeL key n s) x (stripeL key n s).length with ⟨g1, g2⟩ | ⟨i, g0, g1, g2⟩
    · rw [h2, g2]
    · exact absurd g1 (h1 i)
  · rcases lastF_spec (stripeL key n s) x (stripeL key n s).length with ⟨g1, g2⟩ | ⟨i, g0, g1, g2⟩
    · exact absurd h1 (g1 j (List.getElem?_eq_some_iff.1 h1).1)
    · have := stripeL_inj h1 g1
      subst this
      rw [h2, g2]
      simp

set_option maxHeartbeats 1000000 in
theorem law_run (k : Nat) (hk : 3000 < k) (h : Heap) (a0 : ByteArray) (w0 : a0.size ≤ maxLen) (a1 : Int) (w1 : (Lit.int .i64 a1).wf = true) (a2 : Int) (w2 : (Lit.int .i64 a2).wf = true) (a3 : Int) (w3 : (Lit.int .i64 a3).wf = true) (a4 : Int) (w4 : (Lit.int .i64 a4).wf = true) :
    ∃ v h', afuncT Try.prog [] (orRuns 3 (acall Try.prog (k + 10))) (k + 10) Try.f4 [.str a0, .int .i64 a1, .int .i64 a2, .int .i64 a3, .int .i64 a4] h = some (v, h') ∧ v = .bool true := by
  refine afuncT_ex rfl (by simp [Try.f4]) ?_
  simp [Try.f4, -W_cond]
  refine W_mono (Q := fun e s => e = .normal ∧ s.h = h ∧ s.t.get 1 = some (.int .i64 a1) ∧ s.t.get 2 = some (.int .i64 a2) ∧ s.t.get 3 = some (.int .i64 a3) ∧ s.t.get 4 = some (.int .i64 a4) ∧
    ∃ key : ByteArray, key.size ≤ 500 ∧ s.t.get 0 = some (.str key)) ?_ ?_
  · by_cases hbig : (a0.size : Int) ≤ 500
    · simp [hbig]
      omega
    · simp [hbig, aslice_strTo Try.underlying9 (s := a0) (k := .i64) (n := 500) (by omega) (by omega)]
      omega
  rintro e ⟨t, h0⟩ ⟨rfl, rfl, q1, q2, q3, q4, key, hkey, q0⟩
  simp only at q0 q1 q2 q3 q4
  simp [q0, q1, q3]
  refine use (rstripe_ok (k + 8) key (by omega) (by omega) a1 a3 h0) ?_
  rintro v h1 ⟨hv, k1⟩
  simp
  generalize hL : stripeL key.data.toList a1 a3 = L at hv
  have hL12 : L.length ≤ 12 := by
    rw [← hL]; unfold stripeL
    split
    · rw [stripe_len]; omega
    · simp
  have hsl := hv.sl
  refine W_cutLoop 0 (fun st => st.h = h1 ∧ st.t.get 0 = some (.str key) ∧ st.t.get 1 = some (.int .i64 a1) ∧ st.t.get 2 = some (.int .i64 a2) ∧ st.t.get 3 = some (.int .i64 a3) ∧ st.t.get 4 = some (.int .i64 a4) ∧
    st.t.get 11 = some v ∧ st.t.get 12 = some (.int .i64 (lastF L a4 L.length))) ?_ ?_
  refine W_loop (fun m st => ∃ j, m = L.length - j ∧ j ≤ L.length ∧ st.h = h1 ∧ st.t.get 0 = some (.str key) ∧ st.t.get 1 = some (.int .i64 a1) ∧ st.t.get 2 = some (.int .i64 a2) ∧ st.t.get 3 = some (.int .i64 a3) ∧ st.t.get 4 = some (.int .i64 a4) ∧
    st.t.get 11 = some v ∧ st.t.get 13 = some (.int .i64 (j : Nat)) ∧ st.t.get 12 = some (.int .i64 (lastF L a4 j))) L.length (by omega) ⟨0, by simp [q0, q1, q2, q3, q4, lastF]⟩ ?_
  rintro m ⟨t, h2⟩ ⟨j, rfl, hj, rfl, q0, q1, q2, q3, q4, q11, q13, q12⟩
  simp only at q0 q1 q2 q3 q4 q11 q13 q12 hsl hv k1
  by_cases hlt : j < L.length
  · obtain ⟨x, hx⟩ := get_of hlt
    obtain ⟨b, i, c, o, b1, b2, b3⟩ := hsl.at1 (P := Try.prog) (ty := 22) (e := 3) (k := .i64) Try.underlying22 ts3 (iv_get hx)
    have hst : lastF L a4 (j + 1) = if x = a4 then (j : Int) else lastF L a4 j := by
      show (if L[j]? = some a4 then (j : Int) else lastF L a4 j) = _
      rw [hx]
      simp
    by_cases hxs : x = a4
    · simp [q0, q1, q2, q3, q4, q11, q13, q12, hsl.len', hlt, b1, aload, Heap.row, b2, b3, iv, hxs, i64w ((j : Int) + 1) (by omega) (by omega), Nat.not_le.2 hlt]
      refine ⟨L.length - (j + 1), by omega, j + 1, rfl, by omega, by simp, ?_⟩
      rw [hst, if_pos hxs]
    · simp [q0, q1, q2, q3, q4, q11, q13, q12, hsl.len', hlt, b1, aload, Heap.row, b2, b3, iv, hxs, i64w ((j : Int) + 1) (by omega) (by omega), Nat.not_le.2 hlt]
      refine ⟨L.length - (j + 1), by omega, j + 1, rfl, by omega, by simp, ?_⟩
      rw [hst, if_neg hxs]
  · have : j = L.length := by omega
    subst this
    simp [q0, q1, q2, q3, q4, q11, q13, q12, hsl.len']
  rintro ⟨t, h2⟩ ⟨rfl, q0, q1, q2, q3, q4, q11, q12⟩
  simp only at q0 q1 q2 q3 q4 q11 q12 hsl k1
  simp [-W_seq]
  rw [W_seq]
  simp [-W_seq]
  refine W_cut (fun s => s.t.get 0 = some (.str key) ∧ s.t.get 1 = some (.int .i64 a1) ∧ s.t.get 2 = some (.int .i64 a2) ∧ s.t.get 3 = some (.int .i64 a3) ∧ s.t.get 4 = some (.int .i64 a4) ∧
    s.t.get 11 = some v ∧ s.t.get 12 = some (.int .i64 (lastF L a4 L.length)) ∧ Keep h2.next nob h2 s.h ∧ ∃ v', s.t.get 14 = some v' ∧ Sl 1 (if 0 ≤ a2 ∧ a2 ≤ 100 then stripeL key.data.toList (a2 + 1) a3 else []).length s.h v' ((if 0 ≤ a2 ∧ a2 ≤ 100 then stripeL key.data.toList (a2 + 1) a3 else []).map iv)) ?_ ?_
  · by_cases c1 : 0 ≤ a2
    · by_cases c2 : a2 ≤ 100
      · simp [c1, c2, q0, q2, q3, i64w (a2 + 1) (by omega) (by omega)]
        refine use (rstripe_ok (k + 8) key (by omega) (by omega) (a2 + 1) a3 h2) ?_
        rintro v' h3 ⟨hv', k3⟩
        simp [q0, q1, q2, q3, q4, q11, q12, k3]
        rw [if_pos ⟨c1, c2⟩]
        exact hv'.sl
      · simp [c1, c2, q0, q1, q2, q3, q4, q11, q12, Keep.refl, Sl]
    · simp [c1, q0, q1, q2, q3, q4, q11, q12, Keep.refl, Sl]
  rintro ⟨t, h3⟩ ⟨q0, q1, q2, q3, q4, q11, q12, k3, v', q14, s14⟩
  simp only at q0 q1 q2 q3 q4 q11 q12 q14 k3 s14
  simp [q0, q1, q3]
  refine use (stripe_ok (k + 8) key (by omega) (by omega) a1 a3 h3) ?_
  rintro v4 h4 ⟨hv4, k4⟩
  have sl11 := (hsl.ext k3).ext k4
  rw [hL] at hv4
  have e1 : acall Try.prog (k + 10) 11 [v4, v] h4 = _ := same_ok (k + 9) L L v4 v h4 hv4.sl sl11 (by omega) (by omega)
  simp [q0, q1, q3, q4, q11, e1]
  refine use (pos_ok (k + 7) key (by omega) (by omega) a1 a3 a4 h4) ?_
  rintro _ h5 ⟨rfl, k5⟩
  have e2 : posF (stripeL key.data.toList a1 a3) a4 0 = lastF L a4 L.length := by rw [pos_last, hL]
  rw [e2]
  by_cases c2 : a2 ≤ 100
  · simp [q0, q2, q3, q12, c2]
    refine use (metas_ok (k + 7) key (by omega) (by omega) a2 a3 h5 (by simp [Lit.wf, IntKind.min, IntKind.max, IntKind.signed, IntKind.bits] at w3; omega)) ?_
    intro v6 h6 hh6
    have hv6 := hh6.1
    have k6 := hh6.2
    clear hh6
    have key_len : (if 0 ≤ a2 then stripeL key.data.toList (a2 + 1) a3 else []).length ≤ 12 := by
      split
      · exact stripeL_len _ _ _
      · simp
    have s6 := ((s14.ext k4).ext k5).ext k6
    have hc : (0 ≤ a2 ∧ a2 ≤ 100) = (0 ≤ a2) := by simp [c2]
    simp only [hc] at s6
    have e3 : acall Try.prog (k + 10) 11 [v6, v'] h6 = _ := same_ok (k + 9) _ _ v6 v' h6 hv6.sl s6 (by have := key_len; omega) (by have := key_len; omega)
    simp [q14, e3]
  · simp [q0, q2, q3, q12, c2]


theorem own : ownKnob Try.prog.godebug = none := by kernel_rfl
theorem laid : laidOutB Try.prog = true := by kernel_rfl

set_option maxRecDepth 100000 in
theorem lifted (os : Os) (started : os.Started) (H : Type) (enc : TypeId × Value → H) :
    ReturnsInHanded {} Try.checked os 4 .any (Rows.placeTellsSpec.pre6 enc Try.prog Try.f4 Rows.placeTellsRow.domain false) (Rows.placeTellsSpec.post enc Try.prog Try.f4 false true false false) := by
  refine returnsInHanded_of_change (C := Try.checked) own started (by kernel_rfl) Try.func4
    (ChangeSpec.witness6 (enc := enc) (C := Try.checked) false ⟨#[], #[.string ByteArray.empty, .int .i64 0, .int .i64 0, .int .i64 0, .int .i64 0], []⟩ 8 (by kernel_rfl) (by kernel_rfl) (by kernel_rfl) (by kernel_rfl)) ?_
  intro W base args ds gs before hval0 hW hcnd _
  have hval : ∀ (j : Nat) t v, Try.f4.params.toList[j]? = some t → args.toList[j]? = some v → Value.okWide Try.prog W .any base t v := fun j t v h1 h2 => hval0 j t v (by simpa using h1) (by simpa using h2)
  have hW' := hW
  obtain ⟨p, q, hA0, hV, rfl, hfz, hnd⟩ := hW
  have hA : DataW.TrodAll enc Try.prog W 0 (fun _ => true) true Try.f4.params.toList args.toList ds p := hA0
  obtain ⟨rfl, rfl⟩ := trodVars_none hV
  have hlt : ∀ x ∈ p, x.block < W.heap.size := fun x hx => hW'.lt x (by simp [hx])
  have hps : Try.f4.params.toList = [9, 3, 3, 3, 3] := by rw [Try.params4]
  rw [hps] at hA hval
  obtain ⟨m, h, avs, x, g1, _, _, g2, g3⟩ := (good_as1 (good_str Try.underlying9 (by kernel_rfl)) rfl (by kernel_rfl) (good_as1 (good_int Try.underlying3 (by kernel_rfl)) rfl (by kernel_rfl) (good_as1 (good_int Try.underlying3 (by kernel_rfl)) rfl (by kernel_rfl) (good_as1 (good_int Try.underlying3 (by kernel_rfl)) rfl (by kernel_rfl) (good_as1 (good_int Try.underlying3 (by kernel_rfl)) rfl (by kernel_rfl) good_as0))))) H enc W base args.toList ds p hval hA _ _ (HRo.start W)
  obtain ⟨a0, a1, a2, a3, a4, _⟩ := x
  obtain ⟨_, _, rfl, ⟨e0, w0⟩, ⟨_, _, rfl, ⟨e1, w1⟩, ⟨_, _, rfl, ⟨e2, w2⟩, ⟨_, _, rfl, ⟨e3, w3⟩, ⟨_, _, rfl, ⟨e4, w4⟩, rfl⟩⟩⟩⟩⟩ := g3
  obtain rfl := (List.cons.inj e0).1
  obtain rfl := (List.cons.inj e1).1
  obtain rfl := (List.cons.inj e2).1
  obtain rfl := (List.cons.inj e3).1
  obtain rfl := (List.cons.inj e4).1
  have hcall := law_any mixed (k := 5000 + 10) Try.func4 (by kernel_rfl) runs_ok g1 g2 (law_run 5000 (by decide) h a0 w0 a1 w1 a2 w2 a3 w3 a4 w4)
  refine hcall.mono fun e W' ⟨he, hg⟩ => ?_
  subst he
  simp only [List.append_nil] at hW' hA0 ⊢
  have hlen : ds.length = 5 := trodAll_len hA
  have hvars : (Rows.placeTellsSpec.fn H (ds ++ [])).vars = [] ∧ (Rows.placeTellsSpec.fn H (ds ++ [])).args = ds ∧ (Rows.placeTellsSpec.fn H (ds ++ [])).results = [.lit (.bool true)] := by
    rw [List.append_nil]
    match ds, hlen with
    | [d0, d1, d2, d3, d4], _ => exact ⟨rfl, rfl, rfl⟩
  obtain ⟨hv1, hv2, hv3⟩ := hvars
  refine ⟨_, rfl, law_post hW' rfl hg (fun _ _ _ => ?_) (fun sp hsp => ?_) hv1
    (ok_one (by kernel_rfl) rfl (okWide_bool_mk Try.underlying4 _))⟩
  · rw [hv3]
    exact (trodAll_cons_mk (shut_bool Try.underlying4 _) trodAll_mk0)
  · have hA1 := trodAll_below laid hg sp (ts := [9, 3, 3, 3, 3]) (by decide +kernel) hlt hsp hA
    rw [hv2, hps]
    exact hA1

theorem over : Rows.placeTellsRow.holds Try.pinned (OpenSpec.ofChange Rows.placeTellsSpec) :=
  OpenClaim.holds_of_wide 4 Try.f4 rfl rfl rfl rfl rfl rfl rfl ⟨rfl, rfl, rfl, rfl, rfl⟩ rfl rfl rfl rfl rfl (by kernel_rfl) Try.func4 (by kernel_rfl)
    (of_decide_eq_true (by kernel_rfl)) (by unfold Func.isWrapper; first | (rw [if_pos (by decide +kernel)]; kernel_rfl) | (rw [if_neg (by decide +kernel)]; exact ⟨rfl, rfl⟩))
    (fun os started H enc _ => lifted os started H enc)

/-- The statement. -/
theorem proved : Rows.PlaceTellsSaid :=
  over
#print axioms proved
end Go.Proofs.Ytddlhjhjaggppaa.cPlaceTells
