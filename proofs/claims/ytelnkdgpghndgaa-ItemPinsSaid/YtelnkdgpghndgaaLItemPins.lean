/- The law ItemPins returns true for every input, and its input reads behind the call as it did; no conditions. The kit's model is followed by an abstract machine that is shown to tell what the model does; the contracts of the functions are proved over that machine. -/
import Derived.Test.YtelnkdgpghndgaaRows
import Derived.Test.YtelnkdgpghndgaaItemPinsA
import Derived.Test.YtelnkdgpghndgaaItemPinsB
import Derived.WalkKit
import Derived.ProofKit
import Derived.OpenShut
import Derived.JoinedCond
namespace Go.Proofs.Ytelnkdgpghndgaa.cItemPins
open Go Go.ChangeShapes Go.WideShapes Go.ChangeAt Go.RowKit Go.YtelnkdgpghndgaaAbs
set_option linter.unusedSimpArgs false
set_option linter.unusedVariables false

set_option maxRecDepth 4000
def keysA (n : Nat) : List ByteArray := ((List.range n).map keyA).reverse
theorem keysA_succ (n : Nat) : keysA (n + 1) = keyA n :: keysA n := by
  unfold keysA
  rw [List.range_succ, List.map_append, List.reverse_append]
  rfl
theorem keysA_mem {n : Nat} {k : ByteArray} (h : k ∈ keysA n) : ∃ i, i < n ∧ k = keyA i := by
  unfold keysA at h
  rw [List.mem_reverse] at h
  obtain ⟨i, hi, rfl⟩ := List.mem_map.1 h
  exact ⟨i, List.mem_range.1 hi, rfl⟩
theorem no_key {L : List Itm} {n j : Nat} (h : L.map (·.key) = keysA n) (hn : n ≤ 50) (hj : n ≤ j) (hj2 : j < 100) : findK (keyA j) L = none := by
  refine findK_none.2 fun y hy e => ?_
  have : y.key ∈ keysA n := by rw [← h]; exact List.mem_map.2 ⟨y, hy, rfl⟩
  obtain ⟨i, hi, hk⟩ := keysA_mem this
  have := keyA_inj (i := j) (j := i) hj2 (by omega) (by rw [← e, hk])
  omega
/-- What holds while the first ones are put. -/
def PiInv (n : Nat) (h : Heap) (b : Nat) (a1 : Int) (m : Nat) (st : St) : Prop :=
  ∃ (i : Nat) (z : Sto), m = n - i ∧ i ≤ n ∧ st.t.get 1 = some (.int .i64 a1) ∧ st.t.get 5 = some (.int .i64 (n : Nat)) ∧ st.t.get 6 = some (.ptr b 0) ∧ st.t.get 8 = some (.int .i64 (i : Nat)) ∧
    Wd h st.h (z.th b) ∧ StI n 64 z ∧ One z.s ∧ z.L.map (·.key) = keysA i ∧ ∀ y, y ∈ z.L → y.pin = true
set_option maxHeartbeats 4000000 in
theorem law_run (k : Nat) (hk : 500000 < k) (h : Heap) (a0 : Int) (w0 : (Lit.int .i64 a0).wf = true) (a1 : Int) (w1 : (Lit.int .i64 a1).wf = true) :
    ∃ v h', afuncT Try.prog [] (orRuns 3 (acall Try.prog (k + 10))) (k + 10) Try.f6 [.int .i64 a0, .int .i64 a1] h = some (v, h') ∧ v = .bool true := by
  obtain ⟨n, En, n1, n2⟩ := within_n (k + 9) a0 1 12 (by omega) (by omega) (by omega) h
  obtain ⟨b, z0, h1, E1, W1, I1, L1, _, _, cls, hs1, F1, c1, c2, c3⟩ := inew_ok (k + 8) (by omega) h n 64 (by omega) (by omega) (by omega) (by omega)
  have E1 : acall Try.prog (k + 10) 8 [.int .i64 (n : Nat), .int .i64 64] h = some (.tup [.ptr b 0, .int .i64 0], h1) := E1
  have one1 : One z0.s := by
    have hl : cls.length = 1 := by
      have : ¬ 2 ≤ cls.length := fun q => by
        have : 2 ^ 1 ≤ 2 ^ (cls.length - 1) := Nat.pow_le_pow_right (by omega) (by omega)
        omega
      omega
    obtain ⟨c, hc⟩ : ∃ c, cls = [c] := by
      match cls, hl with
      | [c], _ => exact ⟨c, rfl⟩
    unfold One
    rw [hs1, hc]
    have := (F1 0 c (by rw [hc]; rfl)).1
    simpa using this
  have ae : aeql Try.prog 22 (.ptr b 0) .nilp = some false := by rfl
  have sx : (⟨#[120]⟩ : ByteArray).size = 1 := rfl
  refine afuncT_ex rfl (by simp [Try.f6]) ?_
  simp [Try.f6, En, E1, ae]
  refine W_cutLoop 0 (fun st => PiInv n h b a1 0 st) ?_ ?_
  · refine W_loop (PiInv n h b a1) n (by omega) ?_ ?_
    · unfold PiInv
      exact ⟨0, z0, rfl, Nat.zero_le _, by simp, by simp, by simp, by simp, W1, I1, one1, by rw [L1]; rfl, fun y hy => by rw [L1] at hy; cases hy⟩
    rintro m ⟨t, h2⟩ hP
    unfold PiInv at hP
    obtain ⟨i, z, rfl, hi, q1, q5, q6, q8, W2, I2, o2, hL, hp⟩ := hP
    simp only at q1 q5 q6 q8 W2
    have hlen : z.L.length = i := by
      have := congrArg List.length hL
      simpa [keysA] using this
    by_cases hlt : i < n
    case neg =>
      have e : i = n := by omega
      simp [q1, q5, q6, q8, isLe (show (n : Int) ≤ (i : Int) by omega)]
      unfold PiInv
      exact ⟨i, z, by omega, hi, by simp [q1], by simp [q5], by simp [q6], by simp [q8], W2, I2, o2, hL, hp⟩
    obtain ⟨x, fx, cv⟩ := keyA_conv h2 i (by omega) true
    have W3 := W2.ext (Keep.new (Nat.le_refl _) (.cells [.int .u8 (x.toNat : Nat)] false))
    obtain ⟨h3, e3⟩ : ∃ h3, h2.new (.cells [.int .u8 (x.toNat : Nat)] false) = h3 := ⟨_, rfl⟩
    rw [e3] at W3 cv
    obtain ⟨z4, w, wv, er, h4, E4, S4, I4, P4⟩ := iput_ok I2 (k + 4) (by omega) W3.own (keyA i) ⟨#[120]⟩ (by rw [keyA_size]; omega) (by rw [sx]; omega) true
    have W4 := (W3.stp S4).drop
    have o4 : One z4.s := by unfold One; rw [P4.sizes]; exact o2
    rcases one_put I2 o2 (by rw [ByteArray.size_append, keyA_size, sx]; omega) (no_key hL (by omega) (Nat.le_refl _) (by omega)) P4 with ⟨_, rfl, rfl, ci, K, i', hL4⟩ | ⟨q, _⟩ | ⟨q, _⟩
    · have w97 : fwrap .i64 (97 + (i : Int)) = 97 + (i : Int) := i64w _ (by omega) (by omega)
      simp [q1, q5, q6, q8, isLt (show (i : Int) < (n : Int) by omega), w97, fx, aalloc, afill, e3, cv, E4, i64w ((i : Int) + 1) (by omega) (by omega)]
      refine ⟨n - (i + 1), by omega, ?_⟩
      unfold PiInv
      refine ⟨i + 1, z4, rfl, by omega, by simp [q1], by simp [q5], by simp [q6], by simp, W4, I4, o4, by rw [hL4, List.map_cons, hL, keysA_succ], fun y hy => ?_⟩
      rw [hL4] at hy
      rcases List.mem_cons.1 hy with q | q
      · rw [q]
      · exact hp y q
    · omega
    · omega
  rintro ⟨t, h2⟩ hP
  unfold PiInv at hP
  obtain ⟨i, z, e, hi, q1, q5, q6, q8, W2, I2, o2, hL, hp⟩ := hP
  simp only at q1 q5 q6 q8 W2
  have e : i = n := by omega
  subst e
  have hlen : z.L.length = i := by
    have := congrArg List.length hL
    simpa [keysA] using this
  have allp : ∀ L : List Itm, (∀ y, y ∈ L → y.pin = true) → oldI 0 L = none := fun L hq => oldI_none fun y hy q => by rw [hq y hy] at q; exact absurd q.1 (by simp)
  -- y
  obtain ⟨z3, w3, wv3, er3, h3, E3, S3, I3, P3⟩ := iput_ok I2 (k + 4) (by omega) W2.own (keyA 24) ⟨#[120]⟩ (by rw [keyA_size]; omega) (by rw [sx]; omega) true
  have W3 := (W2.stp S3).drop
  have o3 : One z3.s := by unfold One; rw [P3.sizes]; exact o2
  obtain ⟨e3, hL3⟩ : er3 = 6 ∧ z3.L = z.L := by
    rcases one_put I2 o2 (by rw [ByteArray.size_append, keyA_size, sx]; omega) (no_key hL (by omega) (by omega) (by omega)) P3 with ⟨q, _⟩ | ⟨_, _, e, _, q⟩ | ⟨_, A, B, y, hq, ho, _⟩
    · omega
    · exact ⟨e, q⟩
    · rw [allp _ hp] at ho; cases ho
  subst e3
  obtain ⟨j, Ej, j1, j2⟩ := within_n (k + 9) a1 0 ((i : Int) - 1) (by omega) (by omega) (by omega) h3
  have wi : fwrap .i64 ((i : Int) - 1) = (i : Int) - 1 := i64w _ (by omega) (by omega)
  have hj : j < i := by omega
  obtain ⟨x, fx, cv⟩ := keyA_conv h3 j (by omega) true
  have w97 : fwrap .i64 (97 + (j : Int)) = 97 + (j : Int) := i64w _ (by omega) (by omega)
  have W4 := W3.ext (Keep.new (Nat.le_refl _) (.cells [.int .u8 (x.toNat : Nat)] false))
  obtain ⟨h4, e4⟩ : ∃ h4, h3.new (.cells [.int .u8 (x.toNat : Nat)] false) = h4 := ⟨_, rfl⟩
  rw [e4] at W4 cv
  -- let one go
  obtain ⟨z5, h5, E5, S5, I5, P5, es5⟩ := ipin_ok I3 (k + 6) (by omega) W4.own (keyA j) (by rw [keyA_size]; omega) false
  have W5 := W4.stp S5
  have o5 : One z5.s := by rw [es5]; exact o3
  have hjm : keyA j ∈ keysA i := by
    unfold keysA
    rw [List.mem_reverse]
    exact List.mem_map.2 ⟨j, List.mem_range.2 hj, rfl⟩
  obtain ⟨A, B, y, hA, hy, hL5⟩ : ∃ A B y, z3.L = A ++ y :: B ∧ y.key = keyA j ∧ z5.L = A ++ { y with pin := false } :: B := by
    generalize hx : z3.L = X at P5
    generalize hx2 : z5.L = Y at P5
    cases P5 with
    | no hno =>
      rw [← hx, hL3] at hno
      rw [← hL] at hjm
      obtain ⟨y, hy, e⟩ := List.mem_map.1 hjm
      exact absurd e (findK_none.1 hno y hy)
    | yes hk => exact ⟨_, _, _, rfl, hk, rfl⟩
  have fk5 : (findK (keyA j) z3.L).isSome = true := by
    rw [hA, ← hy, findK_at (by rw [← hA]; exact I3.nd)]
    rfl
  rw [fk5] at E5
  have hpA : ∀ v, v ∈ A ++ B → v.pin = true := fun v hv => hp v (by
    rw [← hL3, hA]
    rcases List.mem_append.1 hv with q | q
    · simp [q]
    · simp [q])
  have old5 : oldI 0 z5.L = some { y with pin := false } := by
    rw [hL5]
    refine oldI_some rfl ?_ fun v hv q => ?_
    · exact one_ci I5 o5 (y := { y with pin := false }) (by rw [hL5]; simp)
    · rw [hpA v (List.mem_append.2 (.inr hv))] at q
      exact absurd q.1 (by simp)
  have mk5 : z5.L.map (·.key) = keysA i := by rw [← hL, ← hL3, hA, hL5]; simp
  have len5 : z5.L.length = i := by
    have := congrArg List.length mk5
    simpa [keysA] using this
  -- z
  obtain ⟨z6, w6, wv6, er6, h6, E6, S6, I6, P6⟩ := iput_ok I5 (k + 4) (by omega) W5.own (keyA 25) ⟨#[120]⟩ (by rw [keyA_size]; omega) (by rw [sx]; omega) true
  have W6 := W5.stp S6
  have o6 : One z6.s := by unfold One; rw [P6.sizes]; exact o5
  obtain ⟨e6, hw6, A6, B6, ci, K, i6, hA6, hL6⟩ : er6 = 0 ∧ w6 = [keyA j] ∧ ∃ A6 B6 ci K i6, z5.L = A6 ++ { y with pin := false } :: B6 ∧ z6.L = ⟨keyA 25, ⟨#[120]⟩, ci, K, true, i6⟩ :: (A6 ++ B6) := by
    rcases one_put I5 o5 (by rw [ByteArray.size_append, keyA_size, sx]; omega) (no_key mk5 (by omega) (by omega) (by omega)) P6 with ⟨q, _⟩ | ⟨_, q, _⟩ | ⟨_, A6, B6, y6, hq, ho, e, hw, ci, K, i6, hL6⟩
    · omega
    · rw [old5] at q; cases q
    · rw [old5] at ho
      cases ho
      exact ⟨e, by rw [hw]; simp [hy], A6, B6, ci, K, i6, hq, hL6⟩
  subst e6 hw6
  have nd5 := I5.nd
  rw [hA6, List.map_append, List.map_cons] at nd5
  obtain ⟨_, nn1, nn2⟩ := nodup_cut nd5
  have hp6 : ∀ v, v ∈ z6.L → v.pin = true := fun v hv => by
    rw [hL6] at hv
    rcases List.mem_cons.1 hv with q | q
    · rw [q]
    · have hne : v.key ≠ y.key := fun e => by
        rcases List.mem_append.1 q with z | z
        · exact nn1 (List.mem_map.2 ⟨v, z, e⟩)
        · exact nn2 (List.mem_map.2 ⟨v, z, e⟩)
      have hv5 : v ∈ z5.L := by
        rw [hA6]
        rcases List.mem_append.1 q with z | z
        · simp [z]
        · simp [z]
      rw [hL5] at hv5
      rcases List.mem_append.1 hv5 with z | z
      · exact hpA v (List.mem_append.2 (.inl z))
      · rcases List.mem_cons.1 z with z | z
        · exact absurd (by rw [z]) hne
        · exact hpA v (List.mem_append.2 (.inr z))
  have len6 : z6.L.length = i := by
    have a := congrArg List.length hA6
    rw [len5] at a
    rw [hL6]
    simp at a ⊢
    omega
  have no6 : findK (keyA 24) z6.L = none := by
    refine findK_none.2 fun v hv e => ?_
    rw [hL6] at hv
    rcases List.mem_cons.1 hv with q | q
    · rw [q] at e
      have := keyA_inj (i := 25) (j := 24) (by omega) (by omega) e
      omega
    · have hv5 : v ∈ z5.L := by
        rw [hA6]
        rcases List.mem_append.1 q with z | z
        · simp [z]
        · simp [z]
      exact findK_none.1 (no_key mk5 (by omega) (by omega) (by omega)) v hv5 e
  -- y again
  obtain ⟨z7, w7, wv7, er7, h7, E7, S7, I7, P7⟩ := iput_ok I6 (k + 4) (by omega) W6.a (keyA 24) ⟨#[120]⟩ (by rw [keyA_size]; omega) (by rw [sx]; omega) true
  have W7 := W6.op S7
  obtain ⟨e7, hL7⟩ : er7 = 6 ∧ z7.L = z6.L := by
    rcases one_put I6 o6 (by rw [ByteArray.size_append, keyA_size, sx]; omega) no6 P7 with ⟨q, _⟩ | ⟨_, _, e, _, q⟩ | ⟨_, _, _, _, _, ho, _⟩
    · omega
    · exact ⟨e, q⟩
    · rw [allp _ hp6] at ho; cases ho
  subst e7
  have M7 : Mine 1 1 h7 wv6 [.str (keyA j)] := W7.b.get (i := 0) (v := wv6) (o := .vec 1 1 [.str (keyA j)]) rfl
  have K8 : Keep h7.next nob h7 (h7.new (.cells [.str (keyA j)] false)) := Keep.new (Nat.le_refl _) _
  have M8 : Mine 1 1 (h7.new (.cells [.str (keyA j)] false)) (.sl h7.next 0 1 1 1 true) [.str (keyA j)] := Mine.whole (get_new_self _ _) (Nat.lt_succ_self _) rfl rfl true
  obtain ⟨h8, e8⟩ : ∃ h8, h7.new (.cells [.str (keyA j)] false) = h8 := ⟨_, rfl⟩
  rw [e8] at K8 M8
  have E8 := sameS_ok (k + 9) h8 wv6 (.sl h7.next 0 1 1 1 true) [keyA j] (M7.ext K8).sl M8.sl (by simp) (by simp)
  have W8 := W7.ext K8
  have E9 := ilen_ok I7 (k + 8) (own_append.1 W8.a).1
  rw [hL7, len6] at E9
  have E3 : acall Try.prog (k + 10) 9 [.ptr b 0, .str ⟨#[121]⟩, .str ⟨#[120]⟩, .bool true] h2 = some (.tup [wv3, .int .i64 6], h3) := E3
  have E6 : acall Try.prog (k + 10) 9 [.ptr b 0, .str ⟨#[122]⟩, .str ⟨#[120]⟩, .bool true] h5 = some (.tup [wv6, .int .i64 0], h6) := E6
  have E7 : acall Try.prog (k + 10) 9 [.ptr b 0, .str ⟨#[121]⟩, .str ⟨#[120]⟩, .bool true] h6 = some (.tup [wv7, .int .i64 6], h7) := E7
  simp [q1, q5, q6, E3, wi, Ej, w97, fx, aalloc, afill, e4, cv, E5, E6, E7, e8, E8, E9]


theorem own : ownKnob Try.prog.godebug = none := by kernel_rfl
theorem laid : laidOutB Try.prog = true := by kernel_rfl

set_option maxRecDepth 100000 in
theorem lifted (os : Os) (started : os.Started) (H : Type) (enc : TypeId × Value → H) :
    ReturnsInHanded {} Try.checked os 6 .any (Rows.itemPinsSpec.pre6 enc Try.prog Try.f6 Rows.itemPinsRow.domain false) (Rows.itemPinsSpec.post enc Try.prog Try.f6 false true false false) := by
  refine returnsInHanded_of_change (C := Try.checked) own started (by kernel_rfl) Try.func6
    (ChangeSpec.witness6 (enc := enc) (C := Try.checked) false ⟨#[], #[.int .i64 0, .int .i64 0], []⟩ 8 (by kernel_rfl) (by kernel_rfl) (by kernel_rfl) (by kernel_rfl)) ?_
  intro W base args ds gs before hval0 hW hcnd _
  have hval : ∀ (j : Nat) t v, Try.f6.params.toList[j]? = some t → args.toList[j]? = some v → Value.okWide Try.prog W .any base t v := fun j t v h1 h2 => hval0 j t v (by simpa using h1) (by simpa using h2)
  have hW' := hW
  obtain ⟨p, q, hA0, hV, rfl, hfz, hnd⟩ := hW
  have hA : DataW.TrodAll enc Try.prog W 0 (fun _ => true) true Try.f6.params.toList args.toList ds p := hA0
  obtain ⟨rfl, rfl⟩ := trodVars_none hV
  have hlt : ∀ x ∈ p, x.block < W.heap.size := fun x hx => hW'.lt x (by simp [hx])
  have hps : Try.f6.params.toList = [3, 3] := by rw [Try.params6]
  rw [hps] at hA hval
  obtain ⟨m, h, avs, x, g1, _, _, g2, g3, g4⟩ := (good_as1 (good_int Try.underlying3 (by kernel_rfl)) rfl (by kernel_rfl) (good_as1 (good_int Try.underlying3 (by kernel_rfl)) rfl (by kernel_rfl) good_as0)) H enc W base args.toList ds p hval hA _ _ (HRo.start W)
  obtain ⟨a0, a1, _⟩ := x
  obtain ⟨_, _, rfl, ⟨e0, w0⟩, ⟨_, _, rfl, ⟨e1, w1⟩, rfl⟩⟩ := g3
  obtain rfl := (List.cons.inj e0).1
  obtain rfl := (List.cons.inj e1).1
  have hcall := law_any mixed (k := 3000000 + 10) Try.func6 (by kernel_rfl) runs_ok g1 g2 (law_run 3000000 (by decide) h a0 w0 a1 w1)
  refine hcall.mono fun e W' ⟨he, hg⟩ => ?_
  subst he
  simp only [List.append_nil] at hW' hA0 ⊢
  have hlen : ds.length = 2 := trodAll_len hA
  have hvars : (Rows.itemPinsSpec.fn H (ds ++ [])).vars = [] ∧ (Rows.itemPinsSpec.fn H (ds ++ [])).args = ds ∧ (Rows.itemPinsSpec.fn H (ds ++ [])).results = [.lit (.bool true)] := by
    rw [List.append_nil]
    match ds, hlen with
    | [d0, d1], _ => exact ⟨rfl, rfl, rfl⟩
  obtain ⟨hv1, hv2, hv3⟩ := hvars
  refine ⟨_, rfl, law_post hW' rfl hg (fun _ _ _ => ?_) (fun sp hsp => ?_) hv1
    (ok_one (by kernel_rfl) rfl (okWide_bool_mk Try.underlying4 _))⟩
  · rw [hv3]
    exact (trodAll_cons_mk (shut_bool Try.underlying4 _) trodAll_mk0)
  · have hA1 := trodAll_below laid hg sp (ts := [3, 3]) (by decide +kernel) hlt hsp hA
    rw [hv2, hps]
    exact hA1

theorem over : Rows.itemPinsRow.holds Try.pinned (OpenSpec.ofChange Rows.itemPinsSpec) :=
  OpenClaim.holds_of_wide 6 Try.f6 rfl rfl rfl rfl rfl rfl rfl ⟨rfl, rfl, rfl, rfl, rfl⟩ rfl rfl rfl rfl rfl (by kernel_rfl) Try.func6 (by kernel_rfl)
    (of_decide_eq_true (by kernel_rfl)) (by unfold Func.isWrapper; first | (rw [if_pos (by decide +kernel)]; kernel_rfl) | (rw [if_neg (by decide +kernel)]; exact ⟨rfl, rfl⟩))
    (fun os started H enc _ => lifted os started H enc)

/-- The statement. -/
theorem proved : Rows.ItemPinsSaid :=
  over
#print axioms proved
end Go.Proofs.Ytelnkdgpghndgaa.cItemPins
