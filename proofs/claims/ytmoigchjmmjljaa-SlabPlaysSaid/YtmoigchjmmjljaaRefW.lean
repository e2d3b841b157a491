/- depotref5.Slab: Alloc that is refused; the document's slab beside the program's. -/
import Derived.Test.YtmoigchjmmjljaaRefV
import Derived.Test.YtmoigchjmmjljaaSlabH
namespace Go.Proofs.Ytmoigchjmmjljaa
open Go Go.YtmoigchjmmjljaaAbs
set_option linter.unusedSimpArgs false
set_option linter.unusedVariables false
set_option maxRecDepth 4000

theorem ralloc_no (k : Nat) (hk : 70000 < k) (h : Heap) (b : Nat) (r : Rb) (vc : AV) (O : RO h b r vc) (hl : r.cls.length ≤ 20) (d : ByteArray) (er : Nat)
    (hc : (clsS (d.size : Nat) (r.cls.map (·.size)) = none ∧ er = 2) ∨ (∃ i c, clsS (d.size : Nat) (r.cls.map (·.size)) = some i ∧ r.cls[i]? = some c ∧ c.free = [] ∧ r.left = 0 ∧ er = 6)) :
    ∃ v' h', acall Try.prog (k + 2) 19 [.ptr b 0, .str d] h = some (v', h') ∧ v' = .tup [.agg [.int .i64 0, .int .i64 0], .int .i64 (er : Nat)] ∧ Keep h.next nob h h' := by
  obtain ⟨n0, hn0⟩ : ∃ n0, n0 = h.next := ⟨_, rfl⟩
  obtain ⟨h1, e1⟩ : ∃ h1, h.new (.cells [.int .i64 0, .int .i64 0] false) = h1 := ⟨_, rfl⟩
  have k1 : Keep h.next nob h h1 := by rw [← e1]; exact Keep.new (Nat.le_refl _) _
  have g1 : h1.get n0 = some (.cells [.int .i64 0, .int .i64 0] false) := by rw [← e1, hn0]; exact get_new_self _ _
  have O1 : RO h1 b r vc := Hold.ext O k1
  obtain ⟨_, h2, E2, e2, rfl⟩ := rclass_ok k (by omega) h1 b r vc O1 hl d.size
  replace e2 := e2.symm
  subst e2
  have A8 : alay h1 n0 0 [.int .i64 0, .int .i64 0] = some (h1.set n0 (.cells [.int .i64 0, .int .i64 0] false)) := by unfold alay; rw [g1]; rfl
  have g8 : (h1.set n0 (.cells [.int .i64 0, .int .i64 0] false)).get n0 = some (.cells [.int .i64 0, .int .i64 0] false) := get_set_self _ _ _
  have K8 : Keep h.next nob h (h1.set n0 (.cells [.int .i64 0, .int .i64 0] false)) := k1.trans (Keep.set (.inr (by omega)) _)
  generalize h1.set n0 (.cells [.int .i64 0, .int .i64 0] false) = h8 at *
  have l8 : aload Try.prog h8 34 n0 0 = some (.agg [.int .i64 0, .int .i64 0]) := by simp [aload, Heap.row, g8, ta34, ts34]
  have rwH : (AV.agg [.int .i64 0, .int .i64 0]).row1 = some [.int .i64 0, .int .i64 0] := rfl
  rw [acall_text [12, 15] Try.func19 (by kernel_rfl)]
  refine afuncT_ex rfl (by simp [Try.f19]) ?_
  rcases hc with ⟨hc, rfl⟩ | ⟨i, c, hc, hi, hf, h0, rfl⟩
  · rw [hc] at E2
    simp only at E2
    simp [Try.f19, e1, ← hn0, E2, afill, rwH, A8, l8]
    rw [hn0]; exact K8
  · rw [hc] at E2
    simp only at E2
    have hil := (List.getElem?_eq_some_iff.1 hi).1
    have l2 := RO.ld2 O1 (ty := 54) ta54
    have l1 := RO.ld1 O1 (ty := 3) ta3
    rw [h0] at l1
    have ix := (RO.own O1).sl.idx (P := Try.prog) Try.underlying54 ts70 (j := i) hil .i64
    have lf := RO.ldc O1 hi (o := 2) (x := c.fv) (by omega) rfl (ty := 27) ta27
    have flen := (RO.free O1 hi).sl.len'
    rw [hf] at flen
    simp [Try.f19, e1, ← hn0, E2, l2, ix, lf, flen, l1, afill, rwH, A8, l8]
    rw [hn0]; exact K8
/-- A class of the document's beside one of the program's. -/
structure RelC (c : Cl) (q : Rc) : Prop where
  size : q.size = c.size
  free : q.free = c.free
  count : q.count = c.count
  dl : q.data.length = c.count
  ll : q.live.length = c.count
  live : ∀ K, K < c.count → q.live[K]? = some (dataOf K c.live).isSome
  data : ∀ (K : Nat) (d : ByteArray), dataOf K c.live = some d → q.data[K]? = some d
structure RelS (s : Sb) (r : Rb) : Prop where
  page : r.page = s.page
  left : r.left = s.left
  len : r.cls.length = s.cls.length
  cls : ∀ (i : Nat) (c : Cl) (q : Rc), s.cls[i]? = some c → r.cls[i]? = some q → RelC c q
section
variable {s : Sb} {r : Rb} {P Q : Nat} {pgs : List Nat}
theorem RelS.sizes (R : RelS s r) : r.cls.map (·.size) = s.cls.map (·.size) := by
  refine List.ext_getElem? fun i => ?_
  rw [List.getElem?_map, List.getElem?_map]
  cases hc : s.cls[i]? with
  | none =>
    rw [List.getElem?_eq_none (by rw [List.getElem?_eq_none_iff] at hc; rw [R.len]; exact hc)]; rfl
  | some c =>
    have hl := (List.getElem?_eq_some_iff.1 hc).1
    have hq : r.cls[i]? = some (r.cls[i]'(by rw [R.len]; exact hl)) := by simp
    rw [hq]
    simp only [Option.map_some, (R.cls i c _ hc hq).size]
theorem RelS.at (R : RelS s r) {i : Nat} {c : Cl} (hc : s.cls[i]? = some c) : ∃ q, r.cls[i]? = some q ∧ RelC c q := by
  have hl := (List.getElem?_eq_some_iff.1 hc).1
  have hq : r.cls[i]? = some (r.cls[i]'(by rw [R.len]; exact hl)) := by simp
  exact ⟨_, hq, R.cls i c _ hc hq⟩
theorem RelS.at' (R : RelS s r) {i : Nat} {q : Rc} (hq : r.cls[i]? = some q) : ∃ c, s.cls[i]? = some c ∧ RelC c q := by
  have hl := (List.getElem?_eq_some_iff.1 hq).1
  have hc : s.cls[i]? = some (s.cls[i]'(by rw [← R.len]; exact hl)) := by simp
  exact ⟨_, hc, R.cls i _ q hc hq⟩
theorem RelS.rbi (R : RelS s r) (I : SbI P Q s pgs) (hP : P ≤ 64) (hQ : Q ≤ 65536) : RbI r := fun j q hq => by
  obtain ⟨c, hc, C⟩ := R.at' hq
  have := I.small hP hQ hc
  exact ⟨by rw [C.dl, C.count], by rw [C.ll, C.count], by rw [C.count]; omega, by rw [C.free]; omega⟩
theorem data_lt (I : SbI P Q s pgs) {i K : Nat} {c : Cl} (hc : s.cls[i]? = some c) {d : ByteArray} (hd : dataOf K c.live = some d) : K < c.count := by
  obtain ⟨pg, _, J, _⟩ := I.pg hc
  unfold dataOf at hd
  rw [Option.map_eq_some_iff] at hd
  obtain ⟨y, hy, _⟩ := hd
  obtain ⟨st, hst⟩ := lk_some hy
  exact J.lt K (List.mem_append.2 (.inr (List.mem_map.2 ⟨_, List.mem_of_getElem? hst, rfl⟩)))
/-- What is live, is live for both. -/
theorem RelS.there (R : RelS s r) (I : SbI P Q s pgs) (ci ch : Int) : thereR r ci ch = (readS s ci ch).isSome ∧ readR r ci ch = (readS s ci ch).map (·.2.1) := by
  have h1 : thereR r ci ch = (readS s ci ch).isSome := by
    unfold thereR readS
    by_cases c0 : ci < 0
    · rw [if_pos c0, if_pos c0]; rfl
    rw [if_neg c0, if_neg c0]
    cases hc : s.cls[ci.toNat]? with
    | none => rw [List.getElem?_eq_none (by rw [List.getElem?_eq_none_iff] at hc; rw [R.len]; exact hc)]; rfl
    | some c =>
      obtain ⟨q, hq, C⟩ := R.at hc
      rw [hq]
      simp only
      unfold lkI
      by_cases d0 : ch < 0
      · rw [if_pos d0, if_neg (by omega)]; rfl
      rw [if_neg d0, if_pos (by omega)]
      by_cases hK : ch.toNat < c.count
      · rw [C.live _ hK]
        unfold dataOf
        simp
      · rw [List.getElem?_eq_none (by rw [C.ll]; omega)]
        cases hlk : lk ch.toNat c.live with
        | none => rfl
        | some y => exact absurd (data_lt I hc (d := y.2.1) (by unfold dataOf; rw [hlk]; rfl)) hK
  refine ⟨h1, ?_⟩
  unfold readR
  rw [h1]
  cases hr : readS s ci ch with
  | none => rfl
  | some y =>
    simp only [Option.isSome_some, if_true, Option.map_some, Option.some.injEq]
    unfold readS at hr
    split at hr
    · cases hr
    · split at hr
      · rename_i c hc
        obtain ⟨q, hq, C⟩ := R.at hc
        unfold lkI at hr
        split at hr
        · rw [hq]
          simp only [Option.bind_some]
          rw [C.data _ y.2.1 (by unfold dataOf; rw [hr]; rfl)]
          rfl
        · cases hr
      · cases hr
theorem RelS.set (R : RelS s r) {i : Nat} {c2 : Cl} {q2 : Rc} (C : RelC c2 q2) {left used : Nat} : RelS ⟨s.page, left, used, s.cls.set i c2⟩ ⟨r.page, left, r.cls.set i q2⟩ := by
  refine ⟨R.page, rfl, by simp only [List.length_set]; exact R.len, fun j c q hc hq => ?_⟩
  simp only at hc hq
  by_cases hij : i = j
  · subst hij
    have h1 := (List.getElem?_eq_some_iff.1 hc).1
    have h2 := (List.getElem?_eq_some_iff.1 hq).1
    rw [List.length_set] at h1 h2
    rw [List.getElem?_set_self h1] at hc
    rw [List.getElem?_set_self h2] at hq
    cases hc; cases hq
    exact C
  · rw [List.getElem?_set_ne hij] at hc hq
    exact R.cls j c q hc hq
theorem dataOf_last {K K' : Nat} (hne : K' ≠ K) {d : ByteArray} {st : Nat} : ∀ {L : List (Nat × ByteArray × Nat)}, dataOf K' (L ++ [(K, d, st)]) = dataOf K' L
  | [] => by simp [dataOf, lk, Ne.symm hne]
  | x :: L => by
    have := dataOf_last hne (d := d) (st := st) (L := L)
    unfold dataOf at this ⊢
    simp only [List.cons_append, lk]
    split
    · rfl
    · rw [Option.map_map, Option.map_map]; exact this
theorem RelC.alloc {c c2 : Cl} {q q2 : Rc} (C : RelC c q) {K cnt st : Nat} {d : ByteArray} {F : List Nat} (hlt : ∀ x, x ∈ c.live.map (·.1) → x < c.count) (hK : K ∉ c.live.map (·.1)) (hKc : K < cnt) (hcc : c.count ≤ cnt)
    (z1 : c2.size = c.size) (z2 : c2.free = F) (z3 : c2.count = cnt) (z4 : c2.live = c.live ++ [(K, d, st)]) (y1 : q2.size = q.size) (y2 : q2.free = F) (y3 : q2.count = cnt)
    (y4 : q2.data = (q.data ++ List.replicate (cnt - q.count) ByteArray.empty).set K d) (y5 : q2.live = (q.live ++ List.replicate (cnt - q.count) false).set K true) : RelC c2 q2 := by
  have hdl : (q.data ++ List.replicate (cnt - q.count) ByteArray.empty).length = cnt := by rw [List.length_append, List.length_replicate, C.dl, C.count]; omega
  have hll : (q.live ++ List.replicate (cnt - q.count) false).length = cnt := by rw [List.length_append, List.length_replicate, C.ll, C.count]; omega
  refine ⟨by rw [y1, z1, C.size], by rw [y2, z2], by rw [y3, z3], by rw [y4, List.length_set, hdl, z3], by rw [y5, List.length_set, hll, z3], fun K' hK' => ?_, fun K' d' hd' => ?_⟩
  · rw [y5, z4]
    rw [z3] at hK'
    by_cases q1 : K' = K
    · subst q1
      rw [List.getElem?_set_self (by omega), lk_last hK]; rfl
    · rw [List.getElem?_set_ne (Ne.symm q1), dataOf_last q1]
      by_cases q2 : K' < c.count
      · rw [List.getElem?_append_left (by rw [C.ll]; exact q2)]
        exact C.live K' q2
      · rw [List.getElem?_append_right (by rw [C.ll]; omega), List.getElem?_replicate, if_pos (by rw [C.ll, C.count]; omega)]
        have : lk K' c.live = none := lk_none fun q => q2 (hlt K' q)
        unfold dataOf
        rw [this]; rfl
  · rw [y4]
    rw [z4] at hd'
    by_cases q1 : K' = K
    · subst q1
      rw [lk_last hK] at hd'
      cases hd'
      rw [List.getElem?_set_self (by omega)]
    · rw [dataOf_last q1] at hd'
      have e := C.data K' d' hd'
      have := (List.getElem?_eq_some_iff.1 e).1
      rw [List.getElem?_set_ne (Ne.symm q1), List.getElem?_append_left this]
      exact e
theorem RelC.freed {c c2 : Cl} {q q2 : Rc} (C : RelC c q) {K : Nat} {y : Nat × ByteArray × Nat} (hy : lk K c.live = some y) (hn : (c.live.map (·.1)).Nodup) (z1 : c2.size = c.size) (z2 : c2.free = c.free ++ [K]) (z3 : c2.count = c.count) (z4 : c2.live = c.live.eraseIdx y.1)
    (y1 : q2.size = q.size) (y2 : q2.free = q.free ++ [K]) (y3 : q2.count = q.count) (y4 : q2.data = q.data.set K .empty) (y5 : q2.live = q.live.set K false) : RelC c2 q2 := by
  obtain ⟨st, hst⟩ := lk_some hy
  refine ⟨by rw [y1, z1, C.size], by rw [y2, z2, C.free], by rw [y3, z3, C.count], by rw [y4, List.length_set, C.dl, z3], by rw [y5, List.length_set, C.ll, z3], fun K' hK' => ?_, fun K' d' hd' => ?_⟩
  · rw [y5, z4]
    rw [z3] at hK'
    by_cases q1 : K' = K
    · subst q1
      rw [List.getElem?_set_self (by rw [C.ll]; exact hK')]
      unfold dataOf
      rw [erase_none hn hst]; rfl
    · rw [List.getElem?_set_ne (Ne.symm q1), dataOf_erase q1 hst]
      exact C.live K' hK'
  · rw [z4] at hd'
    have q1 : K' ≠ K := fun z => by
      subst z
      unfold dataOf at hd'
      rw [erase_none hn hst] at hd'; cases hd'
    rw [dataOf_erase q1 hst] at hd'
    rw [y4, List.getElem?_set_ne (Ne.symm q1)]
    exact C.data K' d' hd'
theorem RelS.new {cls : List Cl} {rcls : List Rc} {P Q : Nat} (F : FreshC cls) (G : FreshR rcls) (h1 : 64 * 2 ^ (cls.length - 1) ≤ Q) (h2 : Q < 64 * 2 ^ cls.length) (h3 : 64 * 2 ^ (rcls.length - 1) ≤ Q) (h4 : Q < 64 * 2 ^ rcls.length) (l1 : 1 ≤ cls.length) (l3 : 1 ≤ rcls.length) : RelS ⟨Q, P, 0, cls⟩ ⟨Q, P, rcls⟩ := by
  have hlen : rcls.length = cls.length := by
    have a : ¬ cls.length < rcls.length := fun q => by
      have : 2 ^ cls.length ≤ 2 ^ (rcls.length - 1) := Nat.pow_le_pow_right (by omega) (by omega)
      omega
    have b : ¬ rcls.length < cls.length := fun q => by
      have : 2 ^ rcls.length ≤ 2 ^ (cls.length - 1) := Nat.pow_le_pow_right (by omega) (by omega)
      omega
    omega
  refine ⟨rfl, rfl, hlen, fun i c q hc hq => ?_⟩
  obtain ⟨f1, f2, f3, f4, f5⟩ := F i c hc
  obtain ⟨g1, g2, g3, g4, g5⟩ := G i q hq
  exact ⟨by rw [g1, f1], by rw [g2, f2], by rw [g3, f5], by rw [g4, f5]; rfl, by rw [g5, f5]; rfl, fun K hK => by rw [f5] at hK; omega, fun K d hd => by rw [f3] at hd; cases hd⟩
end
/-- New that is refused, for both. -/
theorem new_no (k : Nat) (h : Heap) (P Q : Int) (hbad : P < 1 ∨ 64 < P ∨ Q < 64 ∨ 65536 < Q) : acall Try.prog (k + 1) 8 [.int .i64 P, .int .i64 Q] h = some (.tup [.nilp, .int .i64 1], h) ∧ acall Try.prog (k + 1) 17 [.int .i64 P, .int .i64 Q] h = some (.tup [.nilp, .int .i64 1], h) := by
  constructor
  · rw [acall_text [] Try.func8 (by kernel_rfl)]
    refine afuncT_of rfl (by simp [Try.f8]) ?_
    by_cases c1 : P < 1
    · simp [Try.f8, isLt c1]
    by_cases c2 : 64 < P
    · simp [Try.f8, isLe (show (1 : Int) ≤ P by omega), isLt c2]
    by_cases c3 : Q < 64
    · simp [Try.f8, isLe (show (1 : Int) ≤ P by omega), isLe (show P ≤ 64 by omega), isLt c3]
    have c4 : 65536 < Q := by omega
    simp [Try.f8, isLe (show (1 : Int) ≤ P by omega), isLe (show P ≤ 64 by omega), isLe (show (64 : Int) ≤ Q by omega), isLt c4]
  · rw [acall_text [] Try.func17 (by kernel_rfl)]
    refine afuncT_of rfl (by simp [Try.f17]) ?_
    by_cases c1 : P < 1
    · simp [Try.f17, isLt c1]
    by_cases c2 : 64 < P
    · simp [Try.f17, isLe (show (1 : Int) ≤ P by omega), isLt c2]
    by_cases c3 : Q < 64
    · simp [Try.f17, isLe (show (1 : Int) ≤ P by omega), isLe (show P ≤ 64 by omega), isLt c3]
    have c4 : 65536 < Q := by omega
    simp [Try.f17, isLe (show (1 : Int) ≤ P by omega), isLe (show P ≤ 64 by omega), isLe (show (64 : Int) ≤ Q by omega), isLt c4]
end Go.Proofs.Ytmoigchjmmjljaa
