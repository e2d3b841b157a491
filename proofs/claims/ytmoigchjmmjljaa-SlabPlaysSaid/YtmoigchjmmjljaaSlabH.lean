/- slab: live chunks have handles of their own and keep their data. depotlaw5.data. -/
import Derived.Test.YtmoigchjmmjljaaSlabI
import Derived.Test.YtmoigchjmmjljaaFlat
import Derived.Test.YtmoigchjmmjljaaBook
import Derived.Test.YtmoigchjmmjljaaRefS
namespace Go.Proofs.Ytmoigchjmmjljaa
open Go Go.YtmoigchjmmjljaaAbs
set_option linter.unusedSimpArgs false
set_option linter.unusedVariables false
set_option maxRecDepth 4000

def zeros (n : Nat) : ByteArray := ⟨⟨List.replicate n 0⟩⟩
theorem zeros_size (n : Nat) : (zeros n).size = n := by show (List.replicate n (0 : UInt8)).toArray.size = n; simp
theorem zeros_conv (h : Heap) (n : Nat) : aconv Try.prog (h.new (.cells (List.replicate n (.int .u8 0)) false)) 30 9 (.sl h.next 0 n n 1 true) = some (.str (zeros n), h.new (.cells (List.replicate n (.int .u8 0)) false)) := by
  have e : List.replicate n (AV.int .u8 0) = (List.replicate n (0 : UInt8)).map bb := by rw [List.map_replicate]; rfl
  refine aconv_bs (P := Try.prog) (src := 30) (dst := 9) (n := n) (l := List.replicate n 0) ?_ Try.underlying30 Try.underlying9 Try.underlying5
  rw [e]
  exact .inr (.inr ⟨h.next, 0, n, true, _, false, rfl, Nat.lt_succ_self _, get_new_self _ _, by simp, by simp, by simp, Nat.le_refl _⟩)

/-- An ask: a kind, a place, a size, a text, a handle, was it told? -/
abbrev As := Int × (Int × (Int × (ByteArray × ((Int × (Int × Unit)) × (Bool × Unit)))))
abbrev kAs : Kind As := kPair (kInt .i64) (kPair (kInt .i64) (kPair (kInt .i64) (kPair kStr (kPair (kPair (kInt .i64) (kPair (kInt .i64) kNil)) (kPair kBool kNil)))))
def asC (x : As) : List AV := [.int .i64 x.1, .int .i64 x.2.1, .int .i64 x.2.2.1, .str x.2.2.2.1, .int .i64 x.2.2.2.2.1.1, .int .i64 x.2.2.2.2.1.2.1, .bool x.2.2.2.2.2.1]
theorem asC_len (x : As) : (asC x).length = 7 := rfl
theorem flat_as : Flat kAs asC := flat_pair (flat_int _) (flat_pair (flat_int _) (flat_pair (flat_int _) (flat_pair flat_str (flat_pair (flat_pair (flat_int _) (flat_pair (flat_int _) flat_nil)) (flat_pair flat_bool flat_nil)))))
/-- An ask's bytes. -/
def dataN (x : As) : Nat := (x.2.2.1 % 5001).toNat
def dataS (x : As) : ByteArray := if x.2.2.2.1.size ≠ 0 ∧ x.2.2.2.1.size < 500 then x.2.2.2.1 else zeros (dataN x)
theorem dataN_le (x : As) : dataN x ≤ 5000 := by unfold dataN; omega
theorem dataS_le (x : As) : (dataS x).size ≤ 5000 := by
  unfold dataS
  split
  · omega
  · rw [zeros_size]; exact dataN_le x
theorem ba_empty {s : ByteArray} : s = ⟨⟨[]⟩⟩ ↔ s.size = 0 := by
  constructor
  · rintro rfl; rfl
  · intro h
    obtain ⟨⟨l⟩⟩ := s
    have : l.length = 0 := h
    rw [List.eq_nil_of_length_eq_zero this]
theorem ba_nonempty {s : ByteArray} (h : s.size ≠ 0) : s.toList.isEmpty = false := by
  cases q : s.toList with
  | cons => rfl
  | nil =>
    have e := beqS s ⟨⟨[]⟩⟩
    rw [q] at e
    have : (([] : List UInt8) == (⟨⟨[]⟩⟩ : ByteArray).toList) = true := by kernel_rfl
    rw [this] at e
    have := of_decide_eq_true e.symm
    rw [this] at h
    exact absurd rfl h
theorem data_ok (k : Nat) (h : Heap) (x : As) : ∃ v' h', acall Try.prog (k + 2) 18 [.agg (asC x)] h = some (v', h') ∧ v' = .str (dataS x) ∧ Keep h.next nob h h' := by
  rw [acall_text [] Try.func18 (by kernel_rfl)]
  refine afuncT_ex rfl (by simp [Try.f18]) ?_
  have rw1 : (AV.agg (asC x)).row1 = some (asC x) := rfl
  obtain ⟨h1, e1⟩ : ∃ h1, h.new (.cells (asC x) false) = h1 := ⟨_, rfl⟩
  have g1 : h1.get h.next = some (.cells (asC x) false) := by rw [← e1]; exact get_new_self _ _
  have k1 : Keep h.next nob h h1 := by rw [← e1]; exact Keep.new (Nat.le_refl _) _
  have l2 := ldc (P := Try.prog) (ty := 3) g1 ta3 (i := 2) (x := .int .i64 x.2.2.1) rfl
  have l3 := ldc (P := Try.prog) (ty := 9) g1 ta9 (i := 3) (x := .str x.2.2.2.1) rfl
  have W1 : acall Try.prog (k + 1) 15 [.int .i64 x.2.2.1, .int .i64 0, .int .i64 5000] h1 = _ := within_ok k x.2.2.1 0 5000 (by omega) (by omega) (by omega) h1
  have hN : (0 : Int) + x.2.2.1 % (5000 - 0 + 1) = (dataN x : Nat) := by unfold dataN; omega
  have hN2 := dataN_le x
  rw [hN] at W1
  unfold dataS
  generalize dataN x = N at *
  have zc := zeros_conv h1 N
  have k2 : Keep h1.next nob h1 (h1.new (.cells (List.replicate N (.int .u8 0)) false)) := Keep.new (Nat.le_refl _) _
  have K2 := k1.trans (k2.weak k1.1 fun _ _ q => q)
  by_cases c1 : x.2.2.2.1.size = 0
  · rw [if_neg (fun q => q.1 c1)]
    have c2 := ba_empty.2 c1
    rw [c2] at l3
    simp [Try.f18, rw1, e1, l2, l3, W1, aalloc_make (P := Try.prog) el30 (z := [.int .u8 0]) az5 rfl rfl N N (Nat.le_refl _) (by omega), zc]
    exact K2
  · have c2 := ba_nonempty c1
    by_cases c3 : x.2.2.2.1.size < 500
    · rw [if_pos ⟨c1, c3⟩]
      simp [Try.f18, rw1, e1, l2, l3, c2, isLt (show (x.2.2.2.1.size : Int) < 500 by omega)]
      exact k1
    · rw [if_neg (fun q => c3 q.2)]
      simp [Try.f18, rw1, e1, l2, l3, c2, isLe (show (500 : Int) ≤ (x.2.2.2.1.size : Int) by omega), W1, aalloc_make (P := Try.prog) el30 (z := [.int .u8 0]) az5 rfl rfl N N (Nat.le_refl _) (by omega), zc]
      exact K2
/-- A text that stands under a number. -/
def dataOf (K : Nat) (L : List (Nat × ByteArray × Nat)) : Option ByteArray := (lk K L).map (·.2.1)
theorem lk_append_some {K : Nat} {d : ByteArray} : ∀ {L : List (Nat × ByteArray × Nat)} (M : List (Nat × ByteArray × Nat)), dataOf K L = some d → dataOf K (L ++ M) = some d
  | [], M, h => by simp [dataOf, lk] at h
  | x :: L, M, h => by
    unfold dataOf at *
    simp only [List.cons_append, lk] at h ⊢
    split
    · rename_i hx; rw [if_pos hx] at h; exact h
    · rename_i hx
      rw [if_neg hx] at h
      have := lk_append_some (K := K) (d := d) (L := L) M (by unfold dataOf; simpa using h)
      unfold dataOf at this
      simpa using this
theorem lk_last {K : Nat} {d : ByteArray} {st : Nat} : ∀ {L : List (Nat × ByteArray × Nat)}, K ∉ L.map (·.1) → dataOf K (L ++ [(K, d, st)]) = some d
  | [], _ => by simp [dataOf, lk]
  | x :: L, h => by
    simp only [List.map_cons, List.mem_cons, not_or] at h
    unfold dataOf
    simp only [List.cons_append, lk]
    rw [if_neg (fun q => h.1 q.symm)]
    have := lk_last (d := d) (st := st) h.2
    unfold dataOf at this
    simpa using this
theorem dataOf_erase {K K' : Nat} (hne : K' ≠ K) : ∀ {L : List (Nat × ByteArray × Nat)} {i : Nat} {e : ByteArray × Nat}, L[i]? = some (K, e) → dataOf K' (L.eraseIdx i) = dataOf K' L
  | [], i, e, h => by simp at h
  | x :: L, 0, e, h => by
    simp at h; subst h
    unfold dataOf
    simp only [List.eraseIdx_cons_zero, lk]
    rw [if_neg (fun q => hne q.symm)]
    cases lk K' L <;> rfl
  | x :: L, i + 1, e, h => by
    have := dataOf_erase hne (L := L) (i := i) (e := e) (by simpa using h)
    unfold dataOf at this ⊢
    simp only [List.eraseIdx_cons_succ, lk]
    split
    · rfl
    · rw [Option.map_map, Option.map_map]; exact this
theorem erase_none {K : Nat} {L : List (Nat × ByteArray × Nat)} (hn : (L.map (·.1)).Nodup) {i : Nat} {e : ByteArray × Nat} (h : L[i]? = some (K, e)) : lk K (L.eraseIdx i) = none := by
  refine lk_none fun q => ?_
  rw [← erase_map (fun x : Nat × ByteArray × Nat => x.1)] at q
  rw [List.mem_eraseIdx_iff_getElem?] at q
  obtain ⟨j, hj, hk⟩ := q
  have hk2 : (L.map (·.1))[i]? = some K := by rw [List.getElem?_map, h]; rfl
  have h1 := (List.getElem?_eq_some_iff.1 hk).1
  exact hj ((List.getElem?_inj h1 hn).1 (by rw [hk, hk2]))
theorem clsE_some' {n : Int} : ∀ {L : List Cl} {i : Nat}, clsE n L = some i → (∃ c, L[i]? = some c ∧ n ≤ (c.size : Nat)) ∧ ∀ j c, j < i → L[j]? = some c → (c.size : Int) < n
  | [], i, h => by simp [clsE] at h
  | x :: L, i, h => by
    simp only [clsE] at h
    split at h
    · rename_i hx
      cases h
      exact ⟨⟨x, rfl, hx⟩, fun j c hj _ => absurd hj (Nat.not_lt_zero j)⟩
    · rename_i hx
      rw [Option.map_eq_some_iff] at h
      obtain ⟨i', h1, rfl⟩ := h
      obtain ⟨⟨c, h2, h3⟩, h4⟩ := clsE_some' h1
      refine ⟨⟨c, by simpa using h2, h3⟩, fun j c' hj hc => ?_⟩
      cases j with
      | zero => simp at hc; subst hc; omega
      | succ j => exact h4 j c' (by omega) (by simpa using hc)
/-- Handles that were told, and what was put under them. -/
structure HoldI (s : Sb) (hs : List (Nat × Nat)) (ds : List ByteArray) : Prop where
  nd : hs.Nodup
  len : ds.length = hs.length
  live : ∀ (j : Nat) (x : Nat × Nat) (d : ByteArray), hs[j]? = some x → ds[j]? = some d → ∃ c, s.cls[x.1]? = some c ∧ dataOf x.2 c.live = some d ∧ d.size ≤ c.size
  cnt : liveN s.cls = hs.length
  wt : weight s.cls = (hs.map fun x => 64 * 2 ^ x.1).sum
section
variable {P Q : Nat} {s : Sb} {pgs : List Nat} {hs : List (Nat × Nat)} {ds : List ByteArray}
theorem HoldI.mem (H : HoldI s hs ds) {x : Nat × Nat} (hx : x ∈ hs) : ∃ c d, s.cls[x.1]? = some c ∧ dataOf x.2 c.live = some d := by
  obtain ⟨j, hj⟩ := List.getElem?_of_mem hx
  have hl := (List.getElem?_eq_some_iff.1 hj).1
  obtain ⟨d, hd⟩ : ∃ d, ds[j]? = some d := ⟨ds[j]'(by rw [H.len]; exact hl), by simp⟩
  obtain ⟨c, h1, h2, _⟩ := H.live j x d hj hd
  exact ⟨c, d, h1, h2⟩
theorem HoldI.fresh (H : HoldI s hs ds) {i K : Nat} {c : Cl} (hi : s.cls[i]? = some c) (hK : K ∉ c.live.map (·.1)) : (i, K) ∉ hs := fun q => by
  obtain ⟨c', d, h1, h2⟩ := H.mem q
  simp only at h1 h2
  rw [hi] at h1; cases h1
  unfold dataOf at h2
  rw [lk_none hK] at h2; cases h2
theorem HoldI.alloc (I : SbI P Q s pgs) (H : HoldI s hs ds) {i K : Nat} {c c2 : Cl} (hi : s.cls[i]? = some c) (hK : K ∉ c.live.map (·.1)) {d : ByteArray} {st left used : Nat} (hl : c2.live = c.live ++ [(K, d, st)]) (hz : c2.size = c.size) (hd : d.size ≤ c.size) :
    HoldI ⟨s.page, left, used, s.cls.set i c2⟩ (hs ++ [(i, K)]) (ds ++ [d]) := by
  have hil := (List.getElem?_eq_some_iff.1 hi).1
  have fr := H.fresh hi hK
  refine ⟨?_, by simp [H.len], fun j x d' hx hd' => ?_, ?_, ?_⟩
  · rw [List.nodup_append]
    exact ⟨H.nd, by simp, fun a ha b hb q => fr (by rw [List.mem_singleton.1 hb] at q; rw [← q]; exact ha)⟩
  · have old : ∀ c', s.cls[x.1]? = some c' → dataOf x.2 c'.live = some d' → d'.size ≤ c'.size → ∃ c, (s.cls.set i c2)[x.1]? = some c ∧ dataOf x.2 c.live = some d' ∧ d'.size ≤ c.size := fun c' h1 h2 h3 => by
      by_cases q : i = x.1
      · rw [← q, hi] at h1; cases h1
        exact ⟨c2, by rw [← q, List.getElem?_set_self hil], by rw [hl]; exact lk_append_some _ h2, by rw [hz]; exact h3⟩
      · exact ⟨c', by rw [List.getElem?_set_ne q]; exact h1, h2, h3⟩
    rw [List.getElem?_append] at hx hd'
    rw [H.len] at hd'
    split at hx
    · rename_i hj
      rw [if_pos hj] at hd'
      obtain ⟨c', h1, h2, h3⟩ := H.live j x d' hx hd'
      exact old c' h1 h2 h3
    · rename_i hj
      rw [if_neg hj] at hd'
      have e := (List.getElem?_eq_some_iff.1 hx).1
      have e0 : j - hs.length = 0 := by simp at e; exact e
      rw [e0] at hx hd'
      simp at hx hd'
      subst hx hd'
      exact ⟨c2, by simp only; rw [List.getElem?_set_self hil], by rw [hl]; exact lk_last hK, by rw [hz]; exact hd⟩
  · have := mapsum_set (f := fun c => c.live.length) (c2 := c2) hi
    have e := H.cnt
    unfold liveN at e ⊢
    simp only [hl, List.length_append, List.length_singleton] at this ⊢
    omega
  · have := mapsum_set (f := fun c => c.live.length * c.size) (c2 := c2) hi
    have e := H.wt
    unfold weight at e ⊢
    simp only [hl, hz, List.length_append, List.length_singleton, Nat.add_mul, Nat.one_mul, List.map_append, List.sum_append, List.map_cons, List.map_nil, List.sum_cons, List.sum_nil, Nat.add_zero] at this ⊢
    rw [← I.sz i c hi]
    omega
theorem sum_cut {l : List Nat} {j a : Nat} (h : l[j]? = some a) : (l.take j ++ l.drop (j + 1)).sum + a = l.sum := by
  induction l generalizing j with
  | nil => simp at h
  | cons x l ih =>
    cases j with
    | zero => simp at h; subst h; simp; omega
    | succ j =>
      simp at h
      have := ih h
      simp only [List.take_succ_cons, List.drop_succ_cons, List.cons_append, List.sum_cons]
      omega
theorem HoldI.free (I : SbI P Q s pgs) (H : HoldI s hs ds) {j i K : Nat} (hj : hs[j]? = some (i, K)) {c c2 : Cl} (hi : s.cls[i]? = some c) {y : Nat × ByteArray × Nat} (hy : lk K c.live = some y) (hl : c2.live = c.live.eraseIdx y.1) (hz : c2.size = c.size) :
    HoldI { s with cls := s.cls.set i c2 } (hs.take j ++ hs.drop (j + 1)) (ds.take j ++ ds.drop (j + 1)) := by
  have hil := (List.getElem?_eq_some_iff.1 hi).1
  have hjl := (List.getElem?_eq_some_iff.1 hj).1
  obtain ⟨st, hst⟩ := lk_some hy
  have hyl := (List.getElem?_eq_some_iff.1 hst).1
  refine ⟨?_, ?_, fun m x d' hx hd' => ?_, ?_, ?_⟩
  · rw [← List.eraseIdx_eq_take_drop_succ]
    exact H.nd.sublist (List.eraseIdx_sublist _ _)
  · rw [← List.eraseIdx_eq_take_drop_succ, ← List.eraseIdx_eq_take_drop_succ, List.length_eraseIdx, List.length_eraseIdx, H.len]
  · rw [← List.eraseIdx_eq_take_drop_succ, List.getElem?_eraseIdx] at hx hd'
    obtain ⟨m', hm', hx', hd''⟩ : ∃ m', m' ≠ j ∧ hs[m']? = some x ∧ ds[m']? = some d' := by
      split at hx
      · rename_i h; rw [if_pos h] at hd'; exact ⟨m, by omega, hx, hd'⟩
      · rename_i h; rw [if_neg h] at hd'; exact ⟨m + 1, by omega, hx, hd'⟩
    obtain ⟨c', h1, h2, h3⟩ := H.live m' x d' hx' hd''
    by_cases q : i = x.1
    · rw [← q, hi] at h1; cases h1
      have hne : x.2 ≠ K := fun z => hm' ((List.getElem?_inj (List.getElem?_eq_some_iff.1 hx').1 H.nd).1 (by rw [hx', hj, q, ← z]))
      exact ⟨c2, by simp only; rw [← q, List.getElem?_set_self hil], by rw [hl, dataOf_erase hne hst]; exact h2, by rw [hz]; exact h3⟩
    · exact ⟨c', by simp only; rw [List.getElem?_set_ne q]; exact h1, h2, h3⟩
  · have := mapsum_set (f := fun c => c.live.length) (c2 := c2) hi
    have e := H.cnt
    unfold liveN at e ⊢
    have e2 : c2.live.length + 1 = c.live.length := by rw [hl, List.length_eraseIdx, if_pos hyl]; omega
    simp only [List.length_append, List.length_take, List.length_drop] at this ⊢
    omega
  · have := mapsum_set (f := fun c => c.live.length * c.size) (c2 := c2) hi
    have e := H.wt
    unfold weight at e ⊢
    have e2 : c.live.length = c2.live.length + 1 := by rw [hl, List.length_eraseIdx, if_pos hyl]; omega
    have sc := sum_cut (l := hs.map fun x => 64 * 2 ^ x.1) (j := j) (a := 64 * 2 ^ i) (by rw [List.getElem?_map, hj]; rfl)
    rw [← List.map_take, ← List.map_drop, ← List.map_append] at sc
    rw [e2, hz, Nat.add_mul, Nat.one_mul] at this
    have := I.sz i c hi
    show ((s.cls.set i c2).map fun c => c.live.length * c.size).sum = _
    omega
end
def hC (x : Nat × Nat) : List AV := [.int .i64 (x.1 : Nat), .int .i64 (x.2 : Nat)]
theorem hC_len (x : Nat × Nat) : (hC x).length = 2 := rfl

/-- A slab, handles and texts, each in memory of its own. -/
structure HS (h0 h : Heap) (b : Nat) (s : Sb) (vc : AV) (hs : List (Nat × Nat)) (ds : List ByteArray) (vh vd : AV) : Prop where
  o : SlO h b s vc
  mh : Mine 2 hs.length h vh (cat hC hs)
  md : Mine 1 ds.length h vd (ds.map sv)
  fh : ∀ e, Has vh e → e ∉ fpS b s vc
  fd : ∀ e, Has vd e → e ∉ fpS b s vc
  hd : ∀ e, Has vh e → ¬ Has vd e
  kb : Keep h0.next nob h0 h
  nb : ∀ e, e ∈ fpS b s vc → h0.next ≤ e
  nh : ∀ e, Has vh e → h0.next ≤ e
  nd : ∀ e, Has vd e → h0.next ≤ e
section
variable {h0 h h' : Heap} {b : Nat} {s s' : Sb} {vc : AV} {hs hs' : List (Nat × Nat)} {ds ds' : List ByteArray} {vh vd vh' vd' : AV}
theorem HS.ext (S : HS h0 h b s vc hs ds vh vd) (K : Keep h.next nob h h') : HS h0 h' b s vc hs ds vh vd :=
  ⟨S.o.ext K, S.mh.ext K, S.md.ext K, S.fh, S.fd, S.hd, S.kb.trans (K.weak S.kb.1 fun _ _ q => q), S.nb, S.nh, S.nd⟩
theorem HS.slab (S : HS h0 h b s vc hs ds vh vd) (O : SlO h' b s' vc) (f : ∀ e, e ∈ fpS b s' vc → e ∈ fpS b s vc ∨ h.next ≤ e) (K : Keep h.next (fun e => e ∈ fpS b s vc) h h') : HS h0 h' b s' vc hs ds vh vd := by
  have hk := S.kb.1
  refine ⟨O, S.mh.keep K S.fh, S.md.keep K S.fd, fun e he q => ?_, fun e he q => ?_, S.hd, ⟨Nat.le_trans S.kb.1 K.1, fun e he _ => ?_⟩, fun e he => ?_, S.nh, S.nd⟩
  · rcases f e q with z | z
    · exact S.fh e he z
    · have := S.mh.lt he; omega
  · rcases f e q with z | z
    · exact S.fd e he z
    · have := S.md.lt he; omega
  · rw [K.2 e (by omega) (fun q => by have := S.nb e q; omega), S.kb.2 e he id]
  · rcases f e he with z | z
    · exact S.nb e z
    · omega
theorem HS.both (S : HS h0 h b s vc hs ds vh vd) (Mh : Mine 2 hs'.length h' vh' (cat hC hs')) (Md : Mine 1 ds'.length h' vd' (ds'.map sv)) (K : Keep h.next (fun e => Has vh e ∨ Has vd e) h h') (fh : From h vh vh') (fd : From h vd vd') (hd : ∀ e, Has vh' e → ¬ Has vd' e) :
    HS h0 h' b s vc hs' ds' vh' vd' := by
  have hk := S.kb.1
  refine ⟨S.o.keep K fun e he q => ?_, Mh, Md, fun e he q => ?_, fun e he q => ?_, hd, ⟨Nat.le_trans S.kb.1 K.1, fun e he _ => ?_⟩, S.nb, fun e he => ?_, fun e he => ?_⟩
  · rcases q with q | q
    · exact S.fh e q he
    · exact S.fd e q he
  · rcases fh e he with z | z
    · exact S.fh e z q
    · have := S.o.fp_lt q; omega
  · rcases fd e he with z | z
    · exact S.fd e z q
    · have := S.o.fp_lt q; omega
  · rw [K.2 e (by omega) (fun q => by
      rcases q with q | q
      · have := S.nh e q; omega
      · have := S.nd e q; omega), S.kb.2 e he id]
  · rcases fh e he with z | z
    · exact S.nh e z
    · omega
  · rcases fd e he with z | z
    · exact S.nd e z
    · omega
end
/-- Two handles are compared. -/
theorem hand_eq (a b c d : Int) : semPure Try.prog (Op.equal 34 (.agg ⟨[.int .i64 a, .int .i64 b]⟩) (.agg ⟨[.int .i64 c, .int .i64 d]⟩)) = some (decide (a = c ∧ b = d)) := by
  unfold Op.equal Op.maxDepth
  rw [equal_struct (p := fun fl => match fl.offset with | 0 => a == c | _ => b == d) (d := 9999) Try.underlying34 (by kernel_rfl) (fun fl hf _ => ?_)]
  · congr 1
    have hi : ∀ a b : Int, (a == b) = decide (a = b) := fun a b => rfl
    simp [hi]
  simp only [List.mem_cons, List.not_mem_nil, or_false] at hf
  rcases hf with rfl | rfl
  all_goals exact ⟨_, _, part_basic (u := .int .i64) Try.underlying3 rfl rfl, part_basic (u := .int .i64) Try.underlying3 rfl rfl, equal_basic (u := .int .i64) Try.underlying3 rfl rfl _⟩
section
variable {a b c e : Int} {t : Tr AV} {d : Option Tmp} {tv v : TypeId} {pos : String} {af : Array Edge} {gd : Option (Nat × Bool)} {i j : Nat}
theorem aback_h (hx : ev t (.tmp i) = .agg [.int .i64 a, .int .i64 b]) (hy : ev t (.tmp j) = .agg [.int .i64 c, .int .i64 e]) :
    aback0 Try.prog t ⟨d, .binOp .eql 34 (.tmp i) (.tmp j) tv, v, pos, af, gd⟩ = some (.bool (decide (a = c ∧ b = e))) :=
  aback_eqS hx hy rfl rfl (by kernel_rfl) (hand_eq a b c e) .eql (.inl rfl)
theorem aback_hn (hx : ev t (.tmp i) = .agg [.int .i64 a, .int .i64 b]) (hy : ev t (.tmp j) = .agg [.int .i64 c, .int .i64 e]) :
    aback0 Try.prog t ⟨d, .binOp .neq 34 (.tmp i) (.tmp j) tv, v, pos, af, gd⟩ = some (.bool (!decide (a = c ∧ b = e))) :=
  aback_eqS hx hy rfl rfl (by kernel_rfl) (hand_eq a b c e) .neq (.inr rfl)
end
end Go.Proofs.Ytmoigchjmmjljaa
