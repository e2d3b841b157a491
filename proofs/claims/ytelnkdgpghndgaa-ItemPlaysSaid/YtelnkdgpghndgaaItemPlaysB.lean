/- Contracts of the functions that the law reaches, over the abstract machine. -/
import Derived.Test.YtelnkdgpghndgaaItemPlaysA
import Derived.Test.YtelnkdgpghndgaaMachA
import Derived.Test.YtelnkdgpghndgaaMachB
import Derived.Test.YtelnkdgpghndgaaMachC
import Derived.Test.YtelnkdgpghndgaaMachD
/- Contracts of slab: Free. -/
namespace Go.Proofs.Ytelnkdgpghndgaa
open Go Go.YtelnkdgpghndgaaAbs
set_option linter.unusedSimpArgs false
set_option linter.unusedVariables false
set_option maxRecDepth 4000

set_option maxHeartbeats 1000000 in
theorem free_ok (k : Nat) (hk : 70000 < k) (h : Heap) (b : Nat) (s : Sb) (vc : AV) (O : SlO h b s vc) (hl : s.cls.length ≤ 20) {i K : Nat} {c : Cl} (hi : s.cls[i]? = some c) {y : Nat × ByteArray × Nat} (hy : lk K c.live = some y) (hfl : c.free.length ≤ 100000000) :
    ∃ v' h', acall Try.prog (k + 2) 46 [.ptr b 0, .agg [.int .i64 (i : Nat), .int .i64 (K : Nat)]] h = some (v', h') ∧ v' = .bool true ∧ ∃ (c2 : Cl), c2.size = c.size ∧ c2.free = c.free ++ [K] ∧ c2.count = c.count ∧ c2.live = c.live.eraseIdx y.1 ∧ c2.cl = c.cl ∧
      SlO h' b { s with cls := s.cls.set i c2 } vc ∧ (∀ e, e ∈ fpS b { s with cls := s.cls.set i c2 } vc → e ∈ fpS b s vc ∨ h.next ≤ e) ∧ Keep h.next (fun e => e ∈ fpS b s vc) h h' := by
  have hil := (List.getElem?_eq_some_iff.1 hi).1
  have rwH : (AV.agg [.int .i64 (i : Nat), .int .i64 (K : Nat)]).row1 = some [.int .i64 (i : Nat), .int .i64 (K : Nat)] := rfl
  obtain ⟨h1, e1⟩ : ∃ h1, h.new (.cells [.int .i64 (i : Nat), .int .i64 (K : Nat)] false) = h1 := ⟨_, rfl⟩
  have k1 : Keep h.next nob h h1 := by rw [← e1]; exact Keep.new (Nat.le_refl _) _
  have n1 : h.next < h1.next := by rw [← e1]; exact Nat.lt_succ_self _
  have g1 : h1.get h.next = some (.cells [.int .i64 (i : Nat), .int .i64 (K : Nat)] false) := by rw [← e1]; exact get_new_self _ _
  have lA := fun (h' : Heap) (g : h'.get h.next = some (.cells [.int .i64 (i : Nat), .int .i64 (K : Nat)] false)) => ldc (P := Try.prog) (ty := 3) g ta3 (i := 0) (x := .int .i64 (i : Nat)) rfl
  have lB := fun (h' : Heap) (g : h'.get h.next = some (.cells [.int .i64 (i : Nat), .int .i64 (K : Nat)] false)) => ldc (P := Try.prog) (ty := 3) g ta3 (i := 1) (x := .int .i64 (K : Nat)) rfl
  have lH : aload Try.prog h1 58 h.next 0 = some (.agg [.int .i64 (i : Nat), .int .i64 (K : Nat)]) := by simp [aload, Heap.row, g1, ta58, ts58]
  have O1 := O.ext k1
  have hyI : lkI (K : Int) c.live = some y := by unfold lkI; rw [if_pos (by omega), Int.toNat_natCast]; exact hy
  obtain ⟨_, h2, E2, rfl, k2⟩ := read_ok k h1 b s vc hk O1 hl (i : Nat) (K : Nat)
  have hr : readS s (i : Nat) (K : Nat) = some y := by unfold readS; rw [if_neg (by omega), Int.toNat_natCast, hi]; exact hyI
  rw [hr] at E2
  have O2 := O1.ext k2
  have K2 := k1.trans (k2.weak k1.1 fun _ _ q => q)
  have n2 : h.next < h2.next := Nat.lt_of_lt_of_le n1 k2.1
  have g2 := (k2.2 _ n1 id).trans g1
  have lA2 := lA h2 g2
  have lB2 := lB h2 g2
  have l32 := O2.ld3 (ty := 92) ta92
  have ix2 := O2.own.sl.idx (P := Try.prog) Try.underlying92 ts97 (j := i) hil .i64
  have lm2 := O2.ldc hi (o := 2) (x := .mp c.mb) (by omega) rfl (ty := 95) ta95
  have E3 := mapDel_me (O2.live c (List.mem_of_getElem? hi)).1 hyI
  obtain ⟨O3, fp3, K3⟩ := O2.updM hi (c.live.eraseIdx y.1) c.cl
  obtain ⟨h3, e3⟩ : ∃ h3, h2.set c.mb (.map ((c.live.eraseIdx y.1).map me) c.cl) = h3 := ⟨_, rfl⟩
  rw [e3] at E3 O3 K3
  have hfn : h.next ∉ fpS b s vc := fun q => by have := O.fp_lt q; omega
  have g3 := (K3.2 _ n2 hfn).trans g2
  have n3 : h.next < h3.next := Nat.lt_of_lt_of_le n2 K3.1
  have lB3 := lB h3 g3
  have gi : (s.cls.set i { c with live := c.live.eraseIdx y.1, cl := c.cl })[i]? = some { c with live := c.live.eraseIdx y.1, cl := c.cl } := by simp [hil]
  have lf3 := O3.ldc gi (o := 1) (x := c.fv) (by omega) rfl (ty := 44) ta44
  have vb := O3.at_lt gi
  have M3 := O3.free _ (List.mem_of_getElem? gi)
  obtain ⟨h4, e4⟩ : ∃ h4, h3.new (.cells [.int .i64 (K : Nat)] false) = h4 := ⟨_, rfl⟩
  have k4 : Keep h3.next nob h3 h4 := by rw [← e4]; exact Keep.new (Nat.le_refl _) _
  obtain ⟨v5, h5, E5, M5, Fr5, K5⟩ := M3.push (P := Try.prog) el44 (a := [.int .i64 (K : Nat)]) (ex := true) rfl rfl (by simp only; omega)
  rw [e4] at E5
  obtain ⟨h6, E6, O6, f6, K6⟩ := O3.upd gi { c with live := c.live.eraseIdx y.1, free := c.free ++ [K], fv := v5 } (o := 1) (by omega) (a := v5) rfl rfl M5.oneV ⟨rfl, rfl⟩ K5 (by simp only [List.length_append, List.length_singleton, List.map_append]; exact M5) Fr5
  rw [← Nat.add_assoc] at E6
  simp only [List.set_set] at O6 f6
  have sfv : sameAV c.fv c.fv = true := M3.sl.same
  have ro := row1_one M5.oneV
  have A4 : Agree h3.next h3 h4 := fun e he => k4.2 e he id
  have h23 := K3.1
  have h36 := K6.1
  have fin : ∃ (c2 : Cl), c2.size = c.size ∧ c2.free = c.free ++ [K] ∧ c2.count = c.count ∧ c2.live = c.live.eraseIdx y.1 ∧ c2.cl = c.cl ∧
      SlO h6 b { s with cls := s.cls.set i c2 } vc ∧ (∀ e, e ∈ fpS b { s with cls := s.cls.set i c2 } vc → e ∈ fpS b s vc ∨ h.next ≤ e) ∧ Keep h.next (fun e => e ∈ fpS b s vc) h h6 := by
    refine ⟨{ c with live := c.live.eraseIdx y.1, free := c.free ++ [K], fv := v5 }, rfl, rfl, rfl, rfl, rfl, O6, fun e he => ?_, ⟨by omega, fun e he hn => ?_⟩⟩
    · rcases f6 e he with z | z
      · exact .inl (fp3 ▸ z)
      · exact .inr (by omega)
    · rw [K6.2 e (by omega) (fun q => hn (fp3 ▸ q)), K3.2 e (by omega) hn, K2.2 e he id]
  rw [acall_text [6] Try.func46 (by kernel_rfl)]
  refine afuncT_ex rfl (by simp [Try.f46]) ?_
  simp [Try.f46, rwH, e1, lH, E2, l32, lA2, lB2, ix2, lm2, E3]
  refine W_split 8 h3.next (by rfl) (by kernel_rfl) (by rfl) ?_
  dsimp only [List.take, List.drop]
  simp [obl, mayEff, mayRead, sameAV, vb, n3, lf3, sfv, lB3, aalloc, afill, e4, A4, E5, ro, E6]
  exact fin
end Go.Proofs.Ytelnkdgpghndgaa
/- slab: which chunks are free and which are live, in plain words. -/
namespace Go.Proofs.Ytelnkdgpghndgaa
open Go Go.YtelnkdgpghndgaaAbs
set_option linter.unusedSimpArgs false
set_option linter.unusedVariables false
set_option maxRecDepth 4000

/-- Free and live chunks of a class that has all the pages. -/
structure FL (n p C left : Nat) (F ks : List Nat) : Prop where
  nd : (F ++ ks).Nodup
  lt : ∀ x, x ∈ F ++ ks → x < C
  len : F.length + ks.length = C
  pages : C + n * left = n * p
theorem fl_mem {n c j x : Nat} (hj : j ≤ n) (h : x ∈ fl n c j) : c ≤ x ∧ x < c + n := by
  unfold fl at h
  obtain ⟨t, ht, rfl⟩ := List.mem_map.1 h
  have := List.mem_range.1 ht
  omega
theorem fl_nodup (n c : Nat) : ∀ j, j ≤ n → (fl n c j).Nodup
  | 0, _ => by simp [fl]
  | j + 1, hj => by
    rw [fl_succ, List.nodup_append]
    refine ⟨fl_nodup n c j (by omega), by simp, fun x hx y hy q => ?_⟩
    rw [List.mem_singleton.1 hy] at q
    unfold fl at hx
    obtain ⟨t, ht, rfl⟩ := List.mem_map.1 hx
    have := List.mem_range.1 ht
    omega
theorem FL.pop {n p C left : Nat} {F ks : List Nat} (I : FL n p C left F ks) (hn : 1 ≤ n) (hk : ks.length < n * p) {F1 : List Nat} {C1 left1 : Nat} (e1 : F1 = if F = [] then fl n C n else F) (e2 : C1 = if F = [] then C + n else C) (e3 : left1 = if F = [] then left - 1 else left) :
    (F ≠ [] ∨ left ≠ 0) ∧ ∀ K, F1[F1.length - 1]? = some K → K ∉ ks ∧ FL n p C1 left1 (F1.take (F1.length - 1)) (ks ++ [K]) := by
  obtain ⟨nd, lt, len, pages⟩ := I
  have room : F ≠ [] ∨ left ≠ 0 := by
    by_cases hF : F = []
    · right
      intro h0
      subst hF
      subst h0
      simp at len pages
      omega
    · exact .inl hF
  refine ⟨room, ?_⟩
  have base : FL n p C1 left1 F1 ks := by
    by_cases hF : F = []
    · rw [if_pos hF] at e1 e2 e3
      have hl := room.resolve_left (fun q => q hF)
      subst hF e1 e2 e3
      simp only [List.nil_append, List.length_nil, Nat.zero_add] at nd lt len
      refine ⟨?_, fun x hx => ?_, by rw [fl_len]; omega, ?_⟩
      · rw [List.nodup_append]
        refine ⟨fl_nodup n C n (Nat.le_refl _), nd, fun x hx y hy q => ?_⟩
        have := (fl_mem (Nat.le_refl _) hx).1
        have := lt y hy
        omega
      · rcases List.mem_append.1 hx with h | h
        · exact (fl_mem (Nat.le_refl _) h).2
        · have := lt x h; omega
      · obtain ⟨l, rfl⟩ : ∃ l, left = l + 1 := ⟨left - 1, by omega⟩
        rw [Nat.mul_succ] at pages
        simp only [Nat.add_sub_cancel]
        omega
    · rw [if_neg hF] at e1 e2 e3
      subst e1 e2 e3
      exact ⟨nd, lt, len, pages⟩
  intro K hK
  obtain ⟨nd, lt, len, pages⟩ := base
  have h1 := (List.getElem?_eq_some_iff.1 hK).1
  have split : F1 = F1.take (F1.length - 1) ++ [K] := by
    have := List.take_append_drop (F1.length - 1) F1
    rw [List.drop_eq_getElem_cons h1, (List.getElem?_eq_some_iff.1 hK).2, List.drop_of_length_le (by omega)] at this
    exact this.symm
  have perm : (F1.take (F1.length - 1) ++ (ks ++ [K])).Perm (F1 ++ ks) := by
    conv => rhs; rw [split]
    rw [List.append_assoc]
    exact List.Perm.append_left _ List.perm_append_comm
  refine ⟨fun q => ?_, ⟨perm.nodup_iff.2 nd, fun x hx => lt x (perm.mem_iff.1 hx), ?_, pages⟩⟩
  · rw [List.nodup_append] at nd
    exact nd.2.2 K (List.mem_of_getElem? hK) K q rfl
  · rw [List.length_take, List.length_append, List.length_singleton]
    omega
theorem FL.give {n p C left K : Nat} {F ks : List Nat} (I : FL n p C left F (K :: ks)) : FL n p C left (F ++ [K]) ks := by
  have e : F ++ [K] ++ ks = F ++ K :: ks := by simp
  exact ⟨by rw [e]; exact I.nd, by rw [e]; exact I.lt, by have := I.len; simp at this ⊢; omega, I.pages⟩
theorem FL.full {n p C left : Nat} {F ks : List Nat} (I : FL n p C left F ks) (hn : 1 ≤ n) (hk : ks.length = n * p) : F = [] ∧ left = 0 := by
  have len := I.len
  have pages := I.pages
  constructor
  · exact List.eq_nil_of_length_eq_zero (by omega)
  · have : n * left = 0 := by omega
    rcases Nat.mul_eq_zero.1 this with h | h
    · omega
    · exact h
theorem FL.new (n p : Nat) : FL n p 0 p [] [] := ⟨List.nodup_nil, fun x hx => by simp at hx, rfl, by omega⟩
/-- A live chunk's entry. -/
theorem lk_none {K : Nat} : ∀ {L : List (Nat × ByteArray × Nat)}, K ∉ L.map (·.1) → lk K L = none
  | [], _ => rfl
  | x :: L, h => by
    simp at h
    simp only [lk]
    rw [if_neg (fun q => h.1 q.symm), lk_none (by simpa using h.2)]
    rfl
theorem lput_keys {K : Nat} {d : ByteArray} {L L' : List (Nat × ByteArray × Nat)} {cl cl' : Nat} (h : K ∉ L.map (·.1)) (e : (L', cl') = lput K d L cl) : L'.map (·.1) = L.map (·.1) ++ [K] := by
  unfold lput at e
  rw [lk_none h] at e
  simp only at e
  rw [(Prod.mk.inj e).1]
  simp
theorem lk_head {K : Nat} {ks : List Nat} {L : List (Nat × ByteArray × Nat)} (h : L.map (·.1) = K :: ks) : ∃ y, lk K L = some y ∧ y.1 = 0 ∧ (L.eraseIdx y.1).map (·.1) = ks := by
  cases L with
  | nil => simp at h
  | cons x L =>
    simp at h
    refine ⟨(0, x.2.1, x.2.2), ?_, rfl, by simpa using h.2⟩
    simp only [lk]
    rw [if_pos h.1]
end Go.Proofs.Ytelnkdgpghndgaa
/- Contracts of depotref5.Slab: Alloc. -/
namespace Go.Proofs.Ytelnkdgpghndgaa
open Go Go.YtelnkdgpghndgaaAbs
set_option linter.unusedSimpArgs false
set_option linter.unusedVariables false
set_option maxRecDepth 4000

/-- A text and a mark more. -/
theorem RO.grow {h : Heap} {b : Nat} {r : Rb} {vc : AV} (O : RO h b r vc) {i : Nat} {c : Rc} (hi : r.cls[i]? = some c) (hd : c.data.length < 1000000000) (hl : c.live.length < 1000000000) :
    ∃ v1 h4 v2 h5 h6 h7, aappend Try.prog ((h.bump 20).at_ (h.next + 6) (.cells [.str ⟨#[]⟩] false)) 26 26 c.dv (.sl (h.next + 6) 0 1 1 1 true) = some (v1, h4) ∧ nextOk h.next 20 h4 = true ∧ AgreeG (Has vc) ((h.bump 20).at_ (h.next + 6) (.cells [.str ⟨#[]⟩] false)) h4 ∧ Keep h.next (Has c.dv) h h4 ∧
      aappend Try.prog (h4.at_ (h.next + 12) (.cells [.bool false] false)) 39 39 c.lv (.sl (h.next + 12) 0 1 1 1 true) = some (v2, h5) ∧ nextOk h.next 20 h5 = true ∧ AgreeG (Has vc) (h4.at_ (h.next + 12) (.cells [.bool false] false)) h5 ∧
      alay h5 vc.blk (vc.off + i * 5 + 3) [v1] = some h6 ∧ alay h6 vc.blk (vc.off + i * 5 + 4) [v2] = some h7 ∧ nextOk h.next 20 h6 = true ∧ nextOk h.next 20 h7 = true ∧ v1.one = true ∧ v2.one = true ∧
      Stp h (r.th b vc) h7 (Rb.th { r with cls := r.cls.set i { c with data := c.data ++ [.empty], live := c.live ++ [false], dv := v1, lv := v2 } } b vc) := by
  have hil := (List.getElem?_eq_some_iff.1 hi).1
  obtain ⟨a0, a1, a2⟩ := RO.at O hi
  obtain ⟨v1, h4, v2, h5, e1, n1, g1, k1, e2, n2, g2, m1, m2, K, f1, f2, dj, o1, o2⟩ := push2 (P := Try.prog) el26 el39 (RO.data O hi) (RO.live O hi) (fun d hd => Hold.ne O a1 a2 (by omega) hd) (a1 := [.str ⟨#[]⟩]) (a2 := [.bool false]) rfl rfl rfl rfl hd hl 20 6 12 (by omega) (by omega)
  obtain ⟨p1, p2, p3⟩ := Hold.upd2 (v' := v1) (w' := v2) O a1 a2 (by omega) K (o' := .vec 1 (c.data.length + 1) (c.data.map sv ++ [AV.str ⟨#[]⟩])) (p' := .vec 1 (c.live.length + 1) (c.live.map bv ++ [AV.bool false])) m1 m2 f1 f2 dj
  have Mv : Mine 5 r.cls.length h5 vc (cat Rc.c r.cls) := p1.get (i := 1) (v := vc) (o := .vec 5 r.cls.length (cat Rc.c r.cls)) (by
    rw [List.getElem?_set_ne (by omega), List.getElem?_set_ne (by omega)]; rfl)
  obtain ⟨h6, b1, b2, b3, b4⟩ := Mv.lay (j := i * 5 + 3) (vs := [v1]) (by rw [cat_len Rc.c_len]; simp; omega) (by omega) (by simp [o1])
  have c1 := cat_set1 (f := Rc.c) (sz := 5) Rc.c_len hi (o := 3) (by omega) (a := v1) (y := { c with dv := v1 }) rfl
  rw [show i * 5 + 3 + [v1].length = i * 5 + 3 + 1 from rfl, c1] at b2
  have hi1 : (r.cls.set i { c with dv := v1 })[i]? = some { c with dv := v1 } := by simp [hil]
  obtain ⟨h7, d1, d2, d3, d4⟩ := b2.lay (j := i * 5 + 4) (vs := [v2]) (by rw [cat_len Rc.c_len]; simp; omega) (by omega) (by simp [o2])
  have c2 := cat_set1 (f := Rc.c) (sz := 5) Rc.c_len hi1 (o := 4) (by omega) (a := v2) (y := { c with data := c.data ++ [.empty], live := c.live ++ [false], dv := v1, lv := v2 }) rfl
  rw [show i * 5 + 4 + [v2].length = i * 5 + 4 + 1 from rfl, c2, List.set_set] at d2
  have b3' : Keep h5.next (Has vc) h5 h7 := b3.trans (by rw [← b4]; exact d3)
  have idx1 : (((r.th b vc).set (i * 3 + 1 + 2) (v1, .vec 1 (c.data.length + 1) (c.data.map sv ++ [AV.str ⟨#[]⟩]))).set (i * 3 + 2 + 2) (v2, .vec 1 (c.live.length + 1) (c.live.map bv ++ [AV.bool false])))[1]? = some (vc, .vec 5 r.cls.length (cat Rc.c r.cls)) := by
    rw [List.getElem?_set_ne (by omega), List.getElem?_set_ne (by omega)]; rfl
  obtain ⟨q1, q2, q3⟩ := Hold.upd p1 idx1 b3' (o' := .vec 5 r.cls.length (cat Rc.c (r.cls.set i { c with data := c.data ++ [.empty], live := c.live ++ [false], dv := v1, lv := v2 }))) d2 (From.refl _ _)
  have eth : Rb.th { r with cls := r.cls.set i { c with data := c.data ++ [.empty], live := c.live ++ [false], dv := v1, lv := v2 } } b vc = (((r.th b vc).set (i * 3 + 1 + 2) (v1, .vec 1 (c.data.length + 1) (c.data.map sv ++ [AV.str ⟨#[]⟩]))).set (i * 3 + 2 + 2) (v2, .vec 1 (c.live.length + 1) (c.live.map bv ++ [AV.bool false]))).set 1 (vc, .vec 5 r.cls.length (cat Rc.c (r.cls.set i { c with data := c.data ++ [.empty], live := c.live ++ [false], dv := v1, lv := v2 }))) := by
    unfold Rb.th
    simp only [List.length_set]
    have s1 := gcat_set (f := Rc.th) Rc.th_len hi (o := 1) (by omega) (a := (v1, .vec 1 (c.data.length + 1) (c.data.map sv ++ [AV.str ⟨#[]⟩]))) (y := { c with data := c.data ++ [.empty], dv := v1 }) (by simp [Rc.th]; rfl)
    have hi2 : (r.cls.set i { c with data := c.data ++ [.empty], dv := v1 })[i]? = some { c with data := c.data ++ [.empty], dv := v1 } := by simp [hil]
    have s2 := gcat_set (f := Rc.th) Rc.th_len hi2 (o := 2) (by omega) (a := (v2, .vec 1 (c.live.length + 1) (c.live.map bv ++ [AV.bool false]))) (y := { c with data := c.data ++ [.empty], live := c.live ++ [false], dv := v1, lv := v2 }) (by simp [Rc.th]; rfl)
    rw [List.set_set, ← s1] at s2
    rw [← s2]
    rfl
  rw [← Nat.add_assoc] at b1 d1
  have nx : ∀ {h' : Heap}, h5.next ≤ h'.next → nextOk h.next 20 h' = true := fun hh => by
    unfold nextOk at n2 ⊢
    have := Nat.le_of_ble_eq_true n2
    exact Nat.ble_eq_true_of_le (by omega)
  refine ⟨v1, h4, v2, h5, h6, h7, e1, n1, g1 _ fun d hd => ⟨(RO.own O).lt hd, Hold.ne O (i := 1) rfl a1 (by omega) hd⟩, k1, e2, n2, g2 _ fun d hd => ⟨(RO.own O).lt hd, Hold.ne O (i := 1) rfl a2 (by omega) hd⟩, b1, d1, nx b3.1, nx b3'.1, o1, o2, ?_⟩
  rw [eth]
  exact ⟨q1, p2.trans q2 K.1, keep_two p3 p2 q3⟩
/-- What a class was made, on the way. -/
structure FilR (h0 : Heap) (b : Nat) (r : Rb) (vc : AV) (n0 i : Nat) (c : Rc) (left : Nat) (F : List Nat) (cnt : Nat) (D : List ByteArray) (L : List Bool) (h3 : Heap) (c3 : Rc) : Prop where
  size : c3.size = c.size
  free : c3.free = F
  count : c3.count = cnt
  data : c3.data = D
  live : c3.live = L
  s : Stp h0 (r.th b vc) h3 (Rb.th ⟨r.page, left, r.cls.set i c3⟩ b vc ++ [(.ptr n0 0, .blk [.int .i64 0, .int .i64 0])])
theorem rlp {n cnt : Nat} {F : List Nat} {C : List Nat} (hF : F = if C = [] then fl n cnt n else C) (hn : 1 ≤ n) (hn2 : n ≤ 65536) (hC : C.length ≤ 1000000) : 1 ≤ F.length ∧ F.length ≤ 1000000 := by
  rw [hF]
  split
  · rw [fl_len]; omega
  · rename_i q
    have := List.length_pos_iff.2 q
    omega
set_option maxHeartbeats 4000000 in
theorem ralloc_ok (k : Nat) (hk : 70000 < k) (h : Heap) (b : Nat) (r : Rb) (vc : AV) (O : RO h b r vc) (I : RbI r) (hl : r.cls.length ≤ 20) (d : ByteArray) {i : Nat} {c : Rc} (hc : clsS (d.size : Nat) (r.cls.map (·.size)) = some i) (hi : r.cls[i]? = some c)
    (hp : r.page ≤ 65536) (hlu : r.left ≤ 1000) (hs : 1 ≤ c.size ∧ c.size ≤ r.page) (hflt : ∀ x, x ∈ c.free → x < c.count) (hroom : c.free ≠ [] ∨ r.left ≠ 0) :
    ∃ v' h', acall Try.prog (k + 2) 43 [.ptr b 0, .str d] h = some (v', h') ∧ ∃ (c2 : Rc) (F : List Nat) (cnt left K : Nat),
      F = (if c.free = [] then fl (r.page / c.size) c.count (r.page / c.size) else c.free) ∧ cnt = (if c.free = [] then c.count + r.page / c.size else c.count) ∧ left = (if c.free = [] then r.left - 1 else r.left) ∧ F[F.length - 1]? = some K ∧
      v' = .tup [.agg [.int .i64 (i : Nat), .int .i64 (K : Nat)], .int .i64 0] ∧ c2.size = c.size ∧ c2.free = F.take (F.length - 1) ∧ c2.count = cnt ∧ c2.data = (c.data ++ List.replicate (cnt - c.count) ByteArray.empty).set K d ∧ c2.live = (c.live ++ List.replicate (cnt - c.count) false).set K true ∧
      Stp h (r.th b vc) h' (Rb.th ⟨r.page, left, r.cls.set i c2⟩ b vc) := by
  have hil := (List.getElem?_eq_some_iff.1 hi).1
  have J := I i c hi
  obtain ⟨n0, hn0⟩ : ∃ n0, n0 = h.next := ⟨_, rfl⟩
  obtain ⟨h1, e1⟩ : ∃ h1, h.new (.cells [.int .i64 0, .int .i64 0] false) = h1 := ⟨_, rfl⟩
  have k1 : Keep h.next nob h h1 := by rw [← e1]; exact Keep.new (Nat.le_refl _) _
  have H1 : Holds h1 (.ptr n0 0) (.blk [.int .i64 0, .int .i64 0]) := ⟨n0, rfl, by rw [← e1, hn0]; exact Nat.lt_succ_self _, by rw [← e1, hn0]; exact get_new_self _ _⟩
  have S1 := (Stp.refl O).snoc k1 H1 (fun d hd => by cases hd; omega)
  obtain ⟨_, h2, E2, e2, rfl⟩ := rclass_ok k (by omega) h1 b r vc S1.a hl d.size
  replace e2 := e2.symm
  subst e2
  rw [hc] at E2
  simp only at E2
  have O1 := S1.a
  have l2 := RO.ld2 O1 (ty := 64) ta64
  have ix := (RO.own O1).sl.idx (P := Try.prog) Try.underlying64 ts91 (j := i) hil .i64
  have lf := RO.ldc O1 hi (o := 2) (x := c.fv) (by omega) rfl (ty := 44) ta44
  have flen := (RO.free O1 hi).sl.len'
  obtain ⟨N, hN⟩ : ∃ N, N = r.page / c.size := ⟨_, rfl⟩
  have hN1 : 1 ≤ N := by rw [hN]; exact (Nat.le_div_iff_mul_le (by omega)).2 (by omega)
  have hN2 : N ≤ 65536 := by rw [hN]; exact Nat.le_trans (Nat.div_le_self _ _) hp
  obtain ⟨F, hF⟩ : ∃ F, F = (if c.free = [] then fl N c.count N else c.free) := ⟨_, rfl⟩
  obtain ⟨cnt, hcn⟩ : ∃ cnt, cnt = (if c.free = [] then c.count + N else c.count) := ⟨_, rfl⟩
  obtain ⟨left, hle⟩ : ∃ left, left = (if c.free = [] then r.left - 1 else r.left) := ⟨_, rfl⟩
  have hFl := rlp hF hN1 hN2 J.fl
  obtain ⟨D, hD⟩ : ∃ D, D = c.data ++ List.replicate (cnt - c.count) (.empty : ByteArray) := ⟨_, rfl⟩
  obtain ⟨Lv, hLv⟩ : ∃ Lv, Lv = c.live ++ List.replicate (cnt - c.count) false := ⟨_, rfl⟩
  have jc := J.cs; have jd := J.dl; have jl := J.ll
  have hcc : c.count ≤ cnt ∧ cnt ≤ 1100000 := by rw [hcn]; split <;> omega
  have hDl : D.length = cnt := by rw [hD, List.length_append, List.length_replicate]; omega
  have hLl : Lv.length = cnt := by rw [hLv, List.length_append, List.length_replicate]; omega
  have ce : r.cls.set i c = r.cls := set_same' hi
  rw [acall_text [12, 15] Try.func43 (by kernel_rfl)]
  refine afuncT_ex rfl (by simp [Try.f43]) ?_
  simp [Try.f43, e1, ← hn0, E2, -W_regionL, W_stopL 5]
  simp [l2, ix, -W_regionL, W_stopL 5]
  refine W_cutN (fun st => st.h = h1 ∧ st.t.get 0 = some (.ptr b 0) ∧ st.t.get 1 = some (.str d) ∧ st.t.get 4 = some (.ptr n0 0) ∧ st.t.get 6 = some (.int .i64 (i : Nat)) ∧ st.t.get 7 = some (.ptr vc.blk (vc.off + i * 5)) ∧ st.t.get 28 = some (.bool (decide (c.free = [])))) ?_ ?_
  · rw [W_regionL rfl]
    simp [lf, flen]
  rintro ⟨t, h2⟩ ⟨e2, q0, q1, q4, q6, q7, q28⟩
  simp only at e2 q0 q1 q4 q6 q7 q28
  replace e2 := e2.symm
  subst e2
  simp only [onEx_normal]
  refine W_cutN (fun st => ∃ c3, st.t.get 1 = some (.str d) ∧ st.t.get 4 = some (.ptr n0 0) ∧ st.t.get 6 = some (.int .i64 (i : Nat)) ∧ st.t.get 7 = some (.ptr vc.blk (vc.off + i * 5)) ∧ FilR h b r vc n0 i c left F cnt D Lv st.h c3) ?_ ?_
  · by_cases hf : c.free = []
    rotate_left
    · rw [decide_eq_false hf] at q28
      rw [if_neg hf] at hF hcn hle
      subst hF hcn hle
      rw [Nat.sub_self, List.replicate_zero, List.append_nil] at hD hLv
      simp [q28, q1, q4, q6, q7]
      exact ⟨c, rfl, rfl, rfl, hD.symm, hLv.symm, by rw [ce]; exact S1⟩
    rw [decide_eq_true hf] at q28
    rw [if_pos hf] at hF hcn hle
    have hl0 : r.left ≠ 0 := hroom.resolve_left (fun q => q hf)
    have l1 := RO.ld1 O1 (ty := 3) ta3
    have w1 := i64w ((r.left : Int) - 1) (by omega) (by omega)
    obtain ⟨h2, E2', O2, f2, K2, n2⟩ := RO.setL O1 left
    have al2 : alay h1 b 1 [.int .i64 ((r.left : Int) - 1)] = some h2 := by
      rw [← E2']; congr 3; omega
    have S2 := S1.op ⟨O2, f2, K2⟩
    have l02 := RO.ld0 S2.a (ty := 3) ta3
    have lz2 := RO.ldc S2.a hi (o := 0) (x := .int .i64 (c.size : Nat)) (by omega) rfl (ty := 3) ta3
    simp only [Nat.add_zero] at lz2 l02
    have hsz0 : ¬ ((c.size : Int) = 0) := by omega
    have hsz1 : ¬ (c.size = 0) := by omega
    have hdiv : ((r.page : Int)).tdiv (c.size : Int) = (N : Nat) := by rw [hN]; rfl
    have wN := i64w (N : Int) (by omega) (by omega)
    have wN1 := i64w ((N : Int) - 1) (by omega) (by omega)
    have hl0' : ¬ ((r.left : Int) = 0) := by omega
    have fl0 : FilR h b r vc n0 i c left (fl N c.count 0) c.count c.data c.live h2 c := ⟨rfl, hf, rfl, rfl, rfl, by rw [ce]; exact S2⟩
    simp [q28, q0, q1, q4, q6, q7, l1, hl0, hl0', w1, al2, l02, lz2, hsz0, hsz1, hdiv, wN, wN1]
    refine W_cutLoop 0 (fun st => ∃ c3, st.t.get 0 = some (.ptr b 0) ∧ st.t.get 1 = some (.str d) ∧ st.t.get 4 = some (.ptr n0 0) ∧ st.t.get 6 = some (.int .i64 (i : Nat)) ∧ st.t.get 7 = some (.ptr vc.blk (vc.off + i * 5)) ∧ FilR h b r vc n0 i c left (fl N c.count N) c.count c.data c.live st.h c3) ?_ ?_
    · refine W_loop (fun m st => ∃ (j : Nat) (c3 : Rc), m = N - j ∧ j ≤ N ∧ st.t.get 0 = some (.ptr b 0) ∧ st.t.get 1 = some (.str d) ∧ st.t.get 4 = some (.ptr n0 0) ∧ st.t.get 6 = some (.int .i64 (i : Nat)) ∧ st.t.get 7 = some (.ptr vc.blk (vc.off + i * 5)) ∧ st.t.get 8 = some (.int .i64 ((N : Int) - 1 - j)) ∧
        FilR h b r vc n0 i c left (fl N c.count j) c.count c.data c.live st.h c3) N (by omega)
        ⟨0, c, by omega, by omega, by simp [q0], by simp [q1], by simp [q4], by simp [q6], by simp [q7], by simp, fl0⟩ ?_
      clear q0 q1 q4 q6 q7 q28
      rintro m ⟨t, h5⟩ ⟨j, c3, rfl, hj, q0, q1, q4, q6, q7, q8, f⟩
      simp only at q0 q1 q4 q6 q7 q8 f
      obtain ⟨R, hR⟩ : ∃ R : Int, R = (N : Int) - 1 - j := ⟨_, rfl⟩
      rw [← hR] at q8
      by_cases hlt : j < N
      · have O5 := f.s.a
        have gi : (⟨r.page, left, r.cls.set i c3⟩ : Rb).cls[i]? = some c3 := by simp [hil]
        have lf5 := RO.ldc O5 gi (o := 2) (x := c3.fv) (by omega) rfl (ty := 44) ta44
        have lc5 := RO.ldc O5 gi (o := 1) (x := .int .i64 (c3.count : Nat)) (by omega) rfl (ty := 3) ta3
        obtain ⟨hv, vlt⟩ := RO.vlt O5 gi
        obtain ⟨E, hE⟩ : ∃ E : Nat, E = c.count + (N - 1 - j) := ⟨_, rfl⟩
        have eE : (c3.count : Int) + R = (E : Nat) := by rw [f.count]; omega
        have wE := i64w (E : Int) (by omega) (by omega)
        obtain ⟨h6, e6⟩ : ∃ h6, h5.new (.cells [.int .i64 (E : Nat)] false) = h6 := ⟨_, rfl⟩
        have k6 : Keep h5.next nob h5 h6 := by rw [← e6]; exact Keep.new (Nat.le_refl _) _
        obtain ⟨v7, h7, E7, M7, F7, K7⟩ := (RO.free O5 gi).push (P := Try.prog) el44 (a := [.int .i64 (E : Nat)]) (ex := true) rfl rfl (by rw [f.free, fl_len]; omega)
        rw [e6] at E7
        obtain ⟨h8, E8, T8, n8⟩ := RO.upd' O5 gi { c3 with free := c3.free ++ [E], fv := v7 } (w := 0) (by omega) rfl rfl (o' := .vec 1 (c3.free ++ [E]).length ((c3.free ++ [E]).map nn)) rfl K7 (by rw [List.length_append, List.length_singleton, List.map_append]; exact M7) F7 M7.oneV
        have S8 := f.s.op T8
        simp only [List.set_set] at S8
        have f8 : FilR h b r vc n0 i c left (fl N c.count (j + 1)) c.count c.data c.live h8 { c3 with free := c3.free ++ [E], fv := v7 } := ⟨f.size, by simp only; rw [f.free, fl_succ, hE], f.count, f.data, f.live, S8⟩
        have w10 := i64w (R - 1) (by omega) (by omega)
        have ro := row1_one M7.oneV
        have A6 : Agree h5.next h5 h6 := fun e he => k6.2 e he id
        simp [q0, q1, q4, q6, q7, q8, isLe (show (0 : Int) ≤ R by omega)]
        refine W_split 12 h5.next (by rfl) (by kernel_rfl) (by rfl) ?_
        dsimp only [List.take, List.drop]
        have sfv : sameAV c3.fv c3.fv = true := (RO.free O5 gi).sl.same
        simp [q0, q1, q4, q6, q7, q8, obl, mayEff, mayRead, sameAV, vlt, lf5, sfv, lc5, eE, wE, aalloc, afill, e6, A6, E7, ro, E8, w10]
        exact ⟨N - (j + 1), by omega, j + 1, rfl, by omega, by omega, _, f8⟩
      · have : j = N := by omega
        subst this
        simp [q0, q1, q4, q6, q7, q8, isLt (show R < 0 by omega)]
        exact ⟨c3, f⟩
    clear q0 q1 q4 q6 q7 q28
    rintro ⟨t, h5⟩ ⟨c3, q0, q1, q4, q6, q7, f⟩
    simp only at q0 q1 q4 q6 q7 f
    have O5 := f.s.a
    have gi : (⟨r.page, left, r.cls.set i c3⟩ : Rb).cls[i]? = some c3 := by simp [hil]
    have lc5 := RO.ldc O5 gi (o := 1) (x := .int .i64 (c3.count : Nat)) (by omega) rfl (ty := 3) ta3
    have lz5 := RO.ldc O5 gi (o := 0) (x := .int .i64 (c3.size : Nat)) (by omega) rfl (ty := 3) ta3
    have l05 := RO.ld0 O5 (ty := 3) ta3
    rw [f.size] at lz5
    simp only [Nat.add_zero] at lz5 l05
    obtain ⟨h6, E6, O6, f6, K6, n6⟩ := RO.updN O5 gi (c2 := { c3 with count := cnt }) (w := 1) (by omega) (a := .int .i64 (cnt : Nat)) rfl rfl rfl
    have S6 := f.s.op ⟨O6, f6, K6⟩
    simp only [List.set_set] at S6
    have ec : (c3.count : Int) + (N : Int) = (cnt : Nat) := by rw [f.count, hcn]; rfl
    have wc := i64w (cnt : Int) (by omega) (by omega)
    have g0 : FilR h b r vc n0 i c left F cnt (c.data ++ List.replicate 0 ByteArray.empty) (c.live ++ List.replicate 0 false) h6 { c3 with count := cnt } := ⟨f.size, by simp only; rw [f.free, hF], rfl, by simp [f.data], by simp [f.live], S6⟩
    simp [q0, q1, q4, q6, q7, lc5, lz5, l05, hsz0, hsz1, hdiv, wN, ec, wc, E6]
    refine W_cutLoop 2 (fun st => ∃ c3, st.t.get 1 = some (.str d) ∧ st.t.get 4 = some (.ptr n0 0) ∧ st.t.get 6 = some (.int .i64 (i : Nat)) ∧ st.t.get 7 = some (.ptr vc.blk (vc.off + i * 5)) ∧ FilR h b r vc n0 i c left F cnt D Lv st.h c3) ?_ ?_
    · refine W_loop (fun m st => ∃ (j : Nat) (c3 : Rc), m = N - j ∧ j ≤ N ∧ st.t.get 1 = some (.str d) ∧ st.t.get 4 = some (.ptr n0 0) ∧ st.t.get 6 = some (.int .i64 (i : Nat)) ∧ st.t.get 7 = some (.ptr vc.blk (vc.off + i * 5)) ∧
        FilR h b r vc n0 i c left F cnt (c.data ++ List.replicate j ByteArray.empty) (c.live ++ List.replicate j false) st.h c3) N (by omega)
        ⟨0, _, by omega, by omega, by simp [q1], by simp [q4], by simp [q6], by simp [q7], g0⟩ ?_
      clear q0 q1 q4 q6 q7
      rintro m ⟨t, h7⟩ ⟨j, c4, rfl, hj, q1, q4, q6, q7, g⟩
      simp only at q1 q4 q6 q7 g
      have O7 := g.s.a
      have gi : (⟨r.page, left, r.cls.set i c4⟩ : Rb).cls[i]? = some c4 := by simp [hil]
      have lc7 := RO.ldc O7 gi (o := 1) (x := .int .i64 (c4.count : Nat)) (by omega) rfl (ty := 3) ta3
      have ld7 := RO.ldc O7 gi (o := 3) (x := c4.dv) (by omega) rfl (ty := 26) ta26
      have dl7 := (RO.data O7 gi).sl.len'
      have hdl : c4.data.length = c.count + j := by rw [g.data, List.length_append, List.length_replicate]; omega
      have hll : c4.live.length = c.count + j := by rw [g.live, List.length_append, List.length_replicate]; omega
      rw [hdl] at dl7
      rw [g.count] at lc7
      by_cases hlt : j < N
      · obtain ⟨v1, h8, v2, h9, h10, h11, a1, a2, a3, a4, a5, a6, a7, a8, a9, a10, a11, o1, o2, T⟩ := RO.grow O7 gi (by omega) (by omega)
        have S11 := g.s.op T
        simp only [List.set_set] at S11
        have f11 : FilR h b r vc n0 i c left F cnt (c.data ++ List.replicate (j + 1) ByteArray.empty) (c.live ++ List.replicate (j + 1) false) h11 { c4 with data := c4.data ++ [.empty], live := c4.live ++ [false], dv := v1, lv := v2 } :=
          ⟨g.size, g.free, g.count, by simp only; rw [g.data, List.replicate_succ', List.append_assoc], by simp only; rw [g.live, List.replicate_succ', List.append_assoc], S11⟩
        obtain ⟨hv, vlt⟩ := RO.vlt O7 gi
        have at1 := (RO.at O7 gi).2.1
        have Mv8 : Mine 5 (⟨r.page, left, r.cls.set i c4⟩ : Rb).cls.length h8 vc (cat Rc.c (⟨r.page, left, r.cls.set i c4⟩ : Rb).cls) := (RO.own O7).keep a4 fun d hd => Hold.ne O7 (i := 1) rfl at1 (by omega) hd
        have ll8 : aload Try.prog h8 39 vc.blk (vc.off + i * 5 + 4) = some c4.lv := by
          rw [Nat.add_assoc]
          exact Mv8.sl.ld (P := Try.prog) ta39 (by rw [cat_get Rc.c_len gi (by omega)]; rfl)
        have ld7b : aload Try.prog (h7.bump 20) 26 vc.blk (vc.off + i * 5 + 3) = some c4.dv := by rw [aload_bump vlt]; exact ld7
        have ro1 := row1_one o1
        have ro2 := row1_one o2
        have rws : (AV.str ⟨#[]⟩).row1 = some [.str ⟨#[]⟩] := rfl
        have rwb : (AV.bool false).row1 = some [.bool false] := rfl
        have sdv : sameAV c4.dv c4.dv = true := (RO.data O7 gi).sl.same
        have slv : sameAV c4.lv c4.lv = true := (RO.live O7 gi).sl.same
        simp [q1, q4, q6, q7, ld7, dl7, lc7, isLt (show ((c.count : Int) + (j : Int)) < (cnt : Int) by omega)]
        refine W_lateG [0, 0, 0, 4, 12, 28, 0, 124, 0, 256, 768, 1792, 0, 8188, 16381, 32765, 65533, 131071, 262143, 524287] [6, 12] 12 (Has vc) (by rfl) (by kernel_rfl) (by kernel_rfl) (by kernel_rfl) (by kernel_rfl) (fun d hd => (RO.own O7).lt hd) ?_
        simp [resv, freeOk, memN, isEff, isAlloc, isStore, mayEff, mayRead, alate_build, aalloc, afill, insFl, oblG, sameAV, Nat.testBit_eq_decide_div_mod_eq, q1, q4, q6, q7, hv, rws, rwb, ld7b, sdv, a1, a2, a3, ll8, slv, a5, a6, a7, ro1, ro2, a8, a9, a10, a11]
        exact ⟨N - (j + 1), by omega, j + 1, rfl, by omega, _, f11⟩
      · have : j = N := by omega
        subst this
        have ej : cnt - c.count = j := by omega
        simp [q1, q4, q6, q7, ld7, dl7, lc7, isLe (show (cnt : Int) ≤ (c.count : Int) + (j : Int) by omega)]
        exact ⟨c4, by rw [hD, hLv, ej]; exact g⟩
    rintro ⟨t, h7⟩ ⟨c4, q1, q4, q6, q7, g⟩
    simp only at q1 q4 q6 q7 g
    simp [q1, q4, q6, q7]
    exact ⟨c4, g⟩
  clear q0 q1 q4 q6 q7 q28
  rintro ⟨t, h5⟩ ⟨c3, q1, q4, q6, q7, f⟩
  simp only at q1 q4 q6 q7 f
  simp only [onEx_normal]
  have O5 := f.s.a
  have gi : (⟨r.page, left, r.cls.set i c3⟩ : Rb).cls[i]? = some c3 := by simp [hil]
  obtain ⟨L0, hL0⟩ : ∃ L0, F.length = L0 + 1 := ⟨F.length - 1, by omega⟩
  obtain ⟨K, hK⟩ : ∃ K, F[L0]? = some K := ⟨F[L0]'(by omega), by simp⟩
  have hKc : K < cnt := by
    have hm := List.mem_of_getElem? hK
    rw [hF] at hm
    rw [hcn]
    split at hm
    · rename_i q
      rw [if_pos q]
      exact (fl_mem (Nat.le_refl _) hm).2
    · rename_i q
      rw [if_neg q]
      exact hflt K hm
  have lf5 := RO.ldc O5 gi (o := 2) (x := c3.fv) (by omega) rfl (ty := 44) ta44
  have M3 := RO.free O5 gi
  rw [f.free, hL0] at M3
  have l5 := M3.sl.len'
  have ix5 := M3.sl.idx1 (P := Try.prog) Try.underlying44 ts3 (j := L0) (by omega) .i64
  have ld5 := M3.sl.ld (P := Try.prog) ta3 (j := L0) (x := .int .i64 (K : Nat)) (by rw [List.getElem?_map, hK]; rfl)
  obtain ⟨v6, E6, M6, a6⟩ := M3.to (P := Try.prog) (ty := 44) Try.underlying44 ts3 (k := .i64) (j := L0) (by omega)
  rw [Nat.mul_one, ← List.map_take] at M6
  have lt0 : (F.take L0).length = L0 := by rw [List.length_take]; omega
  have r6 := row1_one M6.oneV
  obtain ⟨h6, A6, T6, n6⟩ := RO.upd' O5 gi { c3 with free := F.take L0, fv := v6 } (w := 0) (by omega) rfl rfl (o' := .vec 1 (F.take L0).length ((F.take L0).map nn)) rfl (Keep.refl _ _ _) (by rw [lt0]; exact M6) (fun e he => .inl (by unfold Has at *; rw [← a6]; exact he)) M6.oneV
  have S6 := f.s.op T6
  simp only [List.set_set] at S6
  have g6 : (⟨r.page, left, r.cls.set i { c3 with free := F.take L0, fv := v6 }⟩ : Rb).cls[i]? = some { c3 with free := F.take L0, fv := v6 } := by simp [hil]
  have ld6 := RO.ldc S6.a g6 (o := 3) (x := c3.dv) (by omega) rfl (ty := 26) ta26
  have ll6 := RO.ldc S6.a g6 (o := 4) (x := c3.lv) (by omega) rfl (ty := 39) ta39
  have hdl : c3.data.length = cnt := by rw [f.data, hDl]
  have hll : c3.live.length = cnt := by rw [f.live, hLl]
  have ixd := (RO.data S6.a g6).sl.idx1 (P := Try.prog) Try.underlying26 ts9 (j := K) (by simp only; omega) .i64
  have ixl := (RO.live S6.a g6).sl.idx1 (P := Try.prog) Try.underlying39 ts4 (j := K) (by simp only; omega) .i64
  simp only at ixd ixl
  obtain ⟨h7, E7, M7, K7, n7⟩ := (RO.data S6.a g6).lay1 (j := K) (x := .str d) (by simp only; omega) rfl
  simp only at E7
  have T7 := RO.updE S6.a g6 (c2 := { c3 with free := F.take L0, fv := v6, data := c3.data.set K d }) (w := 1) (by omega) rfl rfl (o' := .vec 1 (c3.data.set K d).length ((c3.data.set K d).map sv)) rfl K7 (by rw [List.map_set, List.length_set]; exact M7)
  have S7 := S6.op T7
  simp only [List.set_set] at S7
  have g7 : (⟨r.page, left, r.cls.set i { c3 with free := F.take L0, fv := v6, data := c3.data.set K d }⟩ : Rb).cls[i]? = some { c3 with free := F.take L0, fv := v6, data := c3.data.set K d } := by simp [hil]
  obtain ⟨h8, E8, M8, K8, n8⟩ := (RO.live S7.a g7).lay1 (j := K) (x := .bool true) (by simp only; omega) rfl
  simp only at E8
  have T8 := RO.updE S7.a g7 (c2 := { c3 with free := F.take L0, fv := v6, data := c3.data.set K d, live := c3.live.set K true }) (w := 2) (by omega) rfl rfl (o' := .vec 1 (c3.live.set K true).length ((c3.live.set K true).map bv)) rfl K8 (by rw [List.map_set, List.length_set]; exact M8)
  have S8 := S7.op T8
  simp only [List.set_set] at S8
  obtain ⟨b', q, nb, gb⟩ := S8.b.get (i := 0) (v := .ptr n0 0) (o := .blk [.int .i64 0, .int .i64 0]) rfl
  cases q
  have E9 : alay h8 n0 0 [.int .i64 (i : Nat), .int .i64 (K : Nat)] = some (h8.set n0 (.cells [.int .i64 (i : Nat), .int .i64 (K : Nat)] false)) := by unfold alay; rw [gb]; rfl
  have g9 : (h8.set n0 (.cells [.int .i64 (i : Nat), .int .i64 (K : Nat)] false)).get n0 = some (.cells [.int .i64 (i : Nat), .int .i64 (K : Nat)] false) := get_set_self _ _ _
  have K9 : Keep h8.next (Has (.ptr n0 0)) h8 (h8.set n0 (.cells [.int .i64 (i : Nat), .int .i64 (K : Nat)] false)) := Keep.set (F := Has (.ptr n0 0)) (.inl rfl) _
  have T9 := (Stp.refl S8.b).upd (i := 0) rfl K9 (o' := .blk [.int .i64 (i : Nat), .int .i64 (K : Nat)]) ⟨n0, rfl, nb, g9⟩ (From.refl _ _)
  have S9 := (S8.opB T9).drop
  generalize h8.set n0 (.cells [.int .i64 (i : Nat), .int .i64 (K : Nat)] false) = h9 at *
  have l9 : aload Try.prog h9 58 n0 0 = some (.agg [.int .i64 (i : Nat), .int .i64 (K : Nat)]) := by simp [aload, Heap.row, g9, ta58, ts58]
  have rwH : (AV.agg [.int .i64 (i : Nat), .int .i64 (K : Nat)]).row1 = some [.int .i64 (i : Nat), .int .i64 (K : Nat)] := rfl
  have rws : (AV.str d).row1 = some [.str d] := rfl
  have rwb : (AV.bool true).row1 = some [.bool true] := rfl
  have w5 := i64w (L0 : Int) (by omega) (by omega)
  have fin : ∃ (c2 : Rc) (F' : List Nat) (cnt' left' K' : Nat),
      F' = (if c.free = [] then fl (r.page / c.size) c.count (r.page / c.size) else c.free) ∧ cnt' = (if c.free = [] then c.count + r.page / c.size else c.count) ∧ left' = (if c.free = [] then r.left - 1 else r.left) ∧ F'[F'.length - 1]? = some K' ∧
      AV.tup [.agg [.int .i64 (i : Nat), .int .i64 (K : Nat)], .int .i64 0] = .tup [.agg [.int .i64 (i : Nat), .int .i64 (K' : Nat)], .int .i64 0] ∧ c2.size = c.size ∧ c2.free = F'.take (F'.length - 1) ∧ c2.count = cnt' ∧ c2.data = (c.data ++ List.replicate (cnt' - c.count) ByteArray.empty).set K' d ∧ c2.live = (c.live ++ List.replicate (cnt' - c.count) false).set K' true ∧
      Stp h (r.th b vc) h9 (Rb.th ⟨r.page, left', r.cls.set i c2⟩ b vc) :=
    ⟨{ c3 with free := F.take L0, fv := v6, data := c3.data.set K d, live := c3.live.set K true }, F, cnt, left, K, by rw [hF, hN], by rw [hcn, hN], hle, by rw [hL0, Nat.add_sub_cancel]; exact hK, rfl, f.size, by rw [hL0, Nat.add_sub_cancel], f.count, by simp only; rw [f.data, hD], by simp only; rw [f.live, hLv], S9⟩
  simp [q1, q4, q6, q7, lf5, l5, hL0, w5, ix5, ld5, E6, r6, A6, ld6, ll6, ixd, ixl, rws, rwb, E7, E8, afill, rwH, E9, l9]
  simpa using fin
end Go.Proofs.Ytelnkdgpghndgaa
/- Contracts of slab: Alloc of too much, Free of what isn't live. -/
namespace Go.Proofs.Ytelnkdgpghndgaa
open Go Go.YtelnkdgpghndgaaAbs
set_option linter.unusedSimpArgs false
set_option linter.unusedVariables false
set_option maxRecDepth 4000

theorem alloc_long (k : Nat) (hk : 70000 < k) (h : Heap) (b : Nat) (s : Sb) (vc : AV) (O : SlO h b s vc) (hl : s.cls.length ≤ 20) (d : ByteArray) (hc : clsE (d.size : Nat) s.cls = none) :
    ∃ v' h', acall Try.prog (k + 2) 30 [.ptr b 0, .str d] h = some (v', h') ∧ v' = .tup [.agg [.int .i64 0, .int .i64 0], .int .i64 2] ∧ Keep h.next nob h h' := by
  obtain ⟨h1, e1⟩ : ∃ h1, h.new (.cells [.int .i64 0, .int .i64 0] false) = h1 := ⟨_, rfl⟩
  have k1 : Keep h.next nob h h1 := by rw [← e1]; exact Keep.new (Nat.le_refl _) _
  have n1 : h.next < h1.next := by rw [← e1]; exact Nat.lt_succ_self _
  have g1 : h1.get h.next = some (.cells [.int .i64 0, .int .i64 0] false) := by rw [← e1]; exact get_new_self _ _
  obtain ⟨_, h2, E2, rfl, k2⟩ := class_ok k (by omega) h1 b s vc (O.ext k1) hl (d.size : Nat)
  have ecz : (if ((d.size : Nat) : Int) < 0 then (-1 : Int) else clsZ (d.size : Nat) s.cls) = -1 := by
    rw [if_neg (by omega)]; unfold clsZ; rw [hc]
  rw [ecz] at E2
  have K2 := k1.trans (k2.weak k1.1 fun _ _ q => q)
  have g2 : h2.get h.next = some (.cells [.int .i64 0, .int .i64 0] false) := (k2.2 _ n1 id).trans g1
  have rwH : (AV.agg [.int .i64 0, .int .i64 0]).row1 = some [.int .i64 0, .int .i64 0] := rfl
  have A8 : alay h2 h.next 0 [.int .i64 0, .int .i64 0] = some (h2.set h.next (.cells [.int .i64 0, .int .i64 0] false)) := by unfold alay; rw [g2]; rfl
  have g8 : (h2.set h.next (.cells [.int .i64 0, .int .i64 0] false)).get h.next = some (.cells [.int .i64 0, .int .i64 0] false) := get_set_self _ _ _
  have K8 : Keep h.next nob h (h2.set h.next (.cells [.int .i64 0, .int .i64 0] false)) := K2.trans (Keep.set (.inr (Nat.le_refl _)) _)
  generalize h2.set h.next (.cells [.int .i64 0, .int .i64 0] false) = h8 at *
  have l8 : aload Try.prog h8 58 h.next 0 = some (.agg [.int .i64 0, .int .i64 0]) := by simp [aload, Heap.row, g8, ta58, ts58]
  rw [acall_text [14] Try.func30 (by kernel_rfl)]
  refine afuncT_ex rfl (by simp [Try.f30]) ?_
  simp [Try.f30, e1, E2, afill, rwH, A8, l8]
  exact K8
theorem free_no (k : Nat) (hk : 70000 < k) (h : Heap) (b : Nat) (s : Sb) (vc : AV) (O : SlO h b s vc) (hl : s.cls.length ≤ 20) (ci ch : Int) (hr : readS s ci ch = none) :
    ∃ v' h', acall Try.prog (k + 2) 46 [.ptr b 0, .agg [.int .i64 ci, .int .i64 ch]] h = some (v', h') ∧ v' = .bool false ∧ Keep h.next nob h h' := by
  have rwH : (AV.agg [.int .i64 ci, .int .i64 ch]).row1 = some [.int .i64 ci, .int .i64 ch] := rfl
  obtain ⟨h1, e1⟩ : ∃ h1, h.new (.cells [.int .i64 ci, .int .i64 ch] false) = h1 := ⟨_, rfl⟩
  have k1 : Keep h.next nob h h1 := by rw [← e1]; exact Keep.new (Nat.le_refl _) _
  have g1 : h1.get h.next = some (.cells [.int .i64 ci, .int .i64 ch] false) := by rw [← e1]; exact get_new_self _ _
  have lH : aload Try.prog h1 58 h.next 0 = some (.agg [.int .i64 ci, .int .i64 ch]) := by simp [aload, Heap.row, g1, ta58, ts58]
  obtain ⟨_, h2, E2, rfl, k2⟩ := read_ok k h1 b s vc hk (O.ext k1) hl ci ch
  rw [hr] at E2
  have K2 := k1.trans (k2.weak k1.1 fun _ _ q => q)
  rw [acall_text [6] Try.func46 (by kernel_rfl)]
  refine afuncT_ex rfl (by simp [Try.f46]) ?_
  simp [Try.f46, rwH, e1, lH, E2]
  exact K2
end Go.Proofs.Ytelnkdgpghndgaa
/- slab: what holds of it whatever is called, in plain words. -/
namespace Go.Proofs.Ytelnkdgpghndgaa
open Go Go.YtelnkdgpghndgaaAbs
set_option linter.unusedSimpArgs false
set_option linter.unusedVariables false
set_option maxRecDepth 4000

theorem mem_le_sum {l : List Nat} {a : Nat} (h : a ∈ l) : a ≤ l.sum := by
  induction l with
  | nil => cases h
  | cons x l ih =>
    rw [List.sum_cons]
    rcases List.mem_cons.1 h with rfl | h
    · omega
    · have := ih h; omega
theorem eraseIdx_perm {α : Type} : ∀ {l : List α} {i : Nat} {x : α}, l[i]? = some x → (x :: l.eraseIdx i).Perm l
  | [], i, x, h => by simp at h
  | y :: l, 0, x, h => by simp at h; subst h; exact List.Perm.refl _
  | y :: l, i + 1, x, h => by
    have := eraseIdx_perm (l := l) (i := i) (x := x) (by simpa using h)
    exact (List.Perm.swap y x _).trans (this.cons y)
/-- A class of so many pages. -/
structure ClI (Q : Nat) (c : Cl) (pg : Nat) : Prop where
  nd : (c.free ++ c.live.map (·.1)).Nodup
  lt : ∀ x, x ∈ c.free ++ c.live.map (·.1) → x < c.count
  len : c.free.length + c.live.length = c.count
  cnt : c.count = (Q / c.size) * pg
structure SbI (P Q : Nat) (s : Sb) (pgs : List Nat) : Prop where
  page : s.page = Q
  tot : s.used + s.left = P
  sz : ∀ (j : Nat) (c : Cl), s.cls[j]? = some c → c.size = 64 * 2 ^ j
  len : pgs.length = s.cls.length
  l1 : 1 ≤ s.cls.length
  l2 : s.cls.length ≤ 11
  l3 : 64 * 2 ^ (s.cls.length - 1) ≤ Q
  each : ∀ (j : Nat) (c : Cl) (pg : Nat), s.cls[j]? = some c → pgs[j]? = some pg → ClI Q c pg
  used : pgs.sum = s.used
theorem SbI.new {P Q : Nat} {cls : List Cl} (F : FreshC cls) (l1 : 1 ≤ cls.length) (l2 : cls.length ≤ 11) (l3 : 64 * 2 ^ (cls.length - 1) ≤ Q) : SbI P Q ⟨Q, P, 0, cls⟩ (List.replicate cls.length 0) := by
  refine ⟨rfl, by simp, fun j c hc => (F j c hc).1, by simp, l1, l2, l3, fun j c pg hc hp => ?_, by simp⟩
  obtain ⟨f1, f2, f3, f4, f5⟩ := F j c hc
  have : pg = 0 := by
    rw [List.getElem?_replicate] at hp
    split at hp
    · exact (Option.some.inj hp).symm
    · cases hp
  subst this
  exact ⟨by rw [f2, f3]; exact List.nodup_nil, (fun x hx => absurd hx (by rw [f2, f3]; simp)), by rw [f2, f3, f5]; rfl, by rw [f5]; simp⟩
section
variable {P Q : Nat} {s : Sb} {pgs : List Nat}
theorem SbI.size (I : SbI P Q s pgs) {i : Nat} {c : Cl} (hi : s.cls[i]? = some c) : 64 ≤ c.size ∧ c.size ≤ Q := by
  have hl := (List.getElem?_eq_some_iff.1 hi).1
  rw [I.sz i c hi]
  have h1 : 1 ≤ 2 ^ i := Nat.one_le_two_pow
  have h2 : 2 ^ i ≤ 2 ^ (s.cls.length - 1) := Nat.pow_le_pow_right (by omega) (by omega)
  have := I.l3
  omega
theorem SbI.pg (I : SbI P Q s pgs) {i : Nat} {c : Cl} (hi : s.cls[i]? = some c) : ∃ pg, pgs[i]? = some pg ∧ ClI Q c pg ∧ pg ≤ s.used := by
  have hl := (List.getElem?_eq_some_iff.1 hi).1
  have hp : pgs[i]? = some (pgs[i]'(by rw [I.len]; exact hl)) := by simp
  refine ⟨_, hp, I.each i c _ hi hp, ?_⟩
  rw [← I.used]
  exact mem_le_sum (List.mem_of_getElem? hp)
theorem SbI.small (I : SbI P Q s pgs) (hP : P ≤ 64) (hQ : Q ≤ 65536) {i : Nat} {c : Cl} (hi : s.cls[i]? = some c) : c.count ≤ 65536 ∧ c.free.length ≤ 65536 ∧ c.live.length ≤ 65536 := by
  obtain ⟨pg, _, J, hpg⟩ := I.pg hi
  obtain ⟨s1, s2⟩ := I.size hi
  have h1 : Q / c.size ≤ 1024 := by
    have := Nat.div_le_div_left (a := Q) s1 (by omega)
    omega
  have h2 : pg ≤ 64 := by have := I.tot; omega
  have h3 : c.count ≤ 1024 * 64 := by rw [J.cnt]; exact Nat.mul_le_mul h1 h2
  have := J.len
  omega
theorem sum_set {l : List Nat} {i a b : Nat} (h : l[i]? = some a) : (l.set i b).sum + a = l.sum + b := by
  induction l generalizing i with
  | nil => simp at h
  | cons x l ih =>
    cases i with
    | zero => simp at h; subst h; simp; omega
    | succ i =>
      simp at h
      have := ih h
      simp only [List.set_cons_succ, List.sum_cons]
      omega
/-- A class is changed. -/
theorem SbI.set (I : SbI P Q s pgs) {i : Nat} {c c2 : Cl} (hi : s.cls[i]? = some c) (hs : c2.size = c.size) {pg pg2 : Nat} (hp : pgs[i]? = some pg) (J : ClI Q c2 pg2) {left used : Nat} (ht : used + left = P) (hu : used + pg = s.used + pg2) :
    SbI P Q ⟨s.page, left, used, s.cls.set i c2⟩ (pgs.set i pg2) := by
  have hl := (List.getElem?_eq_some_iff.1 hi).1
  have hl' := (List.getElem?_eq_some_iff.1 hp).1
  refine ⟨I.page, ht, fun j x hx => ?_, by simp only [List.length_set]; exact I.len, by simp only [List.length_set]; exact I.l1, by simp only [List.length_set]; exact I.l2, by simp only [List.length_set]; exact I.l3, fun j x q hx hq => ?_, ?_⟩
  · simp only at hx
    by_cases hij : i = j
    · subst hij
      rw [List.getElem?_set_self hl] at hx
      cases hx
      rw [hs]; exact I.sz i c hi
    · rw [List.getElem?_set_ne hij] at hx
      exact I.sz j x hx
  · simp only at hx
    by_cases hij : i = j
    · subst hij
      rw [List.getElem?_set_self hl] at hx
      rw [List.getElem?_set_self hl'] at hq
      cases hx; cases hq
      exact J
    · rw [List.getElem?_set_ne hij] at hx hq
      exact I.each j x q hx hq
  · have := sum_set (b := pg2) hp
    have := I.used
    simp only
    omega
/-- Alloc. -/
theorem SbI.alloc (I : SbI P Q s pgs) {i : Nat} {c : Cl} (hi : s.cls[i]? = some c) (hroom : c.free ≠ [] ∨ s.left ≠ 0) {c2 : Cl} {F : List Nat} {cnt left used K : Nat} {d : ByteArray}
    (e1 : F = (if c.free = [] then fl (s.page / c.size) c.count (s.page / c.size) else c.free)) (e2 : cnt = (if c.free = [] then c.count + s.page / c.size else c.count)) (e3 : left = (if c.free = [] then s.left - 1 else s.left)) (e4 : used = (if c.free = [] then s.used + 1 else s.used))
    (hK : F[F.length - 1]? = some K) (z1 : c2.size = c.size) (z2 : c2.free = F.take (F.length - 1)) (z3 : c2.count = cnt) (z4 : (c2.live, c2.cl) = lput K d c.live c.cl) :
    K ∉ c.live.map (·.1) ∧ c2.live = c.live ++ [(K, d, c.cl)] ∧ c2.cl = c.cl + 1 ∧ ∃ pgs', SbI P Q ⟨s.page, left, used, s.cls.set i c2⟩ pgs' := by
  obtain ⟨pg, hp, J, _⟩ := I.pg hi
  obtain ⟨s1, s2⟩ := I.size hi
  have hn : 1 ≤ Q / c.size := (Nat.le_div_iff_mul_le (by omega)).2 (by omega)
  obtain ⟨n, hnn⟩ : ∃ n, n = Q / c.size := ⟨_, rfl⟩
  rw [I.page, ← hnn] at e1 e2
  rw [← hnn] at hn
  have jc := J.cnt
  rw [← hnn] at jc
  obtain ⟨pg2, base, hu, ht⟩ : ∃ pg2, (((F ++ c.live.map (·.1)).Nodup ∧ (∀ x, x ∈ F ++ c.live.map (·.1) → x < cnt) ∧ F.length + c.live.length = cnt ∧ cnt = n * pg2)) ∧ used + pg = s.used + pg2 ∧ used + left = P := by
    have tot := I.tot
    by_cases hF : c.free = []
    · rw [if_pos hF] at e1 e2 e3 e4
      have hl := hroom.resolve_left (fun q => q hF)
      have nd := J.nd; have lt := J.lt; have len := J.len
      rw [hF] at nd lt len
      simp only [List.nil_append, List.length_nil, Nat.zero_add] at nd lt len
      subst e1 e2 e3 e4
      refine ⟨pg + 1, ⟨?_, fun x hx => ?_, by rw [fl_len]; omega, by rw [Nat.mul_succ, ← jc]⟩, by omega, by omega⟩
      · rw [List.nodup_append]
        refine ⟨fl_nodup n c.count n (Nat.le_refl _), nd, fun x hx y hy q => ?_⟩
        have := (fl_mem (Nat.le_refl _) hx).1
        have := lt y hy
        omega
      · rcases List.mem_append.1 hx with h | h
        · exact (fl_mem (Nat.le_refl _) h).2
        · have := lt x h; omega
    · rw [if_neg hF] at e1 e2 e3 e4
      subst e1 e2 e3 e4
      exact ⟨pg, ⟨J.nd, J.lt, J.len, jc⟩, rfl, tot⟩
  obtain ⟨nd, lt, len, cn⟩ := base
  have h1 := (List.getElem?_eq_some_iff.1 hK).1
  have split : F = F.take (F.length - 1) ++ [K] := by
    have := List.take_append_drop (F.length - 1) F
    rw [List.drop_eq_getElem_cons h1, (List.getElem?_eq_some_iff.1 hK).2, List.drop_of_length_le (by omega)] at this
    exact this.symm
  have hno : K ∉ c.live.map (·.1) := fun q => by
    rw [List.nodup_append] at nd
    exact nd.2.2 K (List.mem_of_getElem? hK) K q rfl
  have hlk := lk_none hno
  unfold lput at z4
  rw [hlk] at z4
  simp only [Prod.mk.injEq] at z4
  obtain ⟨z4, z5⟩ := z4
  refine ⟨hno, z4, z5, _, I.set hi z1 hp (pg2 := pg2) ?_ ht hu⟩
  have keys : c2.live.map (·.1) = c.live.map (·.1) ++ [K] := by rw [z4]; simp
  have perm : (F.take (F.length - 1) ++ (c.live.map (·.1) ++ [K])).Perm (F ++ c.live.map (·.1)) := by
    conv => rhs; rw [split]
    rw [List.append_assoc]
    exact List.Perm.append_left _ List.perm_append_comm
  refine ⟨by rw [z2, keys]; exact perm.nodup_iff.2 nd, fun x hx => ?_, ?_, by rw [z3, z1, ← hnn]; exact cn⟩
  · rw [z2, keys] at hx
    rw [z3]; exact lt x (perm.mem_iff.1 hx)
  · rw [z2, z4, List.length_take, List.length_append, List.length_singleton, z3]
    omega
theorem lk_some {K : Nat} : ∀ {L : List (Nat × ByteArray × Nat)} {y : Nat × ByteArray × Nat}, lk K L = some y → ∃ st, L[y.1]? = some (K, y.2.1, st)
  | [], y, h => by simp [lk] at h
  | x :: L, y, h => by
    simp only [lk] at h
    split at h
    · rename_i hx
      simp only [Option.some.injEq] at h
      subst h
      exact ⟨x.2.2, by simp [← hx]⟩
    · rw [Option.map_eq_some_iff] at h
      obtain ⟨z, h1, rfl⟩ := h
      obtain ⟨st, h2⟩ := lk_some h1
      exact ⟨st, by simpa using h2⟩
/-- Free. -/
theorem SbI.free (I : SbI P Q s pgs) {i K : Nat} {c c2 : Cl} (hi : s.cls[i]? = some c) {y : Nat × ByteArray × Nat} (hy : lk K c.live = some y) (z1 : c2.size = c.size) (z2 : c2.free = c.free ++ [K]) (z3 : c2.count = c.count) (z4 : c2.live = c.live.eraseIdx y.1) :
    ∃ pgs', SbI P Q { s with cls := s.cls.set i c2 } pgs' := by
  obtain ⟨pg, hp, J, _⟩ := I.pg hi
  obtain ⟨st, hst⟩ := lk_some hy
  have hl := (List.getElem?_eq_some_iff.1 hst).1
  have hkey : (c.live.map (·.1))[y.1]? = some K := by rw [List.getElem?_map, hst]; rfl
  have keys : c2.live.map (·.1) = (c.live.map (·.1)).eraseIdx y.1 := by
    rw [z4]
    exact (erase_map (fun x : Nat × ByteArray × Nat => x.1) c.live y.1).symm
  have perm : (c.free ++ [K] ++ (c.live.map (·.1)).eraseIdx y.1).Perm (c.free ++ c.live.map (·.1)) := by
    rw [List.append_assoc]
    refine List.Perm.append_left _ ?_
    exact eraseIdx_perm hkey
  refine ⟨_, I.set hi z1 hp (pg2 := pg) ?_ I.tot rfl⟩
  refine ⟨by rw [z2, keys]; exact perm.nodup_iff.2 J.nd, fun x hx => ?_, ?_, by rw [z3, z1]; exact J.cnt⟩
  · rw [z2, keys] at hx
    rw [z3]; exact J.lt x (perm.mem_iff.1 hx)
  · have := J.len
    rw [z2, z4, z3, List.length_append, List.length_singleton, List.length_eraseIdx, if_pos hl]
    omega
/-- The memory that live chunks have. -/
def weight (L : List Cl) : Nat := (L.map fun c => c.live.length * c.size).sum
theorem weight_le (n : Nat) : ∀ (L : List Cl) (ps : List Nat), ps.length = L.length → (∀ (j : Nat) (c : Cl) (pg : Nat), L[j]? = some c → ps[j]? = some pg → c.live.length * c.size ≤ n * pg) → weight L ≤ n * ps.sum
  | [], ps, _, _ => by simp [weight]
  | c :: L, [], h, _ => by simp at h
  | c :: L, p :: ps, h, k => by
    have ih := weight_le n L ps (by simpa using h) fun j c' pg hc hp => k (j + 1) c' pg (by simpa using hc) (by simpa using hp)
    have h0 := k 0 c p rfl rfl
    unfold weight at ih ⊢
    simp only [List.map_cons, List.sum_cons, Nat.mul_add]
    omega
theorem SbI.weight (I : SbI P Q s pgs) : weight s.cls ≤ s.used * Q := by
  rw [← I.used, Nat.mul_comm]
  refine weight_le Q s.cls pgs I.len fun j c pg hc hp => ?_
  have J := I.each j c pg hc hp
  have h1 : c.live.length ≤ Q / c.size * pg := by have := J.len; have := J.cnt; omega
  calc c.live.length * c.size ≤ (Q / c.size * pg) * c.size := Nat.mul_le_mul_right _ h1
    _ = (Q / c.size * c.size) * pg := by rw [Nat.mul_assoc, Nat.mul_comm pg, ← Nat.mul_assoc]
    _ ≤ Q * pg := Nat.mul_le_mul_right _ (Nat.div_mul_le_self _ _)
theorem mapsum_set {f : Cl → Nat} : ∀ {L : List Cl} {i : Nat} {c c2 : Cl}, L[i]? = some c → ((L.set i c2).map f).sum + f c = (L.map f).sum + f c2
  | [], i, c, c2, h => by simp at h
  | x :: L, 0, c, c2, h => by simp at h; subst h; simp; omega
  | x :: L, i + 1, c, c2, h => by
    simp at h
    have := mapsum_set (f := f) (c2 := c2) h
    simp only [List.set_cons_succ, List.map_cons, List.sum_cons]
    omega
end
end Go.Proofs.Ytelnkdgpghndgaa
/- Contracts of the book of memory: Within. -/
namespace Go.Proofs.Ytelnkdgpghndgaa
open Go Go.YtelnkdgpghndgaaAbs
set_option linter.unusedSimpArgs false
set_option linter.unusedVariables false
/-- Within. -/
theorem within_ok (k : Nat) (n lo hi : Int) (hl : lo ≤ hi) (h1 : -1000000000000 ≤ lo) (h2 : hi ≤ 1000000000000) (h : Heap) :
    acall Try.prog (k + 1) 15 [.int .i64 n, .int .i64 lo, .int .i64 hi] h = some (.int .i64 (lo + n % (hi - lo + 1)), h) := by
  rw [acall_text [] Try.func15 (by kernel_rfl)]
  refine afuncT_of rfl (by simp [Try.f15]) ?_
  have w1 := i64w (hi - lo) (by omega) (by omega)
  have w2 := i64w (hi - lo + 1) (by omega) (by omega)
  have hne : ¬ hi - lo + 1 = 0 := by omega
  have e1 : n % (hi - lo + 1) < hi - lo + 1 := Int.emod_lt_of_pos _ (by omega)
  have e2 : 0 ≤ n % (hi - lo + 1) := Int.emod_nonneg _ (by omega)
  have e0 := Int.tmod_eq_emod (a := n) (b := hi - lo + 1)
  by_cases hr : n.tmod (hi - lo + 1) < 0
  · have e3 : n.tmod (hi - lo + 1) + (hi - lo + 1) = n % (hi - lo + 1) := by
      split at e0 <;> omega
    have w3 := i64w (n.tmod (hi - lo + 1) + hi) (by omega) (by omega)
    have w4 := i64w (n.tmod (hi - lo + 1) + hi - lo) (by omega) (by omega)
    have w5 := i64w (n.tmod (hi - lo + 1) + hi - lo + 1) (by omega) (by omega)
    have w6 := i64w (lo + (n.tmod (hi - lo + 1) + hi - lo + 1)) (by omega) (by omega)
    simp [Try.f15, w1, w2, w3, w4, w5, w6, hne, isLt hr]
    omega
  · have e3 : n.tmod (hi - lo + 1) = n % (hi - lo + 1) := by
      split at e0 <;> omega
    have w6 := i64w (lo + n % (hi - lo + 1)) (by omega) (by omega)
    simp [Try.f15, w1, w2, w6, hne, isLe e2, e3]

end Go.Proofs.Ytelnkdgpghndgaa
/- slab: live chunks have handles of their own and keep their data. depotlaw5.data. -/
namespace Go.Proofs.Ytelnkdgpghndgaa
open Go Go.YtelnkdgpghndgaaAbs
set_option linter.unusedSimpArgs false
set_option linter.unusedVariables false
set_option maxRecDepth 4000

def zeros (n : Nat) : ByteArray := ⟨⟨List.replicate n 0⟩⟩
theorem zeros_size (n : Nat) : (zeros n).size = n := by show (List.replicate n (0 : UInt8)).toArray.size = n; simp
theorem zeros_conv (h : Heap) (n : Nat) : aconv Try.prog (h.new (.cells (List.replicate n (.int .u8 0)) false)) 33 9 (.sl h.next 0 n n 1 true) = some (.str (zeros n), h.new (.cells (List.replicate n (.int .u8 0)) false)) := by
  have e : List.replicate n (AV.int .u8 0) = (List.replicate n (0 : UInt8)).map bb := by rw [List.map_replicate]; rfl
  refine aconv_bs (P := Try.prog) (src := 33) (dst := 9) (n := n) (l := List.replicate n 0) ?_ Try.underlying33 Try.underlying9 Try.underlying5
  rw [e]
  exact .inr (.inr ⟨h.next, 0, n, true, _, false, rfl, Nat.lt_succ_self _, get_new_self _ _, by simp, by simp, by simp, Nat.le_refl _⟩)

/-- An ask: a kind, a place, a size, a text, a handle, was it told? -/
abbrev As := Int × (Int × (Int × (ByteArray × ((Int × (Int × Unit)) × (Bool × Unit)))))
abbrev kAs : Kind As := kPair (kInt .i64) (kPair (kInt .i64) (kPair (kInt .i64) (kPair kStr (kPair (kPair (kInt .i64) (kPair (kInt .i64) kNil)) (kPair kBool kNil)))))
def asC (x : As) : List AV := [.int .i64 x.1, .int .i64 x.2.1, .int .i64 x.2.2.1, .str x.2.2.2.1, .int .i64 x.2.2.2.2.1.1, .int .i64 x.2.2.2.2.1.2.1, .bool x.2.2.2.2.2.1]
theorem asC_len (x : As) : (asC x).length = 7 := rfl
theorem flat_as : Flat kAs asC := flat_pair (flat_int _) (flat_pair (flat_int _) (flat_pair (flat_int _) (flat_pair flat_str (flat_pair (flat_pair (flat_int _) (flat_pair (flat_int _) flat_nil)) (flat_pair flat_bool flat_nil)))))
/-- An ask's bytes. -/
def dataN (x : As) : Nat := (x.2.2.1 % 5001).toNat
def dataS (x : As) : ByteArray := if x.2.2.2.1.size ≠ 0 ∧ x.2.2.2.1.size < 500 then x.2.2.2.1 else zeros (dataN x)
theorem dataN_le (x : As) : dataN x ≤ 5000 := by unfold dataN; omega
theorem dataS_le (x : As) : (dataS x).size ≤ 5000 := by
  unfold dataS
  split
  · omega
  · rw [zeros_size]; exact dataN_le x
theorem ba_empty {s : ByteArray} : s = ⟨⟨[]⟩⟩ ↔ s.size = 0 := by
  constructor
  · rintro rfl; rfl
  · intro h
    obtain ⟨⟨l⟩⟩ := s
    have : l.length = 0 := h
    rw [List.eq_nil_of_length_eq_zero this]
theorem ba_nonempty {s : ByteArray} (h : s.size ≠ 0) : s.toList.isEmpty = false := by
  cases q : s.toList with
  | cons => rfl
  | nil =>
    have e := beqS s ⟨⟨[]⟩⟩
    rw [q] at e
    have : (([] : List UInt8) == (⟨⟨[]⟩⟩ : ByteArray).toList) = true := by kernel_rfl
    rw [this] at e
    have := of_decide_eq_true e.symm
    rw [this] at h
    exact absurd rfl h
/-- A text that stands under a number. -/
def dataOf (K : Nat) (L : List (Nat × ByteArray × Nat)) : Option ByteArray := (lk K L).map (·.2.1)
theorem lk_append_some {K : Nat} {d : ByteArray} : ∀ {L : List (Nat × ByteArray × Nat)} (M : List (Nat × ByteArray × Nat)), dataOf K L = some d → dataOf K (L ++ M) = some d
  | [], M, h => by simp [dataOf, lk] at h
  | x :: L, M, h => by
    unfold dataOf at *
    simp only [List.cons_append, lk] at h ⊢
    split
    · rename_i hx; rw [if_pos hx] at h; exact h
    · rename_i hx
      rw [if_neg hx] at h
      have := lk_append_some (K := K) (d := d) (L := L) M (by unfold dataOf; simpa using h)
      unfold dataOf at this
      simpa using this
theorem lk_last {K : Nat} {d : ByteArray} {st : Nat} : ∀ {L : List (Nat × ByteArray × Nat)}, K ∉ L.map (·.1) → dataOf K (L ++ [(K, d, st)]) = some d
  | [], _ => by simp [dataOf, lk]
  | x :: L, h => by
    simp only [List.map_cons, List.mem_cons, not_or] at h
    unfold dataOf
    simp only [List.cons_append, lk]
    rw [if_neg (fun q => h.1 q.symm)]
    have := lk_last (d := d) (st := st) h.2
    unfold dataOf at this
    simpa using this
theorem dataOf_erase {K K' : Nat} (hne : K' ≠ K) : ∀ {L : List (Nat × ByteArray × Nat)} {i : Nat} {e : ByteArray × Nat}, L[i]? = some (K, e) → dataOf K' (L.eraseIdx i) = dataOf K' L
  | [], i, e, h => by simp at h
  | x :: L, 0, e, h => by
    simp at h; subst h
    unfold dataOf
    simp only [List.eraseIdx_cons_zero, lk]
    rw [if_neg (fun q => hne q.symm)]
    cases lk K' L <;> rfl
  | x :: L, i + 1, e, h => by
    have := dataOf_erase hne (L := L) (i := i) (e := e) (by simpa using h)
    unfold dataOf at this ⊢
    simp only [List.eraseIdx_cons_succ, lk]
    split
    · rfl
    · rw [Option.map_map, Option.map_map]; exact this
theorem erase_none {K : Nat} {L : List (Nat × ByteArray × Nat)} (hn : (L.map (·.1)).Nodup) {i : Nat} {e : ByteArray × Nat} (h : L[i]? = some (K, e)) : lk K (L.eraseIdx i) = none := by
  refine lk_none fun q => ?_
  rw [← erase_map (fun x : Nat × ByteArray × Nat => x.1)] at q
  rw [List.mem_eraseIdx_iff_getElem?] at q
  obtain ⟨j, hj, hk⟩ := q
  have hk2 : (L.map (·.1))[i]? = some K := by rw [List.getElem?_map, h]; rfl
  have h1 := (List.getElem?_eq_some_iff.1 hk).1
  exact hj ((List.getElem?_inj h1 hn).1 (by rw [hk, hk2]))
theorem clsE_some' {n : Int} : ∀ {L : List Cl} {i : Nat}, clsE n L = some i → (∃ c, L[i]? = some c ∧ n ≤ (c.size : Nat)) ∧ ∀ j c, j < i → L[j]? = some c → (c.size : Int) < n
  | [], i, h => by simp [clsE] at h
  | x :: L, i, h => by
    simp only [clsE] at h
    split at h
    · rename_i hx
      cases h
      exact ⟨⟨x, rfl, hx⟩, fun j c hj _ => absurd hj (Nat.not_lt_zero j)⟩
    · rename_i hx
      rw [Option.map_eq_some_iff] at h
      obtain ⟨i', h1, rfl⟩ := h
      obtain ⟨⟨c, h2, h3⟩, h4⟩ := clsE_some' h1
      refine ⟨⟨c, by simpa using h2, h3⟩, fun j c' hj hc => ?_⟩
      cases j with
      | zero => simp at hc; subst hc; omega
      | succ j => exact h4 j c' (by omega) (by simpa using hc)
/-- Handles that were told, and what was put under them. -/
structure HoldI (s : Sb) (hs : List (Nat × Nat)) (ds : List ByteArray) : Prop where
  nd : hs.Nodup
  len : ds.length = hs.length
  live : ∀ (j : Nat) (x : Nat × Nat) (d : ByteArray), hs[j]? = some x → ds[j]? = some d → ∃ c, s.cls[x.1]? = some c ∧ dataOf x.2 c.live = some d ∧ d.size ≤ c.size
  cnt : liveN s.cls = hs.length
  wt : weight s.cls = (hs.map fun x => 64 * 2 ^ x.1).sum
section
variable {P Q : Nat} {s : Sb} {pgs : List Nat} {hs : List (Nat × Nat)} {ds : List ByteArray}
theorem HoldI.mem (H : HoldI s hs ds) {x : Nat × Nat} (hx : x ∈ hs) : ∃ c d, s.cls[x.1]? = some c ∧ dataOf x.2 c.live = some d := by
  obtain ⟨j, hj⟩ := List.getElem?_of_mem hx
  have hl := (List.getElem?_eq_some_iff.1 hj).1
  obtain ⟨d, hd⟩ : ∃ d, ds[j]? = some d := ⟨ds[j]'(by rw [H.len]; exact hl), by simp⟩
  obtain ⟨c, h1, h2, _⟩ := H.live j x d hj hd
  exact ⟨c, d, h1, h2⟩
theorem HoldI.fresh (H : HoldI s hs ds) {i K : Nat} {c : Cl} (hi : s.cls[i]? = some c) (hK : K ∉ c.live.map (·.1)) : (i, K) ∉ hs := fun q => by
  obtain ⟨c', d, h1, h2⟩ := H.mem q
  simp only at h1 h2
  rw [hi] at h1; cases h1
  unfold dataOf at h2
  rw [lk_none hK] at h2; cases h2
theorem HoldI.alloc (I : SbI P Q s pgs) (H : HoldI s hs ds) {i K : Nat} {c c2 : Cl} (hi : s.cls[i]? = some c) (hK : K ∉ c.live.map (·.1)) {d : ByteArray} {st left used : Nat} (hl : c2.live = c.live ++ [(K, d, st)]) (hz : c2.size = c.size) (hd : d.size ≤ c.size) :
    HoldI ⟨s.page, left, used, s.cls.set i c2⟩ (hs ++ [(i, K)]) (ds ++ [d]) := by
  have hil := (List.getElem?_eq_some_iff.1 hi).1
  have fr := H.fresh hi hK
  refine ⟨?_, by simp [H.len], fun j x d' hx hd' => ?_, ?_, ?_⟩
  · rw [List.nodup_append]
    exact ⟨H.nd, by simp, fun a ha b hb q => fr (by rw [List.mem_singleton.1 hb] at q; rw [← q]; exact ha)⟩
  · have old : ∀ c', s.cls[x.1]? = some c' → dataOf x.2 c'.live = some d' → d'.size ≤ c'.size → ∃ c, (s.cls.set i c2)[x.1]? = some c ∧ dataOf x.2 c.live = some d' ∧ d'.size ≤ c.size := fun c' h1 h2 h3 => by
      by_cases q : i = x.1
      · rw [← q, hi] at h1; cases h1
        exact ⟨c2, by rw [← q, List.getElem?_set_self hil], by rw [hl]; exact lk_append_some _ h2, by rw [hz]; exact h3⟩
      · exact ⟨c', by rw [List.getElem?_set_ne q]; exact h1, h2, h3⟩
    rw [List.getElem?_append] at hx hd'
    rw [H.len] at hd'
    split at hx
    · rename_i hj
      rw [if_pos hj] at hd'
      obtain ⟨c', h1, h2, h3⟩ := H.live j x d' hx hd'
      exact old c' h1 h2 h3
    · rename_i hj
      rw [if_neg hj] at hd'
      have e := (List.getElem?_eq_some_iff.1 hx).1
      have e0 : j - hs.length = 0 := by simp at e; exact e
      rw [e0] at hx hd'
      simp at hx hd'
      subst hx hd'
      exact ⟨c2, by simp only; rw [List.getElem?_set_self hil], by rw [hl]; exact lk_last hK, by rw [hz]; exact hd⟩
  · have := mapsum_set (f := fun c => c.live.length) (c2 := c2) hi
    have e := H.cnt
    unfold liveN at e ⊢
    simp only [hl, List.length_append, List.length_singleton] at this ⊢
    omega
  · have := mapsum_set (f := fun c => c.live.length * c.size) (c2 := c2) hi
    have e := H.wt
    unfold weight at e ⊢
    simp only [hl, hz, List.length_append, List.length_singleton, Nat.add_mul, Nat.one_mul, List.map_append, List.sum_append, List.map_cons, List.map_nil, List.sum_cons, List.sum_nil, Nat.add_zero] at this ⊢
    rw [← I.sz i c hi]
    omega
theorem sum_cut {l : List Nat} {j a : Nat} (h : l[j]? = some a) : (l.take j ++ l.drop (j + 1)).sum + a = l.sum := by
  induction l generalizing j with
  | nil => simp at h
  | cons x l ih =>
    cases j with
    | zero => simp at h; subst h; simp; omega
    | succ j =>
      simp at h
      have := ih h
      simp only [List.take_succ_cons, List.drop_succ_cons, List.cons_append, List.sum_cons]
      omega
theorem HoldI.free (I : SbI P Q s pgs) (H : HoldI s hs ds) {j i K : Nat} (hj : hs[j]? = some (i, K)) {c c2 : Cl} (hi : s.cls[i]? = some c) {y : Nat × ByteArray × Nat} (hy : lk K c.live = some y) (hl : c2.live = c.live.eraseIdx y.1) (hz : c2.size = c.size) :
    HoldI { s with cls := s.cls.set i c2 } (hs.take j ++ hs.drop (j + 1)) (ds.take j ++ ds.drop (j + 1)) := by
  have hil := (List.getElem?_eq_some_iff.1 hi).1
  have hjl := (List.getElem?_eq_some_iff.1 hj).1
  obtain ⟨st, hst⟩ := lk_some hy
  have hyl := (List.getElem?_eq_some_iff.1 hst).1
  refine ⟨?_, ?_, fun m x d' hx hd' => ?_, ?_, ?_⟩
  · rw [← List.eraseIdx_eq_take_drop_succ]
    exact H.nd.sublist (List.eraseIdx_sublist _ _)
  · rw [← List.eraseIdx_eq_take_drop_succ, ← List.eraseIdx_eq_take_drop_succ, List.length_eraseIdx, List.length_eraseIdx, H.len]
  · rw [← List.eraseIdx_eq_take_drop_succ, List.getElem?_eraseIdx] at hx hd'
    obtain ⟨m', hm', hx', hd''⟩ : ∃ m', m' ≠ j ∧ hs[m']? = some x ∧ ds[m']? = some d' := by
      split at hx
      · rename_i h; rw [if_pos h] at hd'; exact ⟨m, by omega, hx, hd'⟩
      · rename_i h; rw [if_neg h] at hd'; exact ⟨m + 1, by omega, hx, hd'⟩
    obtain ⟨c', h1, h2, h3⟩ := H.live m' x d' hx' hd''
    by_cases q : i = x.1
    · rw [← q, hi] at h1; cases h1
      have hne : x.2 ≠ K := fun z => hm' ((List.getElem?_inj (List.getElem?_eq_some_iff.1 hx').1 H.nd).1 (by rw [hx', hj, q, ← z]))
      exact ⟨c2, by simp only; rw [← q, List.getElem?_set_self hil], by rw [hl, dataOf_erase hne hst]; exact h2, by rw [hz]; exact h3⟩
    · exact ⟨c', by simp only; rw [List.getElem?_set_ne q]; exact h1, h2, h3⟩
  · have := mapsum_set (f := fun c => c.live.length) (c2 := c2) hi
    have e := H.cnt
    unfold liveN at e ⊢
    have e2 : c2.live.length + 1 = c.live.length := by rw [hl, List.length_eraseIdx, if_pos hyl]; omega
    simp only [List.length_append, List.length_take, List.length_drop] at this ⊢
    omega
  · have := mapsum_set (f := fun c => c.live.length * c.size) (c2 := c2) hi
    have e := H.wt
    unfold weight at e ⊢
    have e2 : c.live.length = c2.live.length + 1 := by rw [hl, List.length_eraseIdx, if_pos hyl]; omega
    have sc := sum_cut (l := hs.map fun x => 64 * 2 ^ x.1) (j := j) (a := 64 * 2 ^ i) (by rw [List.getElem?_map, hj]; rfl)
    rw [← List.map_take, ← List.map_drop, ← List.map_append] at sc
    rw [e2, hz, Nat.add_mul, Nat.one_mul] at this
    have := I.sz i c hi
    show ((s.cls.set i c2).map fun c => c.live.length * c.size).sum = _
    omega
end
def hC (x : Nat × Nat) : List AV := [.int .i64 (x.1 : Nat), .int .i64 (x.2 : Nat)]
theorem hC_len (x : Nat × Nat) : (hC x).length = 2 := rfl

/-- A slab, handles and texts, each in memory of its own. -/
structure HS (h0 h : Heap) (b : Nat) (s : Sb) (vc : AV) (hs : List (Nat × Nat)) (ds : List ByteArray) (vh vd : AV) : Prop where
  o : SlO h b s vc
  mh : Mine 2 hs.length h vh (cat hC hs)
  md : Mine 1 ds.length h vd (ds.map sv)
  fh : ∀ e, Has vh e → e ∉ fpS b s vc
  fd : ∀ e, Has vd e → e ∉ fpS b s vc
  hd : ∀ e, Has vh e → ¬ Has vd e
  kb : Keep h0.next nob h0 h
  nb : ∀ e, e ∈ fpS b s vc → h0.next ≤ e
  nh : ∀ e, Has vh e → h0.next ≤ e
  nd : ∀ e, Has vd e → h0.next ≤ e
section
variable {h0 h h' : Heap} {b : Nat} {s s' : Sb} {vc : AV} {hs hs' : List (Nat × Nat)} {ds ds' : List ByteArray} {vh vd vh' vd' : AV}
theorem HS.ext (S : HS h0 h b s vc hs ds vh vd) (K : Keep h.next nob h h') : HS h0 h' b s vc hs ds vh vd :=
  ⟨S.o.ext K, S.mh.ext K, S.md.ext K, S.fh, S.fd, S.hd, S.kb.trans (K.weak S.kb.1 fun _ _ q => q), S.nb, S.nh, S.nd⟩
theorem HS.slab (S : HS h0 h b s vc hs ds vh vd) (O : SlO h' b s' vc) (f : ∀ e, e ∈ fpS b s' vc → e ∈ fpS b s vc ∨ h.next ≤ e) (K : Keep h.next (fun e => e ∈ fpS b s vc) h h') : HS h0 h' b s' vc hs ds vh vd := by
  have hk := S.kb.1
  refine ⟨O, S.mh.keep K S.fh, S.md.keep K S.fd, fun e he q => ?_, fun e he q => ?_, S.hd, ⟨Nat.le_trans S.kb.1 K.1, fun e he _ => ?_⟩, fun e he => ?_, S.nh, S.nd⟩
  · rcases f e q with z | z
    · exact S.fh e he z
    · have := S.mh.lt he; omega
  · rcases f e q with z | z
    · exact S.fd e he z
    · have := S.md.lt he; omega
  · rw [K.2 e (by omega) (fun q => by have := S.nb e q; omega), S.kb.2 e he id]
  · rcases f e he with z | z
    · exact S.nb e z
    · omega
theorem HS.both (S : HS h0 h b s vc hs ds vh vd) (Mh : Mine 2 hs'.length h' vh' (cat hC hs')) (Md : Mine 1 ds'.length h' vd' (ds'.map sv)) (K : Keep h.next (fun e => Has vh e ∨ Has vd e) h h') (fh : From h vh vh') (fd : From h vd vd') (hd : ∀ e, Has vh' e → ¬ Has vd' e) :
    HS h0 h' b s vc hs' ds' vh' vd' := by
  have hk := S.kb.1
  refine ⟨S.o.keep K fun e he q => ?_, Mh, Md, fun e he q => ?_, fun e he q => ?_, hd, ⟨Nat.le_trans S.kb.1 K.1, fun e he _ => ?_⟩, S.nb, fun e he => ?_, fun e he => ?_⟩
  · rcases q with q | q
    · exact S.fh e q he
    · exact S.fd e q he
  · rcases fh e he with z | z
    · exact S.fh e z q
    · have := S.o.fp_lt q; omega
  · rcases fd e he with z | z
    · exact S.fd e z q
    · have := S.o.fp_lt q; omega
  · rw [K.2 e (by omega) (fun q => by
      rcases q with q | q
      · have := S.nh e q; omega
      · have := S.nd e q; omega), S.kb.2 e he id]
  · rcases fh e he with z | z
    · exact S.nh e z
    · omega
  · rcases fd e he with z | z
    · exact S.nd e z
    · omega
end
/-- Two handles are compared. -/
theorem hand_eq (a b c d : Int) : semPure Try.prog (Op.equal 58 (.agg ⟨[.int .i64 a, .int .i64 b]⟩) (.agg ⟨[.int .i64 c, .int .i64 d]⟩)) = some (decide (a = c ∧ b = d)) := by
  unfold Op.equal Op.maxDepth
  rw [equal_struct (p := fun fl => match fl.offset with | 0 => a == c | _ => b == d) (d := 9999) Try.underlying58 (by kernel_rfl) (fun fl hf _ => ?_)]
  · congr 1
    have hi : ∀ a b : Int, (a == b) = decide (a = b) := fun a b => rfl
    simp [hi]
  simp only [List.mem_cons, List.not_mem_nil, or_false] at hf
  rcases hf with rfl | rfl
  all_goals exact ⟨_, _, part_basic (u := .int .i64) Try.underlying3 rfl rfl, part_basic (u := .int .i64) Try.underlying3 rfl rfl, equal_basic (u := .int .i64) Try.underlying3 rfl rfl _⟩
section
variable {a b c e : Int} {t : Tr AV} {d : Option Tmp} {tv v : TypeId} {pos : String} {af : Array Edge} {gd : Option (Nat × Bool)} {i j : Nat}
theorem aback_h (hx : ev t (.tmp i) = .agg [.int .i64 a, .int .i64 b]) (hy : ev t (.tmp j) = .agg [.int .i64 c, .int .i64 e]) :
    aback0 Try.prog t ⟨d, .binOp .eql 58 (.tmp i) (.tmp j) tv, v, pos, af, gd⟩ = some (.bool (decide (a = c ∧ b = e))) :=
  aback_eqS hx hy rfl rfl (by kernel_rfl) (hand_eq a b c e) .eql (.inl rfl)
theorem aback_hn (hx : ev t (.tmp i) = .agg [.int .i64 a, .int .i64 b]) (hy : ev t (.tmp j) = .agg [.int .i64 c, .int .i64 e]) :
    aback0 Try.prog t ⟨d, .binOp .neq 58 (.tmp i) (.tmp j) tv, v, pos, af, gd⟩ = some (.bool (!decide (a = c ∧ b = e))) :=
  aback_eqS hx hy rfl rfl (by kernel_rfl) (hand_eq a b c e) .neq (.inr rfl)
end
end Go.Proofs.Ytelnkdgpghndgaa
/- depotref5.Slab: Alloc that is refused; the document's slab beside the program's. -/
namespace Go.Proofs.Ytelnkdgpghndgaa
open Go Go.YtelnkdgpghndgaaAbs
set_option linter.unusedSimpArgs false
set_option linter.unusedVariables false
set_option maxRecDepth 4000

theorem ralloc_no (k : Nat) (hk : 70000 < k) (h : Heap) (b : Nat) (r : Rb) (vc : AV) (O : RO h b r vc) (hl : r.cls.length ≤ 20) (d : ByteArray) (er : Nat)
    (hc : (clsS (d.size : Nat) (r.cls.map (·.size)) = none ∧ er = 2) ∨ (∃ i c, clsS (d.size : Nat) (r.cls.map (·.size)) = some i ∧ r.cls[i]? = some c ∧ c.free = [] ∧ r.left = 0 ∧ er = 6)) :
    ∃ v' h', acall Try.prog (k + 2) 43 [.ptr b 0, .str d] h = some (v', h') ∧ v' = .tup [.agg [.int .i64 0, .int .i64 0], .int .i64 (er : Nat)] ∧ Keep h.next nob h h' := by
  obtain ⟨n0, hn0⟩ : ∃ n0, n0 = h.next := ⟨_, rfl⟩
  obtain ⟨h1, e1⟩ : ∃ h1, h.new (.cells [.int .i64 0, .int .i64 0] false) = h1 := ⟨_, rfl⟩
  have k1 : Keep h.next nob h h1 := by rw [← e1]; exact Keep.new (Nat.le_refl _) _
  have g1 : h1.get n0 = some (.cells [.int .i64 0, .int .i64 0] false) := by rw [← e1, hn0]; exact get_new_self _ _
  have O1 : RO h1 b r vc := Hold.ext O k1
  obtain ⟨_, h2, E2, e2, rfl⟩ := rclass_ok k (by omega) h1 b r vc O1 hl d.size
  replace e2 := e2.symm
  subst e2
  have A8 : alay h1 n0 0 [.int .i64 0, .int .i64 0] = some (h1.set n0 (.cells [.int .i64 0, .int .i64 0] false)) := by unfold alay; rw [g1]; rfl
  have g8 : (h1.set n0 (.cells [.int .i64 0, .int .i64 0] false)).get n0 = some (.cells [.int .i64 0, .int .i64 0] false) := get_set_self _ _ _
  have K8 : Keep h.next nob h (h1.set n0 (.cells [.int .i64 0, .int .i64 0] false)) := k1.trans (Keep.set (.inr (by omega)) _)
  generalize h1.set n0 (.cells [.int .i64 0, .int .i64 0] false) = h8 at *
  have l8 : aload Try.prog h8 58 n0 0 = some (.agg [.int .i64 0, .int .i64 0]) := by simp [aload, Heap.row, g8, ta58, ts58]
  have rwH : (AV.agg [.int .i64 0, .int .i64 0]).row1 = some [.int .i64 0, .int .i64 0] := rfl
  rw [acall_text [12, 15] Try.func43 (by kernel_rfl)]
  refine afuncT_ex rfl (by simp [Try.f43]) ?_
  rcases hc with ⟨hc, rfl⟩ | ⟨i, c, hc, hi, hf, h0, rfl⟩
  · rw [hc] at E2
    simp only at E2
    simp [Try.f43, e1, ← hn0, E2, afill, rwH, A8, l8]
    rw [hn0]; exact K8
  · rw [hc] at E2
    simp only at E2
    have hil := (List.getElem?_eq_some_iff.1 hi).1
    have l2 := RO.ld2 O1 (ty := 64) ta64
    have l1 := RO.ld1 O1 (ty := 3) ta3
    rw [h0] at l1
    have ix := (RO.own O1).sl.idx (P := Try.prog) Try.underlying64 ts91 (j := i) hil .i64
    have lf := RO.ldc O1 hi (o := 2) (x := c.fv) (by omega) rfl (ty := 44) ta44
    have flen := (RO.free O1 hi).sl.len'
    rw [hf] at flen
    simp [Try.f43, e1, ← hn0, E2, l2, ix, lf, flen, l1, afill, rwH, A8, l8]
    rw [hn0]; exact K8
/-- A class of the document's beside one of the program's. -/
structure RelC (c : Cl) (q : Rc) : Prop where
  size : q.size = c.size
  free : q.free = c.free
  count : q.count = c.count
  dl : q.data.length = c.count
  ll : q.live.length = c.count
  live : ∀ K, K < c.count → q.live[K]? = some (dataOf K c.live).isSome
  data : ∀ (K : Nat) (d : ByteArray), dataOf K c.live = some d → q.data[K]? = some d
structure RelS (s : Sb) (r : Rb) : Prop where
  page : r.page = s.page
  left : r.left = s.left
  len : r.cls.length = s.cls.length
  cls : ∀ (i : Nat) (c : Cl) (q : Rc), s.cls[i]? = some c → r.cls[i]? = some q → RelC c q
section
variable {s : Sb} {r : Rb} {P Q : Nat} {pgs : List Nat}
theorem RelS.sizes (R : RelS s r) : r.cls.map (·.size) = s.cls.map (·.size) := by
  refine List.ext_getElem? fun i => ?_
  rw [List.getElem?_map, List.getElem?_map]
  cases hc : s.cls[i]? with
  | none =>
    rw [List.getElem?_eq_none (by rw [List.getElem?_eq_none_iff] at hc; rw [R.len]; exact hc)]; rfl
  | some c =>
    have hl := (List.getElem?_eq_some_iff.1 hc).1
    have hq : r.cls[i]? = some (r.cls[i]'(by rw [R.len]; exact hl)) := by simp
    rw [hq]
    simp only [Option.map_some, (R.cls i c _ hc hq).size]
theorem RelS.at (R : RelS s r) {i : Nat} {c : Cl} (hc : s.cls[i]? = some c) : ∃ q, r.cls[i]? = some q ∧ RelC c q := by
  have hl := (List.getElem?_eq_some_iff.1 hc).1
  have hq : r.cls[i]? = some (r.cls[i]'(by rw [R.len]; exact hl)) := by simp
  exact ⟨_, hq, R.cls i c _ hc hq⟩
theorem RelS.at' (R : RelS s r) {i : Nat} {q : Rc} (hq : r.cls[i]? = some q) : ∃ c, s.cls[i]? = some c ∧ RelC c q := by
  have hl := (List.getElem?_eq_some_iff.1 hq).1
  have hc : s.cls[i]? = some (s.cls[i]'(by rw [← R.len]; exact hl)) := by simp
  exact ⟨_, hc, R.cls i _ q hc hq⟩
theorem RelS.rbi (R : RelS s r) (I : SbI P Q s pgs) (hP : P ≤ 64) (hQ : Q ≤ 65536) : RbI r := fun j q hq => by
  obtain ⟨c, hc, C⟩ := R.at' hq
  have := I.small hP hQ hc
  exact ⟨by rw [C.dl, C.count], by rw [C.ll, C.count], by rw [C.count]; omega, by rw [C.free]; omega⟩
theorem data_lt (I : SbI P Q s pgs) {i K : Nat} {c : Cl} (hc : s.cls[i]? = some c) {d : ByteArray} (hd : dataOf K c.live = some d) : K < c.count := by
  obtain ⟨pg, _, J, _⟩ := I.pg hc
  unfold dataOf at hd
  rw [Option.map_eq_some_iff] at hd
  obtain ⟨y, hy, _⟩ := hd
  obtain ⟨st, hst⟩ := lk_some hy
  exact J.lt K (List.mem_append.2 (.inr (List.mem_map.2 ⟨_, List.mem_of_getElem? hst, rfl⟩)))
/-- What is live, is live for both. -/
theorem RelS.there (R : RelS s r) (I : SbI P Q s pgs) (ci ch : Int) : thereR r ci ch = (readS s ci ch).isSome ∧ readR r ci ch = (readS s ci ch).map (·.2.1) := by
  have h1 : thereR r ci ch = (readS s ci ch).isSome := by
    unfold thereR readS
    by_cases c0 : ci < 0
    · rw [if_pos c0, if_pos c0]; rfl
    rw [if_neg c0, if_neg c0]
    cases hc : s.cls[ci.toNat]? with
    | none => rw [List.getElem?_eq_none (by rw [List.getElem?_eq_none_iff] at hc; rw [R.len]; exact hc)]; rfl
    | some c =>
      obtain ⟨q, hq, C⟩ := R.at hc
      rw [hq]
      simp only
      unfold lkI
      by_cases d0 : ch < 0
      · rw [if_pos d0, if_neg (by omega)]; rfl
      rw [if_neg d0, if_pos (by omega)]
      by_cases hK : ch.toNat < c.count
      · rw [C.live _ hK]
        unfold dataOf
        simp
      · rw [List.getElem?_eq_none (by rw [C.ll]; omega)]
        cases hlk : lk ch.toNat c.live with
        | none => rfl
        | some y => exact absurd (data_lt I hc (d := y.2.1) (by unfold dataOf; rw [hlk]; rfl)) hK
  refine ⟨h1, ?_⟩
  unfold readR
  rw [h1]
  cases hr : readS s ci ch with
  | none => rfl
  | some y =>
    simp only [Option.isSome_some, if_true, Option.map_some, Option.some.injEq]
    unfold readS at hr
    split at hr
    · cases hr
    · split at hr
      · rename_i c hc
        obtain ⟨q, hq, C⟩ := R.at hc
        unfold lkI at hr
        split at hr
        · rw [hq]
          simp only [Option.bind_some]
          rw [C.data _ y.2.1 (by unfold dataOf; rw [hr]; rfl)]
          rfl
        · cases hr
      · cases hr
theorem RelS.set (R : RelS s r) {i : Nat} {c2 : Cl} {q2 : Rc} (C : RelC c2 q2) {left used : Nat} : RelS ⟨s.page, left, used, s.cls.set i c2⟩ ⟨r.page, left, r.cls.set i q2⟩ := by
  refine ⟨R.page, rfl, by simp only [List.length_set]; exact R.len, fun j c q hc hq => ?_⟩
  simp only at hc hq
  by_cases hij : i = j
  · subst hij
    have h1 := (List.getElem?_eq_some_iff.1 hc).1
    have h2 := (List.getElem?_eq_some_iff.1 hq).1
    rw [List.length_set] at h1 h2
    rw [List.getElem?_set_self h1] at hc
    rw [List.getElem?_set_self h2] at hq
    cases hc; cases hq
    exact C
  · rw [List.getElem?_set_ne hij] at hc hq
    exact R.cls j c q hc hq
theorem dataOf_last {K K' : Nat} (hne : K' ≠ K) {d : ByteArray} {st : Nat} : ∀ {L : List (Nat × ByteArray × Nat)}, dataOf K' (L ++ [(K, d, st)]) = dataOf K' L
  | [] => by simp [dataOf, lk, Ne.symm hne]
  | x :: L => by
    have := dataOf_last hne (d := d) (st := st) (L := L)
    unfold dataOf at this ⊢
    simp only [List.cons_append, lk]
    split
    · rfl
    · rw [Option.map_map, Option.map_map]; exact this
theorem RelC.alloc {c c2 : Cl} {q q2 : Rc} (C : RelC c q) {K cnt st : Nat} {d : ByteArray} {F : List Nat} (hlt : ∀ x, x ∈ c.live.map (·.1) → x < c.count) (hK : K ∉ c.live.map (·.1)) (hKc : K < cnt) (hcc : c.count ≤ cnt)
    (z1 : c2.size = c.size) (z2 : c2.free = F) (z3 : c2.count = cnt) (z4 : c2.live = c.live ++ [(K, d, st)]) (y1 : q2.size = q.size) (y2 : q2.free = F) (y3 : q2.count = cnt)
    (y4 : q2.data = (q.data ++ List.replicate (cnt - q.count) ByteArray.empty).set K d) (y5 : q2.live = (q.live ++ List.replicate (cnt - q.count) false).set K true) : RelC c2 q2 := by
  have hdl : (q.data ++ List.replicate (cnt - q.count) ByteArray.empty).length = cnt := by rw [List.length_append, List.length_replicate, C.dl, C.count]; omega
  have hll : (q.live ++ List.replicate (cnt - q.count) false).length = cnt := by rw [List.length_append, List.length_replicate, C.ll, C.count]; omega
  refine ⟨by rw [y1, z1, C.size], by rw [y2, z2], by rw [y3, z3], by rw [y4, List.length_set, hdl, z3], by rw [y5, List.length_set, hll, z3], fun K' hK' => ?_, fun K' d' hd' => ?_⟩
  · rw [y5, z4]
    rw [z3] at hK'
    by_cases q1 : K' = K
    · subst q1
      rw [List.getElem?_set_self (by omega), lk_last hK]; rfl
    · rw [List.getElem?_set_ne (Ne.symm q1), dataOf_last q1]
      by_cases q2 : K' < c.count
      · rw [List.getElem?_append_left (by rw [C.ll]; exact q2)]
        exact C.live K' q2
      · rw [List.getElem?_append_right (by rw [C.ll]; omega), List.getElem?_replicate, if_pos (by rw [C.ll, C.count]; omega)]
        have : lk K' c.live = none := lk_none fun q => q2 (hlt K' q)
        unfold dataOf
        rw [this]; rfl
  · rw [y4]
    rw [z4] at hd'
    by_cases q1 : K' = K
    · subst q1
      rw [lk_last hK] at hd'
      cases hd'
      rw [List.getElem?_set_self (by omega)]
    · rw [dataOf_last q1] at hd'
      have e := C.data K' d' hd'
      have := (List.getElem?_eq_some_iff.1 e).1
      rw [List.getElem?_set_ne (Ne.symm q1), List.getElem?_append_left this]
      exact e
theorem RelC.freed {c c2 : Cl} {q q2 : Rc} (C : RelC c q) {K : Nat} {y : Nat × ByteArray × Nat} (hy : lk K c.live = some y) (hn : (c.live.map (·.1)).Nodup) (z1 : c2.size = c.size) (z2 : c2.free = c.free ++ [K]) (z3 : c2.count = c.count) (z4 : c2.live = c.live.eraseIdx y.1)
    (y1 : q2.size = q.size) (y2 : q2.free = q.free ++ [K]) (y3 : q2.count = q.count) (y4 : q2.data = q.data.set K .empty) (y5 : q2.live = q.live.set K false) : RelC c2 q2 := by
  obtain ⟨st, hst⟩ := lk_some hy
  refine ⟨by rw [y1, z1, C.size], by rw [y2, z2, C.free], by rw [y3, z3, C.count], by rw [y4, List.length_set, C.dl, z3], by rw [y5, List.length_set, C.ll, z3], fun K' hK' => ?_, fun K' d' hd' => ?_⟩
  · rw [y5, z4]
    rw [z3] at hK'
    by_cases q1 : K' = K
    · subst q1
      rw [List.getElem?_set_self (by rw [C.ll]; exact hK')]
      unfold dataOf
      rw [erase_none hn hst]; rfl
    · rw [List.getElem?_set_ne (Ne.symm q1), dataOf_erase q1 hst]
      exact C.live K' hK'
  · rw [z4] at hd'
    have q1 : K' ≠ K := fun z => by
      subst z
      unfold dataOf at hd'
      rw [erase_none hn hst] at hd'; cases hd'
    rw [dataOf_erase q1 hst] at hd'
    rw [y4, List.getElem?_set_ne (Ne.symm q1)]
    exact C.data K' d' hd'
theorem RelS.new {cls : List Cl} {rcls : List Rc} {P Q : Nat} (F : FreshC cls) (G : FreshR rcls) (h1 : 64 * 2 ^ (cls.length - 1) ≤ Q) (h2 : Q < 64 * 2 ^ cls.length) (h3 : 64 * 2 ^ (rcls.length - 1) ≤ Q) (h4 : Q < 64 * 2 ^ rcls.length) (l1 : 1 ≤ cls.length) (l3 : 1 ≤ rcls.length) : RelS ⟨Q, P, 0, cls⟩ ⟨Q, P, rcls⟩ := by
  have hlen : rcls.length = cls.length := by
    have a : ¬ cls.length < rcls.length := fun q => by
      have : 2 ^ cls.length ≤ 2 ^ (rcls.length - 1) := Nat.pow_le_pow_right (by omega) (by omega)
      omega
    have b : ¬ rcls.length < cls.length := fun q => by
      have : 2 ^ rcls.length ≤ 2 ^ (cls.length - 1) := Nat.pow_le_pow_right (by omega) (by omega)
      omega
    omega
  refine ⟨rfl, rfl, hlen, fun i c q hc hq => ?_⟩
  obtain ⟨f1, f2, f3, f4, f5⟩ := F i c hc
  obtain ⟨g1, g2, g3, g4, g5⟩ := G i q hq
  exact ⟨by rw [g1, f1], by rw [g2, f2], by rw [g3, f5], by rw [g4, f5]; rfl, by rw [g5, f5]; rfl, fun K hK => by rw [f5] at hK; omega, fun K d hd => by rw [f3] at hd; cases hd⟩
end
/-- New that is refused, for both. -/
theorem new_no (k : Nat) (h : Heap) (P Q : Int) (hbad : P < 1 ∨ 64 < P ∨ Q < 64 ∨ 65536 < Q) : acall Try.prog (k + 1) 27 [.int .i64 P, .int .i64 Q] h = some (.tup [.nilp, .int .i64 1], h) ∧ acall Try.prog (k + 1) 39 [.int .i64 P, .int .i64 Q] h = some (.tup [.nilp, .int .i64 1], h) := by
  constructor
  · rw [acall_text [] Try.func27 (by kernel_rfl)]
    refine afuncT_of rfl (by simp [Try.f27]) ?_
    by_cases c1 : P < 1
    · simp [Try.f27, isLt c1]
    by_cases c2 : 64 < P
    · simp [Try.f27, isLe (show (1 : Int) ≤ P by omega), isLt c2]
    by_cases c3 : Q < 64
    · simp [Try.f27, isLe (show (1 : Int) ≤ P by omega), isLe (show P ≤ 64 by omega), isLt c3]
    have c4 : 65536 < Q := by omega
    simp [Try.f27, isLe (show (1 : Int) ≤ P by omega), isLe (show P ≤ 64 by omega), isLe (show (64 : Int) ≤ Q by omega), isLt c4]
  · rw [acall_text [] Try.func39 (by kernel_rfl)]
    refine afuncT_of rfl (by simp [Try.f39]) ?_
    by_cases c1 : P < 1
    · simp [Try.f39, isLt c1]
    by_cases c2 : 64 < P
    · simp [Try.f39, isLe (show (1 : Int) ≤ P by omega), isLt c2]
    by_cases c3 : Q < 64
    · simp [Try.f39, isLe (show (1 : Int) ≤ P by omega), isLe (show P ≤ 64 by omega), isLt c3]
    have c4 : 65536 < Q := by omega
    simp [Try.f39, isLe (show (1 : Int) ≤ P by omega), isLe (show P ≤ 64 by omega), isLe (show (64 : Int) ≤ Q by omega), isLt c4]
end Go.Proofs.Ytelnkdgpghndgaa
/- slab and depotref5.Slab beside each other: what is asked of both. -/
namespace Go.Proofs.Ytelnkdgpghndgaa
open Go Go.YtelnkdgpghndgaaAbs
set_option linter.unusedSimpArgs false
set_option linter.unusedVariables false
set_option maxRecDepth 4000

def Cl.th (c : Cl) : List Th := [(c.fv, .vec 1 c.free.length (c.free.map nn)), (.mp c.mb, .mp (c.live.map me) c.cl)]
theorem Cl.th_len (c : Cl) : c.th.length = 2 := rfl
def Sb.th (s : Sb) (b : Nat) (vc : AV) : List Th := (.ptr b 0, .blk [.int .i64 (s.page : Nat), .int .i64 (s.left : Nat), .int .i64 (s.used : Nat), vc]) :: (vc, .vec 4 s.cls.length (cat Cl.c s.cls)) :: gcat Cl.th s.cls
section
variable {h h' : Heap} {b : Nat} {s s' : Sb} {vc : AV}
theorem th_map (L : List Cl) : (gcat Cl.th L).map (·.1) = cat Cl.at L := by
  induction L with
  | nil => rfl
  | cons c L ih => rw [gcat_cons, List.map_append, ih, cat_cons]; rfl
theorem sb_inn {d : Nat} : Inn (s.th b vc) d ↔ d ∈ fpS b s vc := by
  unfold Inn fpS Sb.th
  rw [List.map_cons, List.map_cons, th_map]
theorem slo_hold : SlO h b s vc ↔ Hold h (s.th b vc) := by
  constructor
  · intro O
    refine ⟨fun x hx => ?_, ?_⟩
    · unfold Sb.th at hx
      simp only [List.mem_cons] at hx
      rcases hx with rfl | rfl | hx
      · exact ⟨b, rfl, O.lt, O.str⟩
      · exact O.own
      · unfold gcat at hx
        obtain ⟨l, hl, hx⟩ := List.mem_flatten.1 hx
        obtain ⟨c, hc, rfl⟩ := List.mem_map.1 hl
        simp [Cl.th] at hx
        rcases hx with rfl | rfl
        · exact O.free c hc
        · exact ⟨c.mb, rfl, (O.live c hc).2, (O.live c hc).1⟩
    · unfold Sb.th
      rw [List.map_cons, List.map_cons, th_map]
      exact O.apart
  · intro O
    have mem : ∀ c, c ∈ s.cls → ∀ x, x ∈ c.th → Holds h x.1 x.2 := fun c hc x hx => O.each x (by
      unfold Sb.th
      simp only [List.mem_cons]
      exact .inr (.inr (List.mem_flatten.2 ⟨c.th, List.mem_map.2 ⟨c, hc, rfl⟩, hx⟩)))
    obtain ⟨b', e, h1, h2⟩ := O.get (i := 0) (v := .ptr b 0) rfl
    cases e
    refine ⟨h2, h1, O.get (i := 1) (v := vc) rfl, fun c hc => mem c hc _ (List.mem_cons_self ..), fun c hc => ?_, ?_⟩
    · obtain ⟨b', e, h1, h2⟩ := mem c hc (.mp c.mb, .mp (c.live.map me) c.cl) (by simp [Cl.th])
      cases e
      exact ⟨h2, h1⟩
    · have := O.apart
      unfold Sb.th at this
      rw [List.map_cons, List.map_cons, th_map] at this
      exact this
theorem slo_stp (O : SlO h' b s' vc) (f : ∀ e, e ∈ fpS b s' vc → e ∈ fpS b s vc ∨ h.next ≤ e) (K : Keep h.next (fun e => e ∈ fpS b s vc) h h') : Stp h (s.th b vc) h' (s'.th b vc) :=
  ⟨slo_hold.1 O, fun d hd => by rw [sb_inn] at hd ⊢; exact f d hd, K.weak (Nat.le_refl _) fun d _ hd => sb_inn.2 hd⟩
end
/-- Both, as they stand to each other. -/
structure Bth (P Q : Nat) (s : Sb) (r : Rb) (live : Nat) : Prop where
  rel : RelS s r
  inv : ∃ pgs, SbI P Q s pgs
  live : liveN s.cls = live
section
variable {P Q : Nat} {s : Sb} {r : Rb} {live : Nat}
theorem liveN_set {i : Nat} {c c2 : Cl} (hi : s.cls[i]? = some c) : liveN (s.cls.set i c2) + c.live.length = liveN s.cls + c2.live.length := mapsum_set (f := fun c => c.live.length) hi
/-- A text is put into both. -/
theorem both_alloc (B : Bth P Q s r live) (hP : P ≤ 64) (hQ : 64 ≤ Q ∧ Q ≤ 65536) (k : Nat) (hk : 70000 < k) (d : ByteArray) (hd : d.size ≤ 1000000) (h : Heap) (b : Nat) (vc : AV) (O : SlO h b s vc) :
    ∃ (ci K er : Nat) (s' : Sb) (h' : Heap), acall Try.prog (k + 2) 30 [.ptr b 0, .str d] h = some (.tup [.agg [.int .i64 (ci : Nat), .int .i64 (K : Nat)], .int .i64 (er : Nat)], h') ∧ Stp h (s.th b vc) h' (s'.th b vc) ∧
      s'.cls.map (·.size) = s.cls.map (·.size) ∧ s'.cls.length = s.cls.length ∧
      ∀ (h2 : Heap) (rb : Nat) (rv : AV), RO h2 rb r rv → ∃ h3 r', acall Try.prog (k + 2) 43 [.ptr rb 0, .str d] h2 = some (.tup [.agg [.int .i64 (ci : Nat), .int .i64 (K : Nat)], .int .i64 (er : Nat)], h3) ∧ Stp h2 (r.th rb rv) h3 (r'.th rb rv) ∧
        Bth P Q s' r' (if er = 0 then live + 1 else live) ∧ r'.cls.length = r.cls.length := by
  obtain ⟨R, ⟨pgs, I⟩, hlive⟩ := B
  have hlen := I.l2
  have hRlen : r.cls.length ≤ 20 := by rw [R.len]; omega
  have htot := I.tot
  have hpage := I.page
  have RB := R.rbi I hP hQ.2
  have hmx : d.size ≤ maxLen := by have : maxLen = 9223372036854775807 := rfl; omega
  cases hc : clsE (d.size : Nat) s.cls with
  | none =>
    obtain ⟨_, h5, E5, rfl, k5⟩ := alloc_long k hk h b s vc O (by omega) d hc
    refine ⟨0, 0, 2, s, h5, E5, ⟨slo_hold.1 (O.ext k5), Fresh.refl _ _, k5.in⟩, rfl, rfl, fun h2 rb rv O2 => ?_⟩
    obtain ⟨_, h3, E3, rfl, k3⟩ := ralloc_no k hk h2 rb r rv O2 hRlen d 2 (.inl ⟨by rw [R.sizes, ← clsE_S]; exact hc, rfl⟩)
    exact ⟨h3, r, E3, ⟨Hold.ext O2 k3, Fresh.refl _ _, k3.in⟩, ⟨R, ⟨_, I⟩, hlive⟩, rfl⟩
  | some ci =>
    obtain ⟨⟨c, hci, hle⟩, _⟩ := clsE_some' hc
    have hcS : clsS (d.size : Nat) (r.cls.map (·.size)) = some ci := by rw [R.sizes, ← clsE_S]; exact hc
    obtain ⟨q, hq, C⟩ := R.at hci
    obtain ⟨z1, z2, z3⟩ := I.small hP hQ.2 hci
    have hsz := I.size hci
    have hcil := (List.getElem?_eq_some_iff.1 hci).1
    by_cases hroom : c.free ≠ [] ∨ s.left ≠ 0
    · obtain ⟨_, h5, E5, c2, F, cnt, left, used, K, e1, e2, e3, e4, hK, rfl, y1, y2, y3, y4, O5, f5, k5⟩ := alloc_ok k hk h b s vc O (by omega) d hmx hc hci (by omega) (by omega) (by omega) (by omega) (by omega) hroom
      obtain ⟨fr, hl, hcl, pgs5, I5⟩ := I.alloc hci hroom e1 e2 e3 e4 hK y1 y2 y3 y4
      obtain ⟨pg, hpg, J, _⟩ := I.pg hci
      have hFm := List.mem_of_getElem? hK
      have hKc : K < cnt := by
        rw [e1] at hFm
        rw [e2]
        split at hFm
        · rename_i q0
          rw [if_pos q0]
          exact (fl_mem (Nat.le_refl _) hFm).2
        · rename_i q0
          rw [if_neg q0]
          exact J.lt K (List.mem_append.2 (.inl hFm))
      have hcc : c.count ≤ cnt := by
        rw [e2]; split
        · exact Nat.le_add_right _ _
        · exact Nat.le_refl _
      refine ⟨ci, K, 0, _, h5, E5, slo_stp O5 f5 k5, ?_, by simp, fun h2 rb rv O2 => ?_⟩
      · simp only [List.map_set]
        rw [y1, set_same' (by rw [List.getElem?_map, hci]; rfl)]
      obtain ⟨_, h3, E3, q2, F', cnt', left', K', g1, g2, g3, gK, rfl, x1, x2, x3, x4, x5, T⟩ := ralloc_ok k hk h2 rb r rv O2 RB hRlen d hcS hq (by rw [R.page]; omega) (by rw [R.left]; omega) (by rw [C.size, R.page]; omega) (fun x hx => by rw [C.free] at hx; rw [C.count]; exact J.lt x (List.mem_append.2 (.inl hx))) (by rw [C.free, R.left]; exact hroom)
      rw [C.free, C.size, C.count, R.page, ← e1] at g1
      rw [C.free, C.size, C.count, R.page, ← e2] at g2
      rw [C.free, R.left, ← e3] at g3
      subst g1 g2 g3
      rw [hK] at gK
      cases gK
      have hl1 : c2.live.length = c.live.length + 1 := by rw [hl, List.length_append, List.length_singleton]
      have hls := liveN_set (c2 := c2) hci
      refine ⟨h3, _, E3, T, ⟨?_, ⟨_, I5⟩, ?_⟩, by simp⟩
      · exact R.set (RelC.alloc C (fun x hx => J.lt x (List.mem_append.2 (.inr hx))) fr hKc hcc y1 y2 y3 hl x1 x2 x3 x4 x5)
      · simp only [if_true]; omega
    · have hf : c.free = [] := Classical.byContradiction fun z => hroom (.inl z)
      have h0 : s.left = 0 := Classical.byContradiction fun z => hroom (.inr z)
      obtain ⟨_, h5, E5, rfl, k5⟩ := alloc_full k h b s vc hk O (by omega) d hmx hc hci hf h0
      refine ⟨0, 0, 6, s, h5, E5, ⟨slo_hold.1 (O.ext k5), Fresh.refl _ _, k5.in⟩, rfl, rfl, fun h2 rb rv O2 => ?_⟩
      obtain ⟨_, h3, E3, rfl, k3⟩ := ralloc_no k hk h2 rb r rv O2 hRlen d 6 (.inr ⟨ci, q, hcS, hq, by rw [C.free]; exact hf, by rw [R.left]; exact h0, rfl⟩)
      exact ⟨h3, r, E3, ⟨Hold.ext O2 k3, Fresh.refl _ _, k3.in⟩, ⟨R, ⟨_, I⟩, hlive⟩, rfl⟩
/-- A handle is freed in both: first in the document's. -/
theorem both_free (B : Bth P Q s r live) (hP : P ≤ 64) (hQ : 64 ≤ Q ∧ Q ≤ 65536) (k : Nat) (hk : 70000 < k) (ci ch : Int) (h2 : Heap) (rb : Nat) (rv : AV) (O2 : RO h2 rb r rv) :
    ∃ (ok : Bool) (h3 : Heap) (r' : Rb), acall Try.prog (k + 2) 51 [.ptr rb 0, .agg [.int .i64 ci, .int .i64 ch]] h2 = some (.bool ok, h3) ∧ Stp h2 (r.th rb rv) h3 (r'.th rb rv) ∧ r'.cls.length = r.cls.length ∧ (ok = true → 1 ≤ live) ∧
      ∀ (h : Heap) (b : Nat) (vc : AV), SlO h b s vc → ∃ (s' : Sb) (h' : Heap), acall Try.prog (k + 2) 46 [.ptr b 0, .agg [.int .i64 ci, .int .i64 ch]] h = some (.bool ok, h') ∧ Stp h (s.th b vc) h' (s'.th b vc) ∧
        Bth P Q s' r' (if ok = true then live - 1 else live) ∧ s'.cls.length = s.cls.length := by
  obtain ⟨R, ⟨pgs, I⟩, hlive⟩ := B
  have hlen := I.l2
  have RB := R.rbi I hP hQ.2
  obtain ⟨t1, t2⟩ := R.there I ci ch
  cases hr : readS s ci ch with
  | none =>
    rw [hr] at t1
    obtain ⟨_, h3, E3, rfl, k3⟩ := rfree_no k h2 rb r rv O2 RB ci ch t1
    refine ⟨false, h3, r, E3, ⟨Hold.ext O2 k3, Fresh.refl _ _, k3.in⟩, rfl, by simp, fun h b vc O => ?_⟩
    obtain ⟨_, h5, E5, rfl, k5⟩ := free_no k hk h b s vc O (by omega) ci ch hr
    exact ⟨s, h5, E5, ⟨slo_hold.1 (O.ext k5), Fresh.refl _ _, k5.in⟩, ⟨R, ⟨_, I⟩, by simpa using hlive⟩, rfl⟩
  | some y =>
    rw [hr] at t1
    obtain ⟨i, K, q, rfl, rfl, hq, hB⟩ := there_at t1
    obtain ⟨c, hc, C⟩ := R.at' hq
    have hcl := (List.getElem?_eq_some_iff.1 hc).1
    have hy : lk K c.live = some y := by
      unfold readS at hr
      rw [if_neg (by omega), Int.toNat_natCast, hc] at hr
      simp only at hr
      unfold lkI at hr
      rw [if_pos (by omega), Int.toNat_natCast] at hr
      exact hr
    obtain ⟨st, hst⟩ := lk_some hy
    have hyl := (List.getElem?_eq_some_iff.1 hst).1
    obtain ⟨z1, z2, z3⟩ := I.small hP hQ.2 hc
    obtain ⟨_, h3, E3, rfl, q2, x1, x2, x3, x4, x5, T⟩ := rfree_ok k h2 rb r rv O2 RB i K q hq hB
    have hlv := liveN_set (c2 := c) hc
    have hl0 : 1 ≤ live := by
      rw [← hlive]
      have : c.live.length ≤ liveN s.cls := mem_le_sum (List.mem_map.2 ⟨c, List.mem_of_getElem? hc, rfl⟩)
      omega
    refine ⟨true, h3, _, E3, T, by simp, fun _ => hl0, fun h b vc O => ?_⟩
    obtain ⟨_, h5, E5, rfl, c2, y1, y2, y3, y4, y5, O5, f5, k5⟩ := free_ok k hk h b s vc O (by omega) hc hy (by omega)
    obtain ⟨pgs', I5⟩ := I.free hc hy y1 y2 y3 y4
    obtain ⟨pg, hpg, J, _⟩ := I.pg hc
    have hls := liveN_set (c2 := c2) hc
    have e2 : c2.live.length + 1 = c.live.length := by rw [y4, List.length_eraseIdx, if_pos hyl]; omega
    refine ⟨_, h5, E5, slo_stp O5 f5 k5, ⟨?_, ⟨_, I5⟩, ?_⟩, by simp⟩
    · have hC := RelC.freed C hy (List.nodup_append.1 J.nd).2.1 y1 y2 y3 y4 x1 x3 x2 x4 x5
      have := R.set (i := i) hC (left := s.left) (used := s.used)
      rw [show r.left = s.left from R.left] at *
      exact this
    · simp only [if_true]; omega
/-- .. is read. -/
theorem both_read (B : Bth P Q s r live) (hP : P ≤ 64) (hQ : 64 ≤ Q ∧ Q ≤ 65536) (k : Nat) (hk : 70000 < k) (ci ch : Int) : ∃ (d : ByteArray) (ok : Bool), (∀ (h : Heap) (b : Nat) (vc : AV), SlO h b s vc → ∃ h', acall Try.prog (k + 2) 37 [.ptr b 0, .agg [.int .i64 ci, .int .i64 ch]] h = some (.tup [.str d, .bool ok], h') ∧ Keep h.next nob h h') ∧
    (∀ (h : Heap) (rb : Nat) (rv : AV), RO h rb r rv → ∃ h', acall Try.prog (k + 2) 22 [.ptr rb 0, .agg [.int .i64 ci, .int .i64 ch]] h = some (.tup [.str d, .bool ok], h') ∧ Keep h.next nob h h') := by
  obtain ⟨R, ⟨pgs, I⟩, hlive⟩ := B
  have hlen := I.l2
  have RB := R.rbi I hP hQ.2
  obtain ⟨t1, t2⟩ := R.there I ci ch
  refine ⟨((readS s ci ch).map (·.2.1)).getD .empty, (readS s ci ch).isSome, fun h b vc O => ?_, fun h rb rv O => ?_⟩
  · obtain ⟨_, h', E, rfl, k'⟩ := read_ok (k + 1) h b s vc (by omega) O (by omega) ci ch
    exact ⟨h', E, k'⟩
  · obtain ⟨_, h', E, rfl, k'⟩ := rread_ok k h rb r rv O (fun j c hc => ⟨(RB j c hc).ll, (RB j c hc).dl⟩) ci ch
    rw [t2, Option.isSome_map] at E
    exact ⟨h', E, k'⟩
end
end Go.Proofs.Ytelnkdgpghndgaa
/- chain.Chain as a row of things one holds. -/
namespace Go.Proofs.Ytelnkdgpghndgaa
open Go Go.YtelnkdgpghndgaaAbs
set_option linter.unusedSimpArgs false
set_option linter.unusedVariables false
set_option maxRecDepth 4000

/-- Rows of entries. -/
def rowsT : List AV → List (List Ent) → List Th
  | r :: rs, L :: Ls => (r, .vec 2 L.length (cat ec L)) :: rowsT rs Ls
  | _, _ => []
theorem rowsT_map : ∀ {rs : List AV} {Ls : List (List Ent)}, rs.length = Ls.length → (rowsT rs Ls).map (·.1) = rs
  | [], [], _ => rfl
  | r :: rs, L :: Ls, h => by
    simp only [rowsT, List.map_cons]
    rw [rowsT_map (by simpa using h)]
  | [], _ :: _, h => by simp at h
  | _ :: _, [], h => by simp at h
theorem rowsT_get : ∀ {rs : List AV} {Ls : List (List Ent)} {i : Nat} {r : AV} {L : List Ent}, rs[i]? = some r → Ls[i]? = some L → (rowsT rs Ls)[i]? = some (r, .vec 2 L.length (cat ec L))
  | r :: rs, L :: Ls, 0, _, _, h1, h2 => by
    simp at h1 h2
    subst h1 h2
    rfl
  | r :: rs, L :: Ls, i + 1, _, _, h1, h2 => by
    simp only [rowsT, List.getElem?_cons_succ]
    exact rowsT_get (by simpa using h1) (by simpa using h2)
  | [], _, _, _, _, h1, _ => by simp at h1
  | _ :: _, [], _, _, _, _, h2 => by simp at h2
theorem rowsT_mem {rs : List AV} {Ls : List (List Ent)} {x : Th} (h : x ∈ rowsT rs Ls) : ∃ (i : Nat) (r : AV) (L : List Ent), rs[i]? = some r ∧ Ls[i]? = some L ∧ x = (r, .vec 2 L.length (cat ec L)) := by
  induction rs generalizing Ls with
  | nil => simp [rowsT] at h
  | cons r rs ih =>
    cases Ls with
    | nil => simp [rowsT] at h
    | cons L Ls =>
      simp only [rowsT, List.mem_cons] at h
      rcases h with rfl | h
      · exact ⟨0, r, L, rfl, rfl, rfl⟩
      · obtain ⟨i, r', L', h1, h2, h3⟩ := ih h
        exact ⟨i + 1, r', L', by simpa using h1, by simpa using h2, h3⟩
/-- A chain: where it stands is part of it. -/
structure Cn where
  c : Ch
  vn : AV
  vo : AV
  rn : List AV
  ro : List AV
def Cn.th (x : Cn) (b : Nat) : List Th :=
  (.ptr b 0, .blk [x.vn, x.vo, .int .i64 (x.c.moved : Nat), .int .i64 (x.c.len : Nat)]) :: (x.vn, .vec 1 x.rn.length x.rn) :: (x.vo, .vec 1 x.ro.length x.ro) :: (rowsT x.rn x.c.now ++ rowsT x.ro x.c.old)
structure CnO (h : Heap) (b : Nat) (x : Cn) : Prop where
  o : ChO h b x.c x.vn x.vo x.rn x.ro
theorem cn_map {x : Cn} {b : Nat} (h1 : x.rn.length = x.c.now.length) (h2 : x.ro.length = x.c.old.length) : (x.th b).map (·.1) = .ptr b 0 :: x.vn :: x.vo :: (x.rn ++ x.ro) := by
  unfold Cn.th
  rw [List.map_cons, List.map_cons, List.map_cons, List.map_append, rowsT_map h1, rowsT_map h2]
section
variable {h h' : Heap} {b : Nat} {x x' : Cn}
theorem cn_inn (h1 : x.rn.length = x.c.now.length) (h2 : x.ro.length = x.c.old.length) {d : Nat} : Inn (x.th b) d ↔ d ∈ fpC b x.vn x.vo x.rn x.ro := by
  unfold Inn fpC
  rw [cn_map h1 h2]
theorem cn_hold (O : ChO h b x.c x.vn x.vo x.rn x.ro) : Hold h (x.th b) := by
  refine ⟨fun y hy => ?_, by rw [cn_map O.now.len O.old.len]; exact O.apart⟩
  unfold Cn.th at hy
  simp only [List.mem_cons, List.mem_append] at hy
  rcases hy with rfl | rfl | rfl | hy | hy
  · exact ⟨b, rfl, O.lt, O.str⟩
  · exact O.now.own
  · exact O.old.own
  · obtain ⟨i, r, L, h1, h2, rfl⟩ := rowsT_mem hy
    exact O.now.each i r L h1 h2
  · obtain ⟨i, r, L, h1, h2, rfl⟩ := rowsT_mem hy
    exact O.old.each i r L h1 h2
/-- The lengths are told by the invariant, since a row tells them not. -/
def Cn.fit (x : Cn) : Prop := x.rn.length = x.c.now.length ∧ x.ro.length = x.c.old.length
theorem hold_cn (f : x.fit) (O : Hold h (x.th b)) : ChO h b x.c x.vn x.vo x.rn x.ro := by
  obtain ⟨b', e, h1, h2⟩ := O.get (i := 0) (v := .ptr b 0) (o := .blk [x.vn, x.vo, .int .i64 (x.c.moved : Nat), .int .i64 (x.c.len : Nat)]) rfl
  cases e
  refine ⟨h2, h1, ⟨O.get (i := 1) (v := x.vn) (o := .vec 1 x.rn.length x.rn) rfl, f.1, fun i r L hr hL => ?_⟩, ⟨O.get (i := 2) (v := x.vo) (o := .vec 1 x.ro.length x.ro) rfl, f.2, fun i r L hr hL => ?_⟩, by have := O.apart; rw [cn_map f.1 f.2] at this; exact this⟩
  · exact O.each (r, .vec 2 L.length (cat ec L)) (by
      unfold Cn.th
      simp only [List.mem_cons, List.mem_append]
      exact .inr (.inr (.inr (.inl (List.mem_of_getElem? (rowsT_get hr hL))))))
  · exact O.each (r, .vec 2 L.length (cat ec L)) (by
      unfold Cn.th
      simp only [List.mem_cons, List.mem_append]
      exact .inr (.inr (.inr (.inr (List.mem_of_getElem? (rowsT_get hr hL))))))
theorem cn_stp (f : x.fit) (O : ChO h' b x'.c x'.vn x'.vo x'.rn x'.ro) (g : ∀ d, d ∈ fpC b x'.vn x'.vo x'.rn x'.ro → d ∈ fpC b x.vn x.vo x.rn x.ro ∨ h.next ≤ d) (K : Keep h.next (fun d => d ∈ fpC b x.vn x.vo x.rn x.ro) h h') : Stp h (x.th b) h' (x'.th b) ∧ x'.fit :=
  ⟨⟨cn_hold O, fun d hd => by
    rw [cn_inn O.now.len O.old.len] at hd
    rw [cn_inn f.1 f.2]
    exact g d hd, K.weak (Nat.le_refl _) fun d _ hd => (cn_inn f.1 f.2).2 hd⟩, O.now.len, O.old.len⟩
end
theorem drop_lenC (c : Ch) (key : ByteArray) : (c.drop key).2.len = if (c.drop key).1 = true then c.len - 1 else c.len := by
  unfold Ch.drop Ch.drop1
  rw [← step_len c]
  generalize c.step = c
  split
  · simp
  · simp
/-- A chain that is a table: keys of at most 1000 bytes. -/
structure CnI (N : Nat) (x : Cn) : Prop where
  fit : x.fit
  i : ChI N x.c
  m : ChM x.c
section
variable {N : Nat} {h : Heap} {b : Nat} {x : Cn}
theorem CnI.tight (I : CnI N x) : CnI x.c.len x := ⟨I.fit, ⟨I.i.n0, I.i.n1, I.i.o1, I.i.m0, I.i.mv, I.i.emp, I.i.tot, Nat.le_refl _, I.i.keys⟩, I.m⟩
theorem t_new (k : Nat) (h : Heap) : ∃ (b : Nat) (x : Cn) (h' : Heap), acall Try.prog (k + 1) 28 [] h = some (.ptr b 0, h') ∧ Stp h [] h' (x.th b) ∧ CnI 0 x ∧ (∀ key, x.c.get key = none) ∧ x.c.len = 0 ∧ Keep h.next nob h h' ∧ ∀ d, Inn (x.th b) d → h.next ≤ d := by
  obtain ⟨_, h', E, b, vn, vo, rn, ro, rfl, O, f, K⟩ := cnew_ok k h
  have fit : (Cn.mk .new vn vo rn ro).fit := ⟨O.now.len, O.old.len⟩
  refine ⟨b, ⟨.new, vn, vo, rn, ro⟩, h', E, ⟨cn_hold (x := ⟨.new, vn, vo, rn, ro⟩) O, fun d hd => .inr (f d ((cn_inn (x := ⟨.new, vn, vo, rn, ro⟩) fit.1 fit.2).1 hd)), K.weak (Nat.le_refl _) fun _ _ q => q.elim⟩, ⟨fit, ChI.new 0, ChM.new⟩, fun key => new_get key, rfl, K, fun d hd => f d ((cn_inn (x := ⟨.new, vn, vo, rn, ro⟩) fit.1 fit.2).1 hd)⟩
theorem t_get (I : CnI N x) (hN : N ≤ 99999) (k : Nat) (hk : 200000 < k) (O : Hold h (x.th b)) (key : ByteArray) (hm : key.size ≤ 1000) :
    ∃ h', acall Try.prog (k + 3) 35 [.ptr b 0, .str key] h = some (.tup [.int .i64 ((x.c.get key).getD 0), .bool (x.c.get key).isSome], h') ∧ Keep h.next nob h h' := by
  obtain ⟨_, h', E, rfl, K⟩ := get_ok k hk h b x.c x.vn x.vo x.rn x.ro (hold_cn I.fit O) (I.i.ok (by omega)) key hm
  exact ⟨h', E, K⟩
theorem t_len (I : CnI N x) (k : Nat) (O : Hold h (x.th b)) : acall Try.prog (k + 1) 38 [.ptr b 0] h = some (.int .i64 (x.c.len : Nat), h) := len_ok k h b x.c x.vn x.vo x.rn x.ro (hold_cn I.fit O)
theorem t_put (I : CnI N x) (hN : N ≤ 99999) (k : Nat) (hk : 200000 < k) (O : Hold h (x.th b)) (key : ByteArray) (hm : key.size ≤ 1000) (n : Int) :
    ∃ (x' : Cn) (h' : Heap), acall Try.prog (k + 3) 34 [.ptr b 0, .str key, .int .i64 n] h = some (.bool (x.c.get key).isNone, h') ∧ Stp h (x.th b) h' (x'.th b) ∧ CnI (N + 1) x' ∧ (∀ j, x'.c.get j = if j = key then some n else x.c.get j) ∧ x'.c.len = (if (x.c.get key).isNone = true then x.c.len + 1 else x.c.len) := by
  obtain ⟨p1, p2, p3⟩ := put_map I.i I.m hm n
  obtain ⟨_, h', E, rfl, ⟨vn', vo', rn', ro', O', f⟩, K⟩ := put_ok k hk h b x.c x.vn x.vo x.rn x.ro (hold_cn I.fit O) (I.i.ok (by omega)) (I.i.step.ok (by omega)) key hm n
  obtain ⟨S, fit⟩ := cn_stp (x := x) (x' := ⟨(x.c.put key n).2, vn', vo', rn', ro'⟩) I.fit O' f K
  refine ⟨⟨(x.c.put key n).2, vn', vo', rn', ro'⟩, h', ?_, S, ⟨fit, I.i.put hm n, p2⟩, fun j => p3 j, ?_⟩
  · rw [E, p1]
  · have := put_len x.c key n
    rw [p1] at this
    exact this
theorem t_drop (I : CnI N x) (hN : N ≤ 99999) (k : Nat) (hk : 200000 < k) (O : Hold h (x.th b)) (key : ByteArray) (hm : key.size ≤ 1000) :
    ∃ (x' : Cn) (h' : Heap), acall Try.prog (k + 3) 47 [.ptr b 0, .str key] h = some (.bool (x.c.get key).isSome, h') ∧ Stp h (x.th b) h' (x'.th b) ∧ CnI N x' ∧ (∀ j, x'.c.get j = if j = key then none else x.c.get j) ∧ x'.c.len = (if (x.c.get key).isSome = true then x.c.len - 1 else x.c.len) := by
  obtain ⟨p1, p2, p3⟩ := drop_map I.i I.m key
  obtain ⟨_, h', E, rfl, ⟨vn', vo', rn', ro', O', f⟩, K⟩ := drop_ok k hk h b x.c x.vn x.vo x.rn x.ro (hold_cn I.fit O) (I.i.ok (by omega)) (I.i.step.ok (by omega)) key hm (fun i hi => (found_pos I.i.step hi).2)
  obtain ⟨S, fit⟩ := cn_stp (x := x) (x' := ⟨(x.c.drop key).2, vn', vo', rn', ro'⟩) I.fit O' f K
  refine ⟨⟨(x.c.drop key).2, vn', vo', rn', ro'⟩, h', ?_, S, ⟨fit, I.i.drop key, p2⟩, fun j => p3 j, ?_⟩
  · rw [E, p1]
  · have := drop_lenC x.c key
    rw [p1] at this
    exact this
end
end Go.Proofs.Ytelnkdgpghndgaa
/- slab as plain steps: what is read behind Alloc and Free; the document's slab does the same. -/
namespace Go.Proofs.Ytelnkdgpghndgaa
open Go Go.YtelnkdgpghndgaaAbs
set_option linter.unusedSimpArgs false
set_option linter.unusedVariables false
set_option maxRecDepth 4000

/-- A live chunk's text. -/
def rdS (s : Sb) (a b : Nat) : Option ByteArray := (s.cls[a]?).bind fun c => dataOf b c.live
theorem rdS_read (s : Sb) (a b : Nat) : (readS s (a : Nat) (b : Nat)).map (·.2.1) = rdS s a b := by
  unfold readS rdS
  rw [if_neg (by omega), Int.toNat_natCast]
  cases s.cls[a]? with
  | none => rfl
  | some c =>
    simp only [Option.bind_some]
    unfold lkI dataOf
    rw [if_pos (by omega), Int.toNat_natCast]
/-- What an Alloc may do. -/
inductive AllocP (s : Sb) (d : ByteArray) : Nat → Nat → Nat → Sb → Prop
  | ok {ci K cnt left used : Nat} {c c2 : Cl} {F : List Nat} (hc : clsE (d.size : Nat) s.cls = some ci) (hi : s.cls[ci]? = some c) (hroom : c.free ≠ [] ∨ s.left ≠ 0)
      (e1 : F = (if c.free = [] then fl (s.page / c.size) c.count (s.page / c.size) else c.free)) (e2 : cnt = (if c.free = [] then c.count + s.page / c.size else c.count)) (e3 : left = (if c.free = [] then s.left - 1 else s.left)) (e4 : used = (if c.free = [] then s.used + 1 else s.used))
      (hK : F[F.length - 1]? = some K) (y1 : c2.size = c.size) (y2 : c2.free = F.take (F.length - 1)) (y3 : c2.count = cnt) (y4 : (c2.live, c2.cl) = lput K d c.live c.cl) : AllocP s d ci K 0 ⟨s.page, left, used, s.cls.set ci c2⟩
  | long (hc : clsE (d.size : Nat) s.cls = none) : AllocP s d 0 0 2 s
  | full {ci : Nat} {c : Cl} (hc : clsE (d.size : Nat) s.cls = some ci) (hi : s.cls[ci]? = some c) (hf : c.free = []) (h0 : s.left = 0) : AllocP s d 0 0 6 s
/-- What a Free of a live chunk does. -/
inductive FreeP (s : Sb) (ci K : Nat) : Sb → Prop
  | mk {c c2 : Cl} {y : Nat × ByteArray × Nat} (hi : s.cls[ci]? = some c) (hy : lk K c.live = some y) (y1 : c2.size = c.size) (y2 : c2.free = c.free ++ [K]) (y3 : c2.count = c.count) (y4 : c2.live = c.live.eraseIdx y.1) (y5 : c2.cl = c.cl) : FreeP s ci K { s with cls := s.cls.set ci c2 }
/-- A slab of P pages of Q bytes. -/
def SlI (P Q : Nat) (s : Sb) : Prop := 1 ≤ P ∧ P ≤ 64 ∧ 64 ≤ Q ∧ Q ≤ 65536 ∧ ∃ pgs, SbI P Q s pgs
section
variable {P Q : Nat} {s s' : Sb} {d : ByteArray} {ci K er : Nat}
theorem SlI.lens (I : SlI P Q s) : s.cls.length ≤ 20 := by
  obtain ⟨_, _, _, _, pgs, I⟩ := I
  have := I.l2
  omega
theorem AllocP.alloc (I : SlI P Q s) (A : AllocP s d ci K er s') : SlI P Q s' := by
  obtain ⟨p1, p2, q1, q2, pgs, I⟩ := I
  cases A with
  | ok hc hi hroom e1 e2 e3 e4 hK y1 y2 y3 y4 =>
    obtain ⟨_, _, _, pgs', I'⟩ := I.alloc hi hroom e1 e2 e3 e4 hK y1 y2 y3 y4
    exact ⟨p1, p2, q1, q2, pgs', I'⟩
  | long hc => exact ⟨p1, p2, q1, q2, pgs, I⟩
  | full hc hi hf h0 => exact ⟨p1, p2, q1, q2, pgs, I⟩
theorem AllocP.sizes (A : AllocP s d ci K er s') : s'.cls.map (·.size) = s.cls.map (·.size) := by
  cases A with
  | ok hc hi hroom e1 e2 e3 e4 hK y1 y2 y3 y4 =>
    simp only [List.map_set]
    rw [y1, set_same' (by rw [List.getElem?_map, hi]; rfl)]
  | long hc => rfl
  | full hc hi hf h0 => rfl
theorem FreeP.sizes (A : FreeP s ci K s') : s'.cls.map (·.size) = s.cls.map (·.size) := by
  cases A with
  | mk hi hy y1 y2 y3 y4 y5 =>
    simp only [List.map_set]
    rw [y1, set_same' (by rw [List.getElem?_map, hi]; rfl)]
theorem FreeP.inv (I : SlI P Q s) (A : FreeP s ci K s') : SlI P Q s' := by
  obtain ⟨p1, p2, q1, q2, pgs, I⟩ := I
  cases A with
  | mk hi hy y1 y2 y3 y4 y5 =>
    obtain ⟨pgs', I'⟩ := I.free hi hy y1 y2 y3 y4
    exact ⟨p1, p2, q1, q2, pgs', I'⟩
/-- What is read behind an Alloc that has room. -/
theorem AllocP.read (I : SlI P Q s) (A : AllocP s d ci K 0 s') : rdS s ci K = none ∧ clsE (d.size : Nat) s.cls = some ci ∧ (∀ a b, rdS s' a b = if a = ci ∧ b = K then some d else rdS s a b) ∧ liveN s'.cls = liveN s.cls + 1 := by
  obtain ⟨p1, p2, q1, q2, pgs, I⟩ := I
  cases A with
  | @ok _ _ cnt left used c c2 F hc hi hroom e1 e2 e3 e4 hK y1 y2 y3 y4 =>
    obtain ⟨fr, hl, hcl, _⟩ := I.alloc hi hroom e1 e2 e3 e4 hK y1 y2 y3 y4
    have hil := (List.getElem?_eq_some_iff.1 hi).1
    refine ⟨?_, hc, fun a b => ?_, ?_⟩
    · unfold rdS
      rw [hi]
      show dataOf K c.live = none
      unfold dataOf
      rw [lk_none fr]; rfl
    · unfold rdS
      by_cases ha : a = ci
      · subst ha
        rw [List.getElem?_set_self hil, hi]
        show dataOf b c2.live = _
        rw [hl]
        by_cases hb : b = K
        · subst hb
          rw [if_pos ⟨rfl, rfl⟩]
          exact lk_last fr
        · rw [if_neg (fun q => hb q.2)]
          exact dataOf_last hb
      · rw [if_neg (fun q => ha q.1), List.getElem?_set_ne (Ne.symm ha)]
    · have := liveN_set (c2 := c2) hi
      rw [hl, List.length_append, List.length_singleton] at this
      show liveN (s.cls.set ci c2) = _
      omega
theorem FreeP.read (I : SlI P Q s) (A : FreeP s ci K s') : (∀ a b, rdS s' a b = if a = ci ∧ b = K then none else rdS s a b) ∧ liveN s'.cls + 1 = liveN s.cls := by
  obtain ⟨p1, p2, q1, q2, pgs, I⟩ := I
  cases A with
  | @mk c c2 y hi hy y1 y2 y3 y4 y5 =>
    obtain ⟨pg, hpg, J, _⟩ := I.pg hi
    obtain ⟨st, hst⟩ := lk_some hy
    have hyl := (List.getElem?_eq_some_iff.1 hst).1
    have hil := (List.getElem?_eq_some_iff.1 hi).1
    refine ⟨fun a b => ?_, ?_⟩
    · unfold rdS
      by_cases ha : a = ci
      · subst ha
        rw [List.getElem?_set_self hil, hi]
        show dataOf b c2.live = _
        rw [y4]
        by_cases hb : b = K
        · subst hb
          rw [if_pos ⟨rfl, rfl⟩]
          unfold dataOf
          rw [erase_none (List.nodup_append.1 J.nd).2.1 hst]; rfl
        · rw [if_neg (fun q => hb q.2)]
          exact dataOf_erase hb hst
      · rw [if_neg (fun q => ha q.1), List.getElem?_set_ne (Ne.symm ha)]
    · have := liveN_set (c2 := c2) hi
      rw [y4, List.length_eraseIdx, if_pos hyl] at this
      show liveN (s.cls.set ci c2) + 1 = _
      omega
end
section
variable {P Q : Nat} {s s' : Sb} {d : ByteArray} {ci K er b : Nat} {vc : AV} {h : Heap}
/-- The program's slab. -/
theorem s_class (I : SlI P Q s) (k : Nat) (hk : 30 < k) (O : Hold h (s.th b vc)) (n : Nat) :
    ∃ h', acall Try.prog (k + 1) 29 [.ptr b 0, .int .i64 (n : Nat)] h = some (.int .i64 (clsZ (n : Nat) s.cls), h') ∧ Keep h.next nob h h' := by
  obtain ⟨_, h', E, rfl, K⟩ := class_ok k hk h b s vc (slo_hold.2 O) I.lens (n : Nat)
  rw [if_neg (by omega)] at E
  exact ⟨h', E, K⟩
theorem s_alloc (I : SlI P Q s) (k : Nat) (hk : 70000 < k) (d : ByteArray) (hd : d.size ≤ 1000000) (O : Hold h (s.th b vc)) :
    ∃ (ci K er : Nat) (s' : Sb) (h' : Heap), acall Try.prog (k + 2) 30 [.ptr b 0, .str d] h = some (.tup [.agg [.int .i64 (ci : Nat), .int .i64 (K : Nat)], .int .i64 (er : Nat)], h') ∧ AllocP s d ci K er s' ∧ Stp h (s.th b vc) h' (s'.th b vc) := by
  have hl := I.lens
  obtain ⟨p1, p2, q1, q2, pgs, I⟩ := I
  have O := slo_hold.2 O
  have htot := I.tot
  have hpage := I.page
  have hmx : d.size ≤ maxLen := by have : maxLen = 9223372036854775807 := rfl; omega
  cases hc : clsE (d.size : Nat) s.cls with
  | none =>
    obtain ⟨_, h5, E5, rfl, k5⟩ := alloc_long k hk h b s vc O hl d hc
    exact ⟨0, 0, 2, s, h5, E5, .long hc, ⟨slo_hold.1 (O.ext k5), Fresh.refl _ _, k5.in⟩⟩
  | some ci =>
    obtain ⟨⟨c, hci, hle⟩, _⟩ := clsE_some' hc
    obtain ⟨z1, z2, z3⟩ := I.small p2 q2 hci
    have hsz := I.size hci
    by_cases hroom : c.free ≠ [] ∨ s.left ≠ 0
    · obtain ⟨_, h5, E5, c2, F, cnt, left, used, K, e1, e2, e3, e4, hK, rfl, y1, y2, y3, y4, O5, f5, k5⟩ := alloc_ok k hk h b s vc O hl d hmx hc hci (by omega) (by omega) (by omega) (by omega) (by omega) hroom
      exact ⟨ci, K, 0, _, h5, E5, .ok hc hci hroom e1 e2 e3 e4 hK y1 y2 y3 y4, slo_stp O5 f5 k5⟩
    · have hf : c.free = [] := Classical.byContradiction fun z => hroom (.inl z)
      have h0 : s.left = 0 := Classical.byContradiction fun z => hroom (.inr z)
      obtain ⟨_, h5, E5, rfl, k5⟩ := alloc_full k h b s vc hk O hl d hmx hc hci hf h0
      exact ⟨0, 0, 6, s, h5, E5, .full hc hci hf h0, ⟨slo_hold.1 (O.ext k5), Fresh.refl _ _, k5.in⟩⟩
theorem s_free (I : SlI P Q s) (k : Nat) (hk : 70000 < k) (hr : (rdS s ci K).isSome) (O : Hold h (s.th b vc)) :
    ∃ (s' : Sb) (h' : Heap), acall Try.prog (k + 2) 46 [.ptr b 0, .agg [.int .i64 (ci : Nat), .int .i64 (K : Nat)]] h = some (.bool true, h') ∧ FreeP s ci K s' ∧ Stp h (s.th b vc) h' (s'.th b vc) := by
  have hl := I.lens
  obtain ⟨p1, p2, q1, q2, pgs, I⟩ := I
  have O := slo_hold.2 O
  unfold rdS at hr
  cases hc : s.cls[ci]? with
  | none => rw [hc] at hr; cases hr
  | some c =>
    rw [hc] at hr
    simp only [Option.bind_some] at hr
    cases hy : lk K c.live with
    | none => unfold dataOf at hr; rw [hy] at hr; cases hr
    | some y =>
      obtain ⟨z1, z2, z3⟩ := I.small p2 q2 hc
      obtain ⟨_, h5, E5, rfl, c2, y1, y2, y3, y4, y5, O5, f5, k5⟩ := free_ok k hk h b s vc O hl hc hy (by omega)
      exact ⟨_, h5, E5, .mk hc hy y1 y2 y3 y4 y5, slo_stp O5 f5 k5⟩
theorem s_read (I : SlI P Q s) (k : Nat) (hk : 70000 < k) (ci K : Nat) (O : Hold h (s.th b vc)) :
    ∃ h', acall Try.prog (k + 1) 37 [.ptr b 0, .agg [.int .i64 (ci : Nat), .int .i64 (K : Nat)]] h = some (.tup [.str ((rdS s ci K).getD .empty), .bool (rdS s ci K).isSome], h') ∧ Keep h.next nob h h' := by
  obtain ⟨_, h', E, rfl, k'⟩ := read_ok k h b s vc hk (slo_hold.2 O) I.lens (ci : Nat) (K : Nat)
  rw [rdS_read] at E
  have e : (readS s (ci : Nat) (K : Nat)).isSome = (rdS s ci K).isSome := by rw [← rdS_read, Option.isSome_map]
  rw [e] at E
  exact ⟨h', E, k'⟩
theorem s_pages (k : Nat) (O : Hold h (s.th b vc)) : acall Try.prog (k + 1) 45 [.ptr b 0] h = some (.tup [.int .i64 (s.used : Nat), .int .i64 (s.left : Nat)], h) := pages_ok k h b s vc (slo_hold.2 O)
theorem s_new (k : Nat) (hk : 30 < k) (h : Heap) (P Q : Nat) (hP : 1 ≤ P) (hP2 : P ≤ 64) (hQ : 64 ≤ Q) (hQ2 : Q ≤ 65536) :
    ∃ (b : Nat) (s : Sb) (vc : AV) (h' : Heap), acall Try.prog (k + 1) 27 [.int .i64 (P : Nat), .int .i64 (Q : Nat)] h = some (.tup [.ptr b 0, .int .i64 0], h') ∧ Wd h h' (s.th b vc) ∧ SlI P Q s ∧ (∀ a c, rdS s a c = none) ∧ liveN s.cls = 0 ∧ s.left = P ∧ s.used = 0 ∧ (∃ cls, s = ⟨Q, P, 0, cls⟩ ∧ FreshC cls ∧ 1 ≤ cls.length ∧ 64 * 2 ^ (cls.length - 1) ≤ Q ∧ Q < 64 * 2 ^ cls.length) := by
  obtain ⟨_, h', E, b, cls, vc, rfl, O, F, l1, l2, l3, l4, f, K⟩ := new_ok k hk h P Q hP hP2 hQ hQ2
  have e0 : ∀ c, c ∈ cls → c.live = [] := fun c hc => by
    obtain ⟨j, hj⟩ := List.getElem?_of_mem hc
    exact (F j c hj).2.2.1
  refine ⟨b, _, vc, h', E, ⟨slo_hold.1 O, K, fun d hd => f d (sb_inn.1 hd)⟩, ⟨hP, hP2, hQ, hQ2, _, SbI.new F l1 l2 l3⟩, fun a c => ?_, ?_, rfl, rfl, cls, rfl, F, l1, l3, l4⟩
  · unfold rdS
    cases hc : cls[a]? with
    | none => simp [hc]
    | some x =>
      simp only [hc, Option.bind_some]
      rw [e0 x (List.mem_of_getElem? hc)]
      rfl
  · show ((cls.map fun c => c.live.length).sum) = 0
    have : cls.map (fun c => c.live.length) = List.replicate cls.length 0 := by
      rw [List.eq_replicate_iff]
      refine ⟨by simp, fun n hn => ?_⟩
      obtain ⟨c, hc, rfl⟩ := List.mem_map.1 hn
      rw [e0 c hc]; rfl
    rw [this]
    simp
/-- The document's slab does the same. -/
theorem r_alloc (I : SlI P Q s) (A : AllocP s d ci K er s') {r : Rb} (R : RelS s r) (k : Nat) (hk : 70000 < k) (h2 : Heap) (rb : Nat) (rv : AV) (O2 : RO h2 rb r rv) :
    ∃ h3 r', acall Try.prog (k + 2) 43 [.ptr rb 0, .str d] h2 = some (.tup [.agg [.int .i64 (ci : Nat), .int .i64 (K : Nat)], .int .i64 (er : Nat)], h3) ∧ Stp h2 (r.th rb rv) h3 (r'.th rb rv) ∧ RelS s' r' := by
  obtain ⟨p1, p2, q1, q2, pgs, I⟩ := I
  have hlen := I.l2
  have hRlen : r.cls.length ≤ 20 := by rw [R.len]; omega
  have htot := I.tot
  have hpage := I.page
  have RB := R.rbi I p2 q2
  cases A with
  | long hc =>
    obtain ⟨_, h3, E3, rfl, k3⟩ := ralloc_no k hk h2 rb r rv O2 hRlen d 2 (.inl ⟨by rw [R.sizes, ← clsE_S]; exact hc, rfl⟩)
    exact ⟨h3, r, E3, ⟨Hold.ext O2 k3, Fresh.refl _ _, k3.in⟩, R⟩
  | @full ci c hc hi hf h0 =>
    have hcS : clsS (d.size : Nat) (r.cls.map (·.size)) = some ci := by rw [R.sizes, ← clsE_S]; exact hc
    obtain ⟨q, hq, C⟩ := R.at hi
    obtain ⟨_, h3, E3, rfl, k3⟩ := ralloc_no k hk h2 rb r rv O2 hRlen d 6 (.inr ⟨ci, q, hcS, hq, by rw [C.free]; exact hf, by rw [R.left]; exact h0, rfl⟩)
    exact ⟨h3, r, E3, ⟨Hold.ext O2 k3, Fresh.refl _ _, k3.in⟩, R⟩
  | @ok _ _ cnt left used c c2 F hc hci hroom e1 e2 e3 e4 hK y1 y2 y3 y4 =>
    have hcS : clsS (d.size : Nat) (r.cls.map (·.size)) = some ci := by rw [R.sizes, ← clsE_S]; exact hc
    obtain ⟨q, hq, C⟩ := R.at hci
    obtain ⟨z1, z2, z3⟩ := I.small p2 q2 hci
    have hsz := I.size hci
    obtain ⟨fr, hl, hcl, pgs5, I5⟩ := I.alloc hci hroom e1 e2 e3 e4 hK y1 y2 y3 y4
    obtain ⟨pg, hpg, J, _⟩ := I.pg hci
    have hFm := List.mem_of_getElem? hK
    have hKc : K < cnt := by
      rw [e1] at hFm
      rw [e2]
      split at hFm
      · rename_i q0
        rw [if_pos q0]
        exact (fl_mem (Nat.le_refl _) hFm).2
      · rename_i q0
        rw [if_neg q0]
        exact J.lt K (List.mem_append.2 (.inl hFm))
    have hcc : c.count ≤ cnt := by
      rw [e2]; split
      · exact Nat.le_add_right _ _
      · exact Nat.le_refl _
    obtain ⟨_, h3, E3, q2, F', cnt', left', K', g1, g2, g3, gK, rfl, x1, x2, x3, x4, x5, T⟩ := ralloc_ok k hk h2 rb r rv O2 RB hRlen d hcS hq (by rw [R.page]; omega) (by rw [R.left]; omega) (by rw [C.size, R.page]; omega) (fun x hx => by rw [C.free] at hx; rw [C.count]; exact J.lt x (List.mem_append.2 (.inl hx))) (by rw [C.free, R.left]; exact hroom)
    rw [C.free, C.size, C.count, R.page, ← e1] at g1
    rw [C.free, C.size, C.count, R.page, ← e2] at g2
    rw [C.free, R.left, ← e3] at g3
    subst g1 g2 g3
    rw [hK] at gK
    cases gK
    exact ⟨h3, _, E3, T, R.set (RelC.alloc C (fun x hx => J.lt x (List.mem_append.2 (.inr hx))) fr hKc hcc y1 y2 y3 hl x1 x2 x3 x4 x5)⟩
theorem r_free (I : SlI P Q s) (A : FreeP s ci K s') {r : Rb} (R : RelS s r) (k : Nat) (hk : 70000 < k) (h2 : Heap) (rb : Nat) (rv : AV) (O2 : RO h2 rb r rv) :
    ∃ h3 r', acall Try.prog (k + 2) 51 [.ptr rb 0, .agg [.int .i64 (ci : Nat), .int .i64 (K : Nat)]] h2 = some (.bool true, h3) ∧ Stp h2 (r.th rb rv) h3 (r'.th rb rv) ∧ RelS s' r' := by
  obtain ⟨p1, p2, q1, q2, pgs, I⟩ := I
  have RB := R.rbi I p2 q2
  cases A with
  | @mk c c2 y hi hy y1 y2 y3 y4 y5 =>
    obtain ⟨q, hq, C⟩ := R.at hi
    obtain ⟨pg, hpg, J, _⟩ := I.pg hi
    obtain ⟨st, hst⟩ := lk_some hy
    have hKm : K ∈ c.live.map (·.1) := List.mem_map.2 ⟨_, List.mem_of_getElem? hst, rfl⟩
    have hB : q.live[K]? = some true := by
      rw [C.live K (J.lt K (List.mem_append.2 (.inr hKm)))]
      unfold dataOf
      rw [hy]; rfl
    obtain ⟨_, h3, E3, rfl, q2, x1, x2, x3, x4, x5, T⟩ := rfree_ok k h2 rb r rv O2 RB ci K q hq hB
    refine ⟨h3, _, E3, T, ?_⟩
    have hC := RelC.freed C hy (List.nodup_append.1 J.nd).2.1 y1 y2 y3 y4 x1 x3 x2 x4 x5
    have := R.set (i := ci) hC (left := s.left) (used := s.used)
    rw [show r.left = s.left from R.left] at *
    exact this
theorem r_read (I : SlI P Q s) {r : Rb} (R : RelS s r) (k : Nat) (hk : 70000 < k) (ci K : Nat) (h2 : Heap) (rb : Nat) (rv : AV) (O2 : RO h2 rb r rv) :
    ∃ h', acall Try.prog (k + 2) 22 [.ptr rb 0, .agg [.int .i64 (ci : Nat), .int .i64 (K : Nat)]] h2 = some (.tup [.str ((rdS s ci K).getD .empty), .bool (rdS s ci K).isSome], h') ∧ Keep h2.next nob h2 h' := by
  obtain ⟨p1, p2, q1, q2, pgs, I⟩ := I
  have RB := R.rbi I p2 q2
  obtain ⟨t1, t2⟩ := R.there I (ci : Nat) (K : Nat)
  obtain ⟨_, h', E, rfl, k'⟩ := rread_ok k h2 rb r rv O2 (fun j c hc => ⟨(RB j c hc).ll, (RB j c hc).dl⟩) (ci : Nat) (K : Nat)
  rw [t2, Option.isSome_map, rdS_read] at E
  have e : (readS s (ci : Nat) (K : Nat)).isSome = (rdS s ci K).isSome := by rw [← rdS_read, Option.isSome_map]
  rw [e] at E
  exact ⟨h', E, k'⟩
theorem r_class {r : Rb} (R : RelS s r) (I : SlI P Q s) (k : Nat) (hk : 30 < k) (n : Nat) (h2 : Heap) (rb : Nat) (rv : AV) (O2 : RO h2 rb r rv) :
    acall Try.prog (k + 1) 42 [.ptr rb 0, .int .i64 (n : Nat)] h2 = some (.int .i64 (clsZ (n : Nat) s.cls), h2) := by
  obtain ⟨_, h', E, rfl, rfl⟩ := rclass_ok k hk h2 rb r rv O2 (by rw [R.len]; exact I.lens) n
  rw [E, R.sizes, ← clsE_S]
  rfl
end
end Go.Proofs.Ytelnkdgpghndgaa
/- item: a store's own things in memory; a node goes out of the row, or in. -/
namespace Go.Proofs.Ytelnkdgpghndgaa
open Go Go.YtelnkdgpghndgaaAbs
set_option linter.unusedSimpArgs false
set_option linter.unusedVariables false
set_option maxRecDepth 4000

def Nd.c (n : Nd) : List AV := [.str n.key, .int .i64 (n.ci : Nat), .int .i64 (n.ch : Nat), .bool n.pin, .int .i64 (n.nx : Nat), .int .i64 (n.pv : Nat)]
theorem Nd.c_len (n : Nd) : n.c.length = 6 := rfl
def st3 (b sb cb : Nat) (nv fv : AV) (N : List Nd) (F : List Nat) : List Th :=
  [(.ptr b 0, .blk [.ptr sb 0, .ptr cb 0, nv, fv]), (nv, .vec 6 N.length (cat Nd.c N)), (fv, .vec 1 F.length (F.map nn))]
theorem modify_at {α : Type} {l : List α} {i : Nat} {x : α} (f : α → α) (h : l[i]? = some x) : l.modify i f = l.set i (f x) := by
  refine List.ext_getElem? fun j => ?_
  rw [List.getElem?_modify, List.getElem?_set]
  have hi := (List.getElem?_eq_some_iff.1 h).1
  by_cases q : i = j
  · subst q
    obtain ⟨_, e⟩ := List.getElem?_eq_some_iff.1 h
    simp [hi, e]
  · simp only [if_neg q]
    cases l[j]? <;> simp [q]
theorem nd_get {N : List Nd} {i : Nat} {n : Nd} (h : N[i]? = some n) : nxN N i = n.nx ∧ pvN N i = n.pv ∧ datN N i = some (n.key, n.ci, n.ch, n.pin) := by
  unfold nxN pvN datN
  rw [h]
  exact ⟨rfl, rfl, rfl⟩
section
variable {h h1 : Heap} {nv : AV} {N : List Nd}
theorem nd_idx (M : Mine 6 N.length h nv (cat Nd.c N)) {i : Nat} (hi : i < N.length) : aindex Try.prog 72 nv (.int .i64 (i : Nat)) = some (.ptr nv.blk (nv.off + i * 6)) := M.sl.idx (P := Try.prog) Try.underlying72 ts79 hi .i64
theorem nd_ld (M : Mine 6 N.length h nv (cat Nd.c N)) {i : Nat} {n : Nd} (hi : N[i]? = some n) {o : Nat} (ho : o < 6) {x : AV} (hx : n.c[o]? = some x) {ty : TypeId} (ht : tagg Try.prog ty = some false) : aload Try.prog h ty nv.blk (nv.off + i * 6 + o) = some x := by
  rw [Nat.add_assoc]
  exact M.sl.ld ht (by rw [cat_get Nd.c_len hi ho]; exact hx)
theorem nd_lay (M : Mine 6 N.length h nv (cat Nd.c N)) {i : Nat} {n n' : Nd} (hi : N[i]? = some n) {o : Nat} (ho : o < 6) {a : AV} (e : n.c.set o a = n'.c) (hone : a.one = true) :
    ∃ h', alay h nv.blk (nv.off + i * 6 + o) [a] = some h' ∧ Mine 6 (N.set i n').length h' nv (cat Nd.c (N.set i n')) ∧ Keep h.next (Has nv) h h' ∧ h'.next = h.next := by
  have hil := (List.getElem?_eq_some_iff.1 hi).1
  have hl := M.length
  obtain ⟨h', a1, a2, a3, a4⟩ := M.lay (j := i * 6 + o) (vs := [a]) (by simp only [List.length_singleton]; omega) (by omega) (by simp [hone])
  rw [List.length_singleton, cat_set1 Nd.c_len hi ho e] at a2
  rw [← Nat.add_assoc] at a1
  exact ⟨h', a1, by rw [List.length_set]; exact a2, a3, a4⟩
theorem nd_layN (M : Mine 6 N.length h nv (cat Nd.c N)) {i : Nat} (hi : i < N.length) (n' : Nd) :
    ∃ h', alay h nv.blk (nv.off + i * 6) n'.c = some h' ∧ Mine 6 (N.set i n').length h' nv (cat Nd.c (N.set i n')) ∧ Keep h.next (Has nv) h h' ∧ h'.next = h.next := by
  have hl := M.length
  obtain ⟨h', a1, a2, a3, a4⟩ := M.lay (j := i * 6) (vs := n'.c) (by rw [Nd.c_len]; omega) (by omega) rfl
  rw [cat_set Nd.c_len hi n'] at a2
  exact ⟨h', a1, by rw [List.length_set]; exact a2, a3, a4⟩
theorem nd_agg (M : Mine 6 N.length h nv (cat Nd.c N)) {i : Nat} {n : Nd} (hi : N[i]? = some n) {ty : TypeId} (ht : tagg Try.prog ty = some true) (hs : tsize Try.prog ty = some 6) : aload Try.prog h ty nv.blk (nv.off + i * 6) = some (.agg n.c) := by
  have hil := (List.getElem?_eq_some_iff.1 hi).1
  have hl := M.length
  have := M.sl.lds (P := Try.prog) (e := ty) ht hs (j := i * 6) (by omega) (by omega)
  rw [cat_at Nd.c_len hi] at this
  exact this
end
section
variable {h h1 : Heap} {b sb cb : Nat} {nv fv : AV} {N N' : List Nd} {F F' : List Nat}
theorem st3_blk (O : Hold h (st3 b sb cb nv fv N F)) : h.get b = some (.cells [.ptr sb 0, .ptr cb 0, nv, fv] false) ∧ b < h.next := by
  obtain ⟨b', e, h1, h2⟩ := O.get (i := 0) (v := .ptr b 0) (o := .blk [.ptr sb 0, .ptr cb 0, nv, fv]) rfl
  cases e
  exact ⟨h2, h1⟩
theorem st3_nv (O : Hold h (st3 b sb cb nv fv N F)) : Mine 6 N.length h nv (cat Nd.c N) := O.get (i := 1) (v := nv) rfl
theorem st3_fv (O : Hold h (st3 b sb cb nv fv N F)) : Mine 1 F.length h fv (F.map nn) := O.get (i := 2) (v := fv) rfl
theorem st3_ld (O : Hold h (st3 b sb cb nv fv N F)) : (∀ {ty : TypeId}, tagg Try.prog ty = some false → aload Try.prog h ty b 0 = some (.ptr sb 0)) ∧ (∀ {ty : TypeId}, tagg Try.prog ty = some false → aload Try.prog h ty b 1 = some (.ptr cb 0)) ∧ (∀ {ty : TypeId}, tagg Try.prog ty = some false → aload Try.prog h ty b 2 = some nv) ∧ (∀ {ty : TypeId}, tagg Try.prog ty = some false → aload Try.prog h ty b 3 = some fv) :=
  ⟨fun ht => ldc (st3_blk O).1 ht rfl, fun ht => ldc (st3_blk O).1 ht rfl, fun ht => ldc (st3_blk O).1 ht rfl, fun ht => ldc (st3_blk O).1 ht rfl⟩
/-- The nodes are changed in their place. -/
theorem st3_set (O : Hold h (st3 b sb cb nv fv N F)) (M : Mine 6 N'.length h1 nv (cat Nd.c N')) (K : Keep h.next (Has nv) h h1) : Stp h (st3 b sb cb nv fv N F) h1 (st3 b sb cb nv fv N' F) :=
  (Stp.refl O).upd (i := 1) (v := nv) (o := .vec 6 N.length (cat Nd.c N)) rfl K (v' := nv) (o' := .vec 6 N'.length (cat Nd.c N')) M (From.refl _ _)
end
theorem set_nx {N : List Nd} {j v : Nat} {n : Nd} (h : N[j]? = some n) : setNx N j v = N.set j { n with nx := v } := modify_at _ h
theorem set_pv {N : List Nd} {j v : Nat} {n : Nd} (h : N[j]? = some n) : setPv N j v = N.set j { n with pv := v } := modify_at _ h
theorem flat0 {f : TypeId} {xs : List AV} {h : Heap} {k : Nat} {v : AV} {P : Heap → Prop} (q : ∃ v' h', acall Try.prog k f xs h = some (v', h') ∧ v' = v ∧ P h') : ∃ h', acall Try.prog k f xs h = some (v, h') ∧ P h' := by
  obtain ⟨v', h', E, rfl, p⟩ := q
  exact ⟨h', E, p⟩
set_option maxHeartbeats 1000000 in
theorem out_ok (k : Nat) (h : Heap) (b sb cb : Nat) (nv fv : AV) (N : List Nd) (F : List Nat) (O : Hold h (st3 b sb cb nv fv N F)) (i : Nat) (n : Nd) (hi : N[i]? = some n) (hp : n.pv < N.length) (hx : n.nx < N.length) :
    ∃ h', acall Try.prog (k + 1) 36 [.ptr b 0, .int .i64 (i : Nat)] h = some (.tup [], h') ∧ Stp h (st3 b sb cb nv fv N F) h' (st3 b sb cb nv fv (outN N i) F) := by
  have hil := (List.getElem?_eq_some_iff.1 hi).1
  obtain ⟨g1, g2, _⟩ := nd_get hi
  obtain ⟨_, _, l2, _⟩ := st3_ld O
  have M := st3_nv O
  have ixi := nd_idx M hil
  have ag := nd_agg M hi (ty := 79) ta79 ts79
  have row : (AV.agg n.c).row1 = some n.c := rfl
  have K1 : Keep h.next nob h (h.new (.cells n.c false)) := Keep.new (Nat.le_refl _) _
  have gz : (h.new (.cells n.c false)).get h.next = some (.cells n.c false) := get_new_self _ _
  have lz : h.next < (h.new (.cells n.c false)).next := Nat.lt_succ_self _
  have ly : alay (h.new (.cells [.str .empty, .int .i64 0, .int .i64 0, .bool false, .int .i64 0, .int .i64 0] false)) h.next 0 n.c = some (h.new (.cells n.c false)) := alay_new rfl
  obtain ⟨zb, hzb⟩ : ∃ zb, h.next = zb := ⟨_, rfl⟩
  obtain ⟨h1, e1⟩ : ∃ h1, h.new (.cells n.c false) = h1 := ⟨_, rfl⟩
  have O1 : Hold h1 (st3 b sb cb nv fv N F) := by rw [← e1]; exact O.ext K1
  rw [e1] at K1 gz lz
  rw [e1] at ly
  rw [hzb] at gz lz ly
  obtain ⟨_, _, l21, _⟩ := st3_ld O1
  have M1 := st3_nv O1
  have z4 : aload Try.prog h1 3 zb 4 = some (.int .i64 (n.nx : Nat)) := ldc gz ta3 rfl
  have z5 : aload Try.prog h1 3 zb 5 = some (.int .i64 (n.pv : Nat)) := ldc gz ta3 rfl
  obtain ⟨np, hnp⟩ : ∃ np, N[n.pv]? = some np := ⟨N[n.pv], by simp [hp]⟩
  obtain ⟨h2, a2, M2, K2, n2⟩ := nd_lay M1 hnp (n' := { np with nx := n.nx }) (o := 4) (by omega) (a := .int .i64 (n.nx : Nat)) rfl rfl
  have hx2 : n.nx < (N.set n.pv { np with nx := n.nx }).length := by rw [List.length_set]; exact hx
  obtain ⟨nq, hnq⟩ : ∃ nq, (N.set n.pv { np with nx := n.nx })[n.nx]? = some nq := ⟨_, List.getElem?_eq_getElem hx2⟩
  obtain ⟨h3, a3, M3, K3, n3⟩ := nd_lay M2 hnq (n' := { nq with pv := n.pv }) (o := 5) (by omega) (a := .int .i64 (n.pv : Nat)) rfl rfl
  have e3 : (N.set n.pv { np with nx := n.nx }).set n.nx { nq with pv := n.pv } = outN N i := by
    unfold outN
    rw [g1, g2, set_nx hnp, set_pv hnq]
  rw [e3] at M3
  have S := (st3_set O1 M3 (K2.trans (K3.weak (Nat.le_of_eq n2.symm) fun _ _ q => q)))
  have ixp := nd_idx M1 hp
  have ixx := nd_idx M1 hx
  have ixx2 := nd_idx M2 hx2
  have vb : nv.blk < h1.next := M1.sl.blk_lt (by omega)
  have sv := M1.sl.same
  refine flat0 ?_
  rw [acall_text [1] Try.func36 (by kernel_rfl)]
  refine afuncT_ex rfl (by simp [Try.f36]) ?_
  simp [Try.f36, l2, ixi, ag, row, hzb, Nd.c_len, ly]
  have bl := (st3_blk O1).2
  obtain ⟨G, hG⟩ : ∃ G : Nat → Prop, G = fun c => c = b ∨ c = zb := ⟨_, rfl⟩
  have Gb : G b := by rw [hG]; exact .inl rfl
  have Gz : G zb := by rw [hG]; exact .inr rfl
  have nb : ¬ Has nv b := fun q => O1.ne (i := 1) (j := 0) (v := nv) (o := .vec 6 N.length (cat Nd.c N)) (w := .ptr b 0) (p := .blk [.ptr sb 0, .ptr cb 0, nv, fv]) rfl rfl (by omega) q rfl
  have nz : ¬ Has nv zb := fun q => by have := M.lt q; omega
  have G1 : AgreeG G h1 h2 := by
    intro c hc
    rw [hG] at hc
    rcases hc with rfl | rfl
    · exact K2.2 _ bl nb
    · exact K2.2 _ lz nz
  refine W_lateG [0, 1, 3, 7, 0, 16, 0, 64, 192, 448, 0, 1024, 0, 4096, 0, 16384, 13311, 78847, 209919, 524287, 1048575, 2097151] [] 19 G (by rfl) (by kernel_rfl) (by kernel_rfl) (by kernel_rfl) (by kernel_rfl) (fun c hc => by rw [hG] at hc; rcases hc with rfl | rfl <;> assumption) ?_
  simp [resv, memN, isEff, isAlloc, isStore, mayEff, mayRead, insFl, oblG, sameAV, Nat.testBit_eq_decide_div_mod_eq, Gb, Gz, G1, l21, z4, z5, ixp, ixx, sv, a2, a3]
  exact ⟨rfl, rfl, ((Stp.refl O).ext K1).trans S⟩
theorem in_ok (k : Nat) (h : Heap) (b sb cb : Nat) (nv fv : AV) (N : List Nd) (F : List Nat) (O : Hold h (st3 b sb cb nv fv N F)) (i : Nat) (hi : i < N.length) (h0 : 0 < N.length) (hx : nxN N 0 < N.length) :
    ∃ h', acall Try.prog (k + 1) 33 [.ptr b 0, .int .i64 (i : Nat)] h = some (.tup [], h') ∧ Stp h (st3 b sb cb nv fv N F) h' (st3 b sb cb nv fv (inN N i) F) := by
  obtain ⟨_, _, l2, _⟩ := st3_ld O
  have M := st3_nv O
  have ix0 : aindex Try.prog 72 nv (.int .i64 0) = some (.ptr nv.blk nv.off) := by
    have := nd_idx M h0
    rw [Nat.zero_mul, Nat.add_zero] at this
    exact this
  obtain ⟨n0, hn0⟩ : ∃ n0, N[0]? = some n0 := ⟨_, List.getElem?_eq_getElem h0⟩
  have ex : nxN N 0 = n0.nx := (nd_get hn0).1
  rw [ex] at hx
  have ld : aload Try.prog h 3 nv.blk (nv.off + 4) = some (.int .i64 (n0.nx : Nat)) := by
    have := nd_ld M hn0 (o := 4) (x := .int .i64 (n0.nx : Nat)) (by omega) rfl (ty := 3) ta3
    rw [Nat.zero_mul, Nat.add_zero] at this
    exact this
  have ixi := nd_idx M hi
  obtain ⟨n, hn⟩ : ∃ n, N[i]? = some n := ⟨_, List.getElem?_eq_getElem hi⟩
  -- prev, then next, of the node
  obtain ⟨h1, a1, M1, K1, n1⟩ := nd_lay M hn (n' := { n with pv := 0 }) (o := 5) (by omega) (a := .int .i64 ((0 : Nat) : Int)) rfl rfl
  have O1 := (st3_set O M1 K1).own
  have N1 : N.set i { n with pv := 0 } = setPv N i 0 := (set_pv hn).symm
  rw [N1] at M1 O1
  obtain ⟨na, hna⟩ : ∃ na, (setPv N i 0)[i]? = some na := ⟨_, List.getElem?_eq_getElem (by rw [len_pv]; exact hi)⟩
  obtain ⟨h2, a2, M2, K2, n2⟩ := nd_lay M1 hna (n' := { na with nx := n0.nx }) (o := 4) (by omega) (a := .int .i64 (n0.nx : Nat)) rfl rfl
  have O2 := (st3_set O1 M2 K2).own
  have N2 : (setPv N i 0).set i { na with nx := n0.nx } = setNx (setPv N i 0) i n0.nx := (set_nx hna).symm
  rw [N2] at M2 O2
  obtain ⟨_, _, l22, _⟩ := st3_ld O2
  have l0 : 0 < (setNx (setPv N i 0) i n0.nx).length := by rw [len_nx, len_pv]; exact h0
  obtain ⟨nb, hnb⟩ : ∃ nb, (setNx (setPv N i 0) i n0.nx)[0]? = some nb := ⟨_, List.getElem?_eq_getElem l0⟩
  obtain ⟨h3, a3, M3, K3, n3⟩ := nd_lay M2 hnb (n' := { nb with nx := i }) (o := 4) (by omega) (a := .int .i64 (i : Nat)) rfl rfl
  have N3 : (setNx (setPv N i 0) i n0.nx).set 0 { nb with nx := i } = setNx (setNx (setPv N i 0) i n0.nx) 0 i := (set_nx hnb).symm
  rw [N3] at M3
  have lx : n0.nx < (setNx (setNx (setPv N i 0) i n0.nx) 0 i).length := by rw [len_nx, len_nx, len_pv]; exact hx
  obtain ⟨nc, hnc⟩ : ∃ nc, (setNx (setNx (setPv N i 0) i n0.nx) 0 i)[n0.nx]? = some nc := ⟨_, List.getElem?_eq_getElem lx⟩
  obtain ⟨h4, a4, M4, K4, n4⟩ := nd_lay M3 hnc (n' := { nc with pv := i }) (o := 5) (by omega) (a := .int .i64 (i : Nat)) rfl rfl
  have N4 : (setNx (setNx (setPv N i 0) i n0.nx) 0 i).set n0.nx { nc with pv := i } = inN N i := by
    unfold inN
    rw [ex]
    exact (set_pv hnc).symm
  rw [N4] at M4
  have K14 : Keep h.next (Has nv) h h4 := ((K1.trans (K2.weak K1.1 fun _ _ q => q)).trans (K3.weak (Nat.le_trans K1.1 K2.1) fun _ _ q => q)).trans (K4.weak (by omega) fun _ _ q => q)
  have S := st3_set O M4 K14
  have ix2 : aindex Try.prog 72 nv (.int .i64 (n0.nx : Nat)) = some (.ptr nv.blk (nv.off + n0.nx * 6)) := nd_idx M hx
  rw [Nat.zero_mul, Nat.add_zero] at a3
  have a1 : alay h nv.blk (nv.off + i * 6 + 5) [.int .i64 0] = some h1 := a1
  refine flat0 ?_
  rw [acall_text [] Try.func33 (by kernel_rfl)]
  refine afuncT_ex rfl (by simp [Try.f33]) ?_
  simp [Try.f33, l2, ix0, ld, ixi, a1, a2, l22, a3, ix2, a4]
  exact S
end Go.Proofs.Ytelnkdgpghndgaa
/- item.Store: what holds of it; an item goes. -/
namespace Go.Proofs.Ytelnkdgpghndgaa
open Go Go.YtelnkdgpghndgaaAbs
set_option linter.unusedSimpArgs false
set_option linter.unusedVariables false
set_option maxRecDepth 4000

/-- An item: its key, its data, its chunk, whether it is pinned, its node. -/
structure Itm where
  key : ByteArray
  data : ByteArray
  ci : Nat
  ch : Nat
  pin : Bool
  i : Nat
structure Sto where
  sb : Nat
  s : Sb
  vc : AV
  cb : Nat
  x : Cn
  nv : AV
  fv : AV
  N : List Nd
  F : List Nat
  L : List Itm
def Sto.th (z : Sto) (b : Nat) : List Th := st3 b z.sb z.cb z.nv z.fv z.N z.F ++ (z.s.th z.sb z.vc ++ z.x.th z.cb)
def findK (key : ByteArray) (L : List Itm) : Option Itm := L.find? fun y => decide (y.key = key)
structure StI (P Q : Nat) (z : Sto) : Prop where
  sl : SlI P Q z.s
  cn : CnI z.L.length z.x
  cl : z.x.c.len = z.L.length
  ring : Ring z.N (z.L.map (·.i))
  dat : ∀ y, y ∈ z.L → datN z.N y.i = some (y.key, y.ci, y.ch, y.pin)
  spn : z.F.Nodup
  sp : ∀ i, i ∈ z.F → 0 < i ∧ i < z.N.length ∧ i ∉ z.L.map (·.i)
  cnt : z.N.length = 1 + z.L.length + z.F.length
  nb : z.N.length ≤ 65537
  get : ∀ key, z.x.c.get key = (findK key z.L).map fun y => (y.i : Int)
  nd : (z.L.map (·.key)).Nodup
  ks : ∀ y, y ∈ z.L → y.key.size ≤ 1000
  rd : ∀ y, y ∈ z.L → rdS z.s y.ci y.ch = some (y.key ++ y.data)
  hn : (z.L.map fun y => (y.ci, y.ch)).Nodup
  live : liveN z.s.cls = z.L.length
theorem findK_mem {key : ByteArray} {L : List Itm} {y : Itm} (h : findK key L = some y) : y ∈ L ∧ y.key = key := by
  unfold findK at h
  have := List.find?_some h
  exact ⟨List.mem_of_find?_eq_some h, of_decide_eq_true this⟩
theorem findK_none {key : ByteArray} {L : List Itm} : findK key L = none ↔ ∀ y, y ∈ L → y.key ≠ key := by
  unfold findK
  rw [List.find?_eq_none]
  simp
theorem findK_append (key : ByteArray) (A B : List Itm) : findK key (A ++ B) = (findK key A).or (findK key B) := by
  unfold findK
  rw [List.find?_append]
theorem findK_cons (key : ByteArray) (y : Itm) (L : List Itm) : findK key (y :: L) = if y.key = key then some y else findK key L := by
  unfold findK
  rw [List.find?_cons]
  by_cases q : y.key = key <;> simp [q]
theorem nodup_cut {α : Type} {A B : List α} {y : α} (h : (A ++ y :: B).Nodup) : (A ++ B).Nodup ∧ y ∉ A ∧ y ∉ B := by
  rw [List.nodup_append] at h
  obtain ⟨h1, h2, h3⟩ := h
  rw [List.nodup_cons] at h2
  refine ⟨?_, fun q => h3 y q y (by simp) rfl, h2.1⟩
  rw [List.nodup_append]
  exact ⟨h1, h2.2, fun a ha b hb => h3 a ha b (by simp [hb])⟩
theorem findK_cut {A B : List Itm} {y : Itm} (nd : ((A ++ y :: B).map (·.key)).Nodup) (key : ByteArray) : findK key (A ++ B) = if key = y.key then none else findK key (A ++ y :: B) := by
  rw [List.map_append, List.map_cons] at nd
  obtain ⟨_, n1, n2⟩ := nodup_cut nd
  by_cases q : key = y.key
  · rw [if_pos q]
    subst q
    refine findK_none.2 fun z hz e => ?_
    rcases List.mem_append.1 hz with z' | z'
    · exact n1 (List.mem_map.2 ⟨z, z', e⟩)
    · exact n2 (List.mem_map.2 ⟨z, z', e⟩)
  · rw [if_neg q, findK_append, findK_append, findK_cons, if_neg (fun e => q e.symm)]
theorem findK_at {A B : List Itm} {y : Itm} (nd : ((A ++ y :: B).map (·.key)).Nodup) : findK y.key (A ++ y :: B) = some y := by
  rw [List.map_append, List.map_cons] at nd
  obtain ⟨_, n1, n2⟩ := nodup_cut nd
  have : findK y.key A = none := findK_none.2 fun z hz e => n1 (List.mem_map.2 ⟨z, hz, e⟩)
  rw [findK_append, findK_cons, if_pos rfl, this]
  rfl
theorem live_le {P Q : Nat} {s : Sb} (I : SlI P Q s) : liveN s.cls ≤ 65536 := by
  obtain ⟨p1, p2, q1, q2, pgs, I⟩ := I
  have hw := I.weight
  have hu : s.used ≤ 64 := by have := I.tot; omega
  have h64 : ∀ L : List Cl, (∀ c, c ∈ L → 64 ≤ c.size) → liveN L * 64 ≤ weight L := by
    intro L
    induction L with
    | nil => intro _; simp [liveN, weight]
    | cons c L ih =>
      intro h
      have := ih fun x hx => h x (by simp [hx])
      have hc := h c (by simp)
      have : c.live.length * 64 ≤ c.live.length * c.size := Nat.mul_le_mul_left _ hc
      unfold liveN weight at *
      rw [List.map_cons, List.sum_cons, List.map_cons, List.sum_cons, Nat.add_mul]
      omega
  have := h64 s.cls fun c hc => by
    obtain ⟨i, hi⟩ := List.getElem?_of_mem hc
    exact (I.size hi).1
  have h2 : s.used * Q ≤ 64 * 65536 := Nat.mul_le_mul hu q2
  omega
section
variable {h : Heap} {nv : AV} {N : List Nd}
theorem nd_hnd (M : Mine 6 N.length h nv (cat Nd.c N)) {i : Nat} {n : Nd} (hi : N[i]? = some n) {ty : TypeId} (ht : tagg Try.prog ty = some true) (hs : tsize Try.prog ty = some 2) : aload Try.prog h ty nv.blk (nv.off + i * 6 + 1) = some (.agg [.int .i64 (n.ci : Nat), .int .i64 (n.ch : Nat)]) := by
  have hil := (List.getElem?_eq_some_iff.1 hi).1
  have hl := M.length
  have := M.sl.lds (P := Try.prog) (e := ty) ht hs (j := i * 6 + 1) (by omega) (by omega)
  have e : ((cat Nd.c N).drop (i * 6 + 1)).take 2 = [.int .i64 (n.ci : Nat), .int .i64 (n.ch : Nat)] := by
    have a := cat_at Nd.c_len hi
    have b : ((cat Nd.c N).drop (i * 6 + 1)).take 2 = ((((cat Nd.c N).drop (i * 6)).take 6).drop 1).take 2 := by
      rw [List.drop_take, List.drop_drop, List.take_take]
      rfl
    rw [b, a]
    rfl
  rw [e, ← Nat.add_assoc] at this
  exact this
theorem dat_some {i : Nat} {a : ByteArray} {b c : Nat} {p : Bool} (h : datN N i = some (a, b, c, p)) : ∃ n, N[i]? = some n ∧ n.key = a ∧ n.ci = b ∧ n.ch = c ∧ n.pin = p := by
  unfold datN at h
  cases hn : N[i]? with
  | none => rw [hn] at h; cases h
  | some n =>
    rw [hn] at h
    simp at h
    exact ⟨n, rfl, h⟩
theorem ring_far {R : List Nat} {i : Nat} {n : Nd} (G : Ring N R) (hi : i ∉ 0 :: R) : Ring (N.set i n) R ∧ ∀ j, j ∈ R → datN (N.set i n) j = datN N j := by
  have e : ∀ j, j ∈ 0 :: R → (N.set i n)[j]? = N[j]? := fun j hj => List.getElem?_set_ne (fun q => hi (by rw [q]; exact hj))
  refine ⟨G.frame (by simp) fun j hj => ?_, fun j hj => ?_⟩
  · unfold nxN pvN
    rw [e j hj]
    exact ⟨rfl, rfl⟩
  · unfold datN
    rw [e j (List.mem_cons_of_mem _ hj)]
end
theorem StI.node {P Q : Nat} {z : Sto} (I : StI P Q z) {y : Itm} (hy : y ∈ z.L) : ∃ n, z.N[y.i]? = some n ∧ n.key = y.key ∧ n.ci = y.ci ∧ n.ch = y.ch ∧ n.pin = y.pin ∧ y.i < z.N.length ∧ y.i ≠ 0 := by
  obtain ⟨n, h1, h2, h3, h4, h5⟩ := dat_some (I.dat y hy)
  have hm : y.i ∈ z.L.map (·.i) := List.mem_map.2 ⟨y, hy, rfl⟩
  exact ⟨n, h1, h2, h3, h4, h5, I.ring.lt _ (List.mem_cons_of_mem _ hm), fun q => (List.nodup_cons.1 I.ring.nd).1 (q ▸ hm)⟩
set_option maxHeartbeats 1000000 in
theorem gone_ok {P Q : Nat} {z : Sto} (I : StI P Q z) {A B : List Itm} {y : Itm} (hL : z.L = A ++ y :: B) (k : Nat) (hk : 300000 < k) (h : Heap) (b : Nat) (O : Hold h (z.th b)) :
    ∃ (z' : Sto) (h' : Heap), acall Try.prog (k + 4) 32 [.ptr b 0, .int .i64 (y.i : Nat)] h = some (.tup [], h') ∧ Stp h (z.th b) h' (z'.th b) ∧ StI P Q z' ∧ z'.L = A ++ B ∧ FreeP z.s y.ci y.ch z'.s := by
  have hy : y ∈ z.L := by rw [hL]; simp
  obtain ⟨n, hn, nk, nci, nch, npin, il, i0⟩ := I.node hy
  have O3 := (own_append.1 O).1
  have OS := (own_append.1 (own_append.1 O).2.1).1
  obtain ⟨l0, l1, l2, l3⟩ := st3_ld O3
  have M := st3_nv O3
  have ixi := nd_idx M il
  have hd := nd_hnd M hn (ty := 58) ta58 ts58
  rw [nci, nch] at hd
  obtain ⟨s1, h1, E1, FP, T1⟩ := s_free (ci := y.ci) (K := y.ch) I.sl (k + 1) (by omega) (by rw [I.rd y hy]; rfl) OS
  have S1 : Stp h (z.th b) h1 (st3 b z.sb z.cb z.nv z.fv z.N z.F ++ (s1.th z.sb z.vc ++ z.x.th z.cb)) := (Stp.refl O).opB ((Stp.refl (own_append.1 O).2.1).op T1)
  have O31 := (own_append.1 S1.own).1
  have OT := (own_append.1 (own_append.1 S1.own).2.1).2.1
  obtain ⟨_, l11, l21, _⟩ := st3_ld O31
  have M1 := st3_nv O31
  have kd := nd_ld M1 hn (o := 0) (x := .str n.key) (by omega) rfl (ty := 9) ta9
  rw [nk, Nat.add_zero] at kd
  have hLl : z.L.length ≤ 65536 := by have := live_le I.sl; have := I.live; omega
  obtain ⟨x2, h2, E2, T2, C2, g2, ln2⟩ := t_drop I.cn (by omega) (k := k) (by omega) OT y.key (I.ks y hy)
  have S2 := S1.opB ((Stp.refl (own_append.1 S1.own).2.1).opB T2)
  have O32 := (own_append.1 S2.own).1
  have R0 : Ring z.N (A.map (·.i) ++ y.i :: B.map (·.i)) := by have := I.ring; rw [hL] at this; simpa using this
  obtain ⟨q1, q2, R1⟩ := R0.out
  obtain ⟨gn, gp, _⟩ := nd_get hn
  obtain ⟨h3, E3, T3⟩ := out_ok (k + 2) h2 b z.sb z.cb z.nv z.fv z.N z.F O32 y.i n hn (by rw [← gp]; exact q1) (by rw [← gn]; exact q2)
  have S3 := S2.op T3
  have O33 := (own_append.1 S3.own).1
  obtain ⟨_, _, l23, l33⟩ := st3_ld O33
  have M3 := st3_nv O33
  have il3 : y.i < (outN z.N y.i).length := by rw [out_len]; exact il
  have ix3 := nd_idx M3 il3
  obtain ⟨h4, a4, M4, K4, n4⟩ := nd_layN M3 il3 nd0
  have T4 := st3_set O33 M4 K4
  have S4 := S3.op T4
  have O34 := T4.own
  obtain ⟨_, _, l24, l34⟩ := st3_ld O34
  have hFl : z.F.length ≤ 65537 := by have := I.cnt; have := I.nb; omega
  obtain ⟨fv', h5, a5, M5, F5, K5⟩ := (st3_fv O34).push (P := Try.prog) el44 (a := [nn y.i]) (ex := true) rfl rfl (by omega)
  have M5' : Mine 1 (z.F ++ [y.i]).length h5 fv' ((z.F ++ [y.i]).map nn) := by simpa using M5
  have T5 := (Stp.refl O34).upd (i := 2) (v := z.fv) (o := .vec 1 z.F.length (z.F.map nn)) rfl K5 (v' := fv') (o' := .vec 1 (z.F ++ [y.i]).length ((z.F ++ [y.i]).map nn)) M5' F5
  obtain ⟨b', eb, bl5, bg5⟩ := T5.own.get (i := 0) (v := .ptr b 0) (o := .blk [.ptr z.sb 0, .ptr z.cb 0, z.nv, z.fv]) rfl
  cases eb
  have K6 : Keep h5.next (Has (.ptr b 0)) h5 (h5.set b (.cells [.ptr z.sb 0, .ptr z.cb 0, z.nv, fv'] false)) := Keep.set (F := Has (.ptr b 0)) (.inl rfl) _
  have a6 : alay h5 b 3 [fv'] = some (h5.set b (.cells [.ptr z.sb 0, .ptr z.cb 0, z.nv, fv'] false)) := by unfold alay; rw [bg5]; rfl
  have T6 := T5.upd (i := 0) (v := .ptr b 0) (o := .blk [.ptr z.sb 0, .ptr z.cb 0, z.nv, z.fv]) rfl K6 (v' := .ptr b 0) (o' := .blk [.ptr z.sb 0, .ptr z.cb 0, z.nv, fv']) ⟨b, rfl, bl5, get_set_self _ _ _⟩ (From.refl _ _)
  have S6 := S4.op T6
  have rwf := row1_one M5.oneV
  have a5 : aappend Try.prog (h4.new (.cells [.int .i64 (y.i : Nat)] false)) 44 44 z.fv (.sl h4.next 0 1 1 1 true) = some (fv', h5) := a5
  have a4 : alay h3 z.nv.blk (z.nv.off + y.i * 6) [.str .empty, .int .i64 0, .int .i64 0, .bool false, .int .i64 0, .int .i64 0] = some h4 := a4
  have rw0 : (AV.agg [.str .empty, .int .i64 0, .int .i64 0, .bool false, .int .i64 0, .int .i64 0]).row1 = some [.str .empty, .int .i64 0, .int .i64 0, .bool false, .int .i64 0, .int .i64 0] := rfl
  have main : acall Try.prog (k + 4) 32 [.ptr b 0, .int .i64 (y.i : Nat)] h = some (.tup [], h5.set b (.cells [.ptr z.sb 0, .ptr z.cb 0, z.nv, fv'] false)) := by
    rw [acall_text [] Try.func32 (by kernel_rfl)]
    refine afuncT_of rfl (by simp [Try.f32]) ?_
    simp [Try.f32, l0, l2, ixi, hd, E1, l11, l21, kd, E2, E3, l23, ix3, rw0, a4, l34, aalloc, afill, a5, rwf, a6]
  have inA : ∀ y', y' ∈ A ++ B → y' ∈ z.L := fun y' q => by
    rw [hL]
    rcases List.mem_append.1 q with q | q
    · simp [q]
    · simp [q]
  have nR := R0.nd
  have ny : y.i ∉ 0 :: (A ++ B).map (·.i) := by
    rw [List.nodup_cons] at nR
    obtain ⟨_, u1, u2⟩ := nodup_cut nR.2
    simp only [List.mem_cons, List.map_append, List.mem_append, not_or]
    exact ⟨i0, u1, u2⟩
  have R1' : Ring (outN z.N y.i) ((A ++ B).map (·.i)) := by rw [List.map_append]; exact R1
  obtain ⟨R2, d2⟩ := ring_far (n := nd0) R1' ny
  obtain ⟨fr1, fr2⟩ := FP.read I.sl
  have lenL : z.L.length = (A ++ B).length + 1 := by rw [hL]; simp; omega
  have hnd := I.nd
  rw [hL] at hnd
  have hhn := I.hn
  rw [hL, List.map_append, List.map_cons] at hhn
  obtain ⟨hh1, hh2, hh3⟩ := nodup_cut hhn
  have hget : z.x.c.get y.key = some (y.i : Int) := by rw [I.get, hL, findK_at hnd]; rfl
  refine ⟨⟨z.sb, s1, z.vc, z.cb, x2, z.nv, fv', (outN z.N y.i).set y.i nd0, z.F ++ [y.i], A ++ B⟩, _, main, S6, ?_, rfl, FP⟩
  have ln : x2.c.len = (A ++ B).length := by
    rw [ln2, hget]
    simp only [Option.isSome_some, if_true]
    rw [I.cl]
    omega
  refine ⟨FP.inv I.sl, ?_, ln, R2, fun y' q => ?_, ?_, fun i hi => ?_, ?_, ?_, fun key => ?_, ?_, fun y' q => I.ks y' (inA y' q), fun y' q => ?_, ?_, ?_⟩
  · have := C2.tight
    rw [ln] at this
    exact this
  · show datN ((outN z.N y.i).set y.i nd0) y'.i = _
    rw [d2 _ (List.mem_map.2 ⟨y', q, rfl⟩), out_dat]
    exact I.dat y' (inA y' q)
  · show (z.F ++ [y.i]).Nodup
    rw [List.nodup_append]
    exact ⟨I.spn, by simp, fun a ha c hc e => (I.sp a ha).2.2 (by rw [e, List.mem_singleton.1 hc]; exact List.mem_map.2 ⟨y, hy, rfl⟩)⟩
  · show 0 < i ∧ i < ((outN z.N y.i).set y.i nd0).length ∧ i ∉ (A ++ B).map (·.i)
    rw [List.length_set, out_len]
    rcases List.mem_append.1 hi with q | q
    · obtain ⟨s1, s2, s3⟩ := I.sp i q
      refine ⟨s1, s2, fun e => s3 ?_⟩
      obtain ⟨y', hy', rfl⟩ := List.mem_map.1 e
      exact List.mem_map.2 ⟨y', inA y' hy', rfl⟩
    · rw [List.mem_singleton.1 q]
      exact ⟨Nat.pos_of_ne_zero i0, il, fun e => ny (List.mem_cons_of_mem _ e)⟩
  · show ((outN z.N y.i).set y.i nd0).length = 1 + (A ++ B).length + (z.F ++ [y.i]).length
    have e1 : (z.F ++ [y.i]).length = z.F.length + 1 := by simp
    rw [List.length_set, out_len, I.cnt, lenL, e1]
    omega
  · show ((outN z.N y.i).set y.i nd0).length ≤ 65537
    rw [List.length_set, out_len]
    exact I.nb
  · show x2.c.get key = (findK key (A ++ B)).map _
    rw [g2, findK_cut hnd]
    split
    · rfl
    · rw [I.get, hL]
  · rw [List.map_append, List.map_cons] at hnd
    show ((A ++ B).map (·.key)).Nodup
    rw [List.map_append]
    exact (nodup_cut hnd).1
  · show rdS s1 y'.ci y'.ch = _
    rw [fr1, if_neg]
    · exact I.rd y' (inA y' q)
    · rintro ⟨e1, e2⟩
      rcases List.mem_append.1 q with q | q
      · exact hh2 (List.mem_map.2 ⟨y', q, by rw [e1, e2]⟩)
      · exact hh3 (List.mem_map.2 ⟨y', q, by rw [e1, e2]⟩)
  · show ((A ++ B).map fun y => (y.ci, y.ch)).Nodup
    rw [List.map_append]
    exact hh1
  · show liveN s1.cls = (A ++ B).length
    have := I.live
    omega
end Go.Proofs.Ytelnkdgpghndgaa
/- item.Store: Drop, Peek, Get, Pin, Keys, Len, Pages. -/
namespace Go.Proofs.Ytelnkdgpghndgaa
open Go Go.YtelnkdgpghndgaaAbs
set_option linter.unusedSimpArgs false
set_option linter.unusedVariables false
set_option maxRecDepth 4000

theorem findK_split {key : ByteArray} : ∀ {L : List Itm} {y : Itm}, findK key L = some y → ∃ A B, L = A ++ y :: B ∧ y.key = key
  | [], y, h => by simp [findK] at h
  | x :: L, y, h => by
    rw [findK_cons] at h
    by_cases q : x.key = key
    · rw [if_pos q] at h
      cases h
      exact ⟨[], L, rfl, q⟩
    · rw [if_neg q] at h
      obtain ⟨A, B, e, hk⟩ := findK_split h
      exact ⟨x :: A, B, by rw [e]; rfl, hk⟩
/-- What Drop does to the row of items and to the slab. -/
inductive DropR (key : ByteArray) : List Itm → Sb → List Itm → Sb → Prop
  | no {L : List Itm} {s : Sb} (h : findK key L = none) : DropR key L s L s
  | yes {A B : List Itm} {y : Itm} {s s' : Sb} (hk : y.key = key) (hf : FreeP s y.ci y.ch s') : DropR key (A ++ y :: B) s (A ++ B) s'
section
variable {P Q : Nat} {z : Sto} {h : Heap} {b : Nat}
theorem sto_ld (O : Hold h (z.th b)) : Hold h (st3 b z.sb z.cb z.nv z.fv z.N z.F) ∧ Hold h (z.s.th z.sb z.vc) ∧ Hold h (z.x.th z.cb) := ⟨(own_append.1 O).1, (own_append.1 (own_append.1 O).2.1).1, (own_append.1 (own_append.1 O).2.1).2.1⟩
theorem StI.small (I : StI P Q z) : z.L.length ≤ 65536 := by have := live_le I.sl; have := I.live; omega
/-- The key's number is looked up. -/
theorem sto_get (I : StI P Q z) (k : Nat) (hk : 200000 < k) (O : Hold h (z.th b)) (key : ByteArray) (hm : key.size ≤ 1000) :
    ∃ h', acall Try.prog (k + 3) 35 [.ptr z.cb 0, .str key] h = some (.tup [.int .i64 (((findK key z.L).map fun y => (y.i : Int)).getD 0), .bool (findK key z.L).isSome], h') ∧ Keep h.next nob h h' := by
  obtain ⟨h', E, K⟩ := t_get I.cn (by have := I.small; omega) k hk (sto_ld O).2.2 key hm
  rw [I.get] at E
  rw [Option.isSome_map] at E
  exact ⟨h', E, K⟩
theorem idrop_ok (I : StI P Q z) (k : Nat) (hk : 300000 < k) (O : Hold h (z.th b)) (key : ByteArray) (hm : key.size ≤ 1000) :
    ∃ (z' : Sto) (h' : Heap), acall Try.prog (k + 5) 13 [.ptr b 0, .str key] h = some (.bool (findK key z.L).isSome, h') ∧ Stp h (z.th b) h' (z'.th b) ∧ StI P Q z' ∧ DropR key z.L z.s z'.L z'.s := by
  obtain ⟨h1, E1, K1⟩ := sto_get I (k + 1) (by omega) O key hm
  obtain ⟨O3, _, _⟩ := sto_ld O
  obtain ⟨_, l1, _, _⟩ := st3_ld O3
  cases hf : findK key z.L with
  | none =>
    rw [hf] at E1
    refine ⟨z, h1, ?_, (Stp.refl O).ext K1, I, .no hf⟩
    rw [acall_text [] Try.func13 (by kernel_rfl)]
    refine afuncT_of rfl (by simp [Try.f13]) ?_
    simp at E1
    simp [Try.f13, l1, E1]
  | some y =>
    rw [hf] at E1
    obtain ⟨A, B, hL, hk'⟩ := findK_split hf
    obtain ⟨z', h2, E2, S2, I2, L2, F2⟩ := gone_ok I hL k hk h1 b (O.ext K1)
    refine ⟨z', h2, ?_, ((Stp.refl O).ext K1).trans S2, I2, ?_⟩
    · rw [acall_text [] Try.func13 (by kernel_rfl)]
      refine afuncT_of rfl (by simp [Try.f13]) ?_
      simp at E1
      simp [Try.f13, l1, E1, E2]
    · rw [hL, L2]
      exact .yes hk' F2
theorem ba_from (a c : ByteArray) : (a ++ c).extract a.size (a ++ c).size = c := ByteArray.extract_append_eq_right rfl ByteArray.size_append
theorem ipeek_ok (I : StI P Q z) (k : Nat) (hk : 300000 < k) (O : Hold h (z.th b)) (key : ByteArray) (hm : key.size ≤ 1000) :
    ∃ h', acall Try.prog (k + 5) 17 [.ptr b 0, .str key] h = some (.tup [.str (((findK key z.L).map (·.data)).getD .empty), .bool (findK key z.L).isSome], h') ∧ Keep h.next nob h h' := by
  obtain ⟨h1, E1, K1⟩ := sto_get I (k + 1) (by omega) O key hm
  obtain ⟨O3, _, _⟩ := sto_ld O
  obtain ⟨_, l1, _, _⟩ := st3_ld O3
  refine flat0 ?_
  rw [acall_text [] Try.func17 (by kernel_rfl)]
  refine afuncT_ex rfl (by simp [Try.f17]) ?_
  cases hf : findK key z.L with
  | none =>
    rw [hf] at E1
    simp at E1
    simp [Try.f17, l1, E1]
    exact ⟨rfl, K1⟩
  | some y =>
    rw [hf] at E1
    obtain ⟨hy, hk'⟩ := findK_mem hf
    obtain ⟨n, hn, nk, nci, nch, npin, il, i0⟩ := I.node hy
    have O1 := O.ext K1
    obtain ⟨O31, OS1, _⟩ := sto_ld O1
    obtain ⟨l01, _, l21, _⟩ := st3_ld O31
    have M1 := st3_nv O31
    have ix := nd_idx M1 il
    have hd := nd_hnd M1 hn (ty := 58) ta58 ts58
    rw [nci, nch] at hd
    obtain ⟨h2, E2, K2⟩ := s_read I.sl (k + 3) (by omega) y.ci y.ch OS1
    rw [I.rd y hy] at E2
    simp at E1 E2
    have sl := aslice_strFrom (P := Try.prog) (ty := 9) Try.underlying9 (s := y.key ++ y.data) (k := .i64) (n := (key.size : Nat)) (by omega) (by rw [ByteArray.size_append, hk']; omega)
    rw [Int.toNat_natCast, ← hk', ba_from, hk'] at sl
    simp [Try.f17, l1, E1, l01, l21, ix, hd, E2]
    rw [← hk'] at sl ⊢
    simp [sl]
    exact K1.trans (K2.weak K1.1 fun _ _ q => q)
/-- One that is touched goes to the front. -/
inductive TouchR (key : ByteArray) : List Itm → List Itm → Prop
  | no {L : List Itm} (h : findK key L = none) : TouchR key L L
  | yes {A B : List Itm} {y : Itm} (hk : y.key = key) : TouchR key (A ++ y :: B) (y :: (A ++ B))
theorem touch_get {key : ByteArray} {L L' : List Itm} (T : TouchR key L L') : ∀ y, y ∈ L' ↔ y ∈ L := by
  cases T with
  | no h => intro y; rfl
  | yes hk =>
    intro y
    simp only [List.mem_cons, List.mem_append]
    constructor
    · rintro (h | h | h)
      · exact .inr (.inl h)
      · exact .inl h
      · exact .inr (.inr h)
    · rintro (h | h | h)
      · exact .inr (.inl h)
      · exact .inl h
      · exact .inr (.inr h)
theorem findK_iff {L : List Itm} (nd : (L.map (·.key)).Nodup) {y : Itm} {key : ByteArray} : findK key L = some y ↔ y ∈ L ∧ y.key = key := by
  constructor
  · exact findK_mem
  · rintro ⟨hy, hk⟩
    obtain ⟨A, B, rfl⟩ := List.append_of_mem hy
    rw [← hk]
    exact findK_at nd
theorem findK_perm {L M : List Itm} (nd : (L.map (·.key)).Nodup) (p : L.Perm M) (key : ByteArray) : findK key M = findK key L := by
  have nd' : (M.map (·.key)).Nodup := (p.map _).nodup_iff.1 nd
  cases h : findK key L with
  | none => exact findK_none.2 fun y hy => findK_none.1 h y (p.mem_iff.2 hy)
  | some y =>
    obtain ⟨h1, h2⟩ := (findK_iff nd).1 h
    exact (findK_iff nd').2 ⟨p.mem_iff.1 h1, h2⟩
theorem iget_ok (I : StI P Q z) (k : Nat) (hk : 300000 < k) (O : Hold h (z.th b)) (key : ByteArray) (hm : key.size ≤ 1000) :
    ∃ (z' : Sto) (h' : Heap), acall Try.prog (k + 6) 10 [.ptr b 0, .str key] h = some (.tup [.str (((findK key z.L).map (·.data)).getD .empty), .bool (findK key z.L).isSome], h') ∧ Stp h (z.th b) h' (z'.th b) ∧ StI P Q z' ∧ TouchR key z.L z'.L ∧ z'.s = z.s := by
  obtain ⟨h1, E1, K1⟩ := ipeek_ok I k hk O key hm
  have O1 := O.ext K1
  cases hf : findK key z.L with
  | none =>
    rw [hf] at E1
    refine ⟨z, h1, ?_, (Stp.refl O).ext K1, I, .no hf, rfl⟩
    rw [acall_text [] Try.func10 (by kernel_rfl)]
    refine afuncT_of rfl (by simp [Try.f10]) ?_
    simp at E1
    simp [Try.f10, E1]
  | some y =>
    rw [hf] at E1
    obtain ⟨hy, hk'⟩ := findK_mem hf
    obtain ⟨A, B, hL⟩ := List.append_of_mem hy
    obtain ⟨n, hn, nk, nci, nch, npin, il, i0⟩ := I.node hy
    obtain ⟨h2, E2, K2⟩ := sto_get I (k + 2) (by omega) O1 key hm
    rw [hf] at E2
    have O2 := O1.ext K2
    obtain ⟨O31, _, _⟩ := sto_ld O1
    obtain ⟨_, l11, _, _⟩ := st3_ld O31
    have R0 : Ring z.N (A.map (·.i) ++ y.i :: B.map (·.i)) := by have := I.ring; rw [hL] at this; simpa using this
    obtain ⟨q1, q2, R1⟩ := R0.out
    obtain ⟨gn, gp, _⟩ := nd_get hn
    obtain ⟨h3, E3, T3⟩ := out_ok (k + 4) h2 b z.sb z.cb z.nv z.fv z.N z.F (sto_ld O2).1 y.i n hn (by rw [← gp]; exact q1) (by rw [← gn]; exact q2)
    have S3 : Stp h2 (z.th b) h3 (st3 b z.sb z.cb z.nv z.fv (outN z.N y.i) z.F ++ (z.s.th z.sb z.vc ++ z.x.th z.cb)) := (Stp.refl O2).op T3
    have nR := R0.nd
    have ny : y.i ∉ 0 :: (A.map (·.i) ++ B.map (·.i)) := by
      rw [List.nodup_cons] at nR
      obtain ⟨_, u1, u2⟩ := nodup_cut nR.2
      simp only [List.mem_cons, List.mem_append, not_or]
      exact ⟨i0, u1, u2⟩
    have il3 : y.i < (outN z.N y.i).length := by rw [out_len]; exact il
    obtain ⟨p1, R2⟩ := R1.in ny il3
    obtain ⟨h4, E4, T4⟩ := in_ok (k + 4) h3 b z.sb z.cb z.nv z.fv (outN z.N y.i) z.F (own_append.1 S3.own).1 y.i il3 (by omega) p1
    have S4 := S3.op T4
    have pm : z.L.Perm (y :: (A ++ B)) := by rw [hL]; exact List.perm_middle
    refine ⟨{ z with N := inN (outN z.N y.i) y.i, L := y :: (A ++ B) }, h4, ?_, (((Stp.refl O).ext K1).ext K2).trans S4, ?_, by rw [hL]; exact .yes hk', rfl⟩
    · rw [acall_text [] Try.func10 (by kernel_rfl)]
      refine afuncT_of rfl (by simp [Try.f10]) ?_
      simp at E1 E2
      simp [Try.f10, E1, l11, E2, E3, E4]
    · have len : (y :: (A ++ B)).length = z.L.length := pm.length_eq.symm
      refine ⟨I.sl, by rw [show (Sto.L { z with N := inN (outN z.N y.i) y.i, L := y :: (A ++ B) }).length = z.L.length from len]; exact I.cn, by rw [show (Sto.L { z with N := inN (outN z.N y.i) y.i, L := y :: (A ++ B) }).length = z.L.length from len]; exact I.cl, by simpa using R2, fun y' q => ?_, I.spn, fun i hi => ?_, ?_, ?_, fun key => ?_, ?_, fun y' q => I.ks y' (pm.mem_iff.2 q), fun y' q => I.rd y' (pm.mem_iff.2 q), ?_, by rw [show (Sto.L { z with N := inN (outN z.N y.i) y.i, L := y :: (A ++ B) }).length = z.L.length from len]; exact I.live⟩
      · show datN (inN (outN z.N y.i) y.i) y'.i = _
        rw [in_dat, out_dat]
        exact I.dat y' (pm.mem_iff.2 q)
      · show 0 < i ∧ i < (inN (outN z.N y.i) y.i).length ∧ i ∉ (y :: (A ++ B)).map (·.i)
        rw [in_len, out_len]
        obtain ⟨s1, s2, s3⟩ := I.sp i hi
        exact ⟨s1, s2, fun e => s3 ((pm.map (·.i)).mem_iff.2 e)⟩
      · show (inN (outN z.N y.i) y.i).length = 1 + (y :: (A ++ B)).length + z.F.length
        rw [in_len, out_len, len]
        exact I.cnt
      · show (inN (outN z.N y.i) y.i).length ≤ 65537
        rw [in_len, out_len]
        exact I.nb
      · show z.x.c.get key = (findK key (y :: (A ++ B))).map _
        rw [findK_perm I.nd pm]
        exact I.get key
      · exact (pm.map (·.key)).nodup_iff.1 I.nd
      · exact (pm.map fun y => (y.ci, y.ch)).nodup_iff.1 I.hn
/-- One is pinned, or not. -/
inductive PinR (key : ByteArray) (pin : Bool) : List Itm → List Itm → Prop
  | no {L : List Itm} (h : findK key L = none) : PinR key pin L L
  | yes {A B : List Itm} {y : Itm} (hk : y.key = key) : PinR key pin (A ++ y :: B) (A ++ { y with pin := pin } :: B)
theorem ipin_ok (I : StI P Q z) (k : Nat) (hk : 300000 < k) (O : Hold h (z.th b)) (key : ByteArray) (hm : key.size ≤ 1000) (pin : Bool) :
    ∃ (z' : Sto) (h' : Heap), acall Try.prog (k + 4) 12 [.ptr b 0, .str key, .bool pin] h = some (.bool (findK key z.L).isSome, h') ∧ Stp h (z.th b) h' (z'.th b) ∧ StI P Q z' ∧ PinR key pin z.L z'.L ∧ z'.s = z.s := by
  obtain ⟨h1, E1, K1⟩ := sto_get I k (by omega) O key hm
  have O1 := O.ext K1
  obtain ⟨O3, _, _⟩ := sto_ld O
  obtain ⟨_, l1, _, _⟩ := st3_ld O3
  cases hf : findK key z.L with
  | none =>
    rw [hf] at E1
    refine ⟨z, h1, ?_, (Stp.refl O).ext K1, I, .no hf, rfl⟩
    rw [acall_text [] Try.func12 (by kernel_rfl)]
    refine afuncT_of rfl (by simp [Try.f12]) ?_
    simp at E1
    simp [Try.f12, l1, E1]
  | some y =>
    rw [hf] at E1
    obtain ⟨hy, hk'⟩ := findK_mem hf
    obtain ⟨A, B, hL⟩ := List.append_of_mem hy
    obtain ⟨n, hn, nk, nci, nch, npin, il, i0⟩ := I.node hy
    obtain ⟨O31, _, _⟩ := sto_ld O1
    obtain ⟨_, _, l21, _⟩ := st3_ld O31
    have M1 := st3_nv O31
    have ix := nd_idx M1 il
    obtain ⟨h2, a2, M2, K2, n2⟩ := nd_lay M1 hn (n' := { n with pin := pin }) (o := 3) (by omega) (a := .bool pin) rfl rfl
    have S2 : Stp h1 (z.th b) h2 (st3 b z.sb z.cb z.nv z.fv (z.N.set y.i { n with pin := pin }) z.F ++ (z.s.th z.sb z.vc ++ z.x.th z.cb)) := (Stp.refl O1).op (st3_set O31 M2 K2)
    have len : (A ++ { y with pin := pin } :: B).length = z.L.length := by rw [hL]; simp
    have mi : (A ++ { y with pin := pin } :: B).map (·.i) = z.L.map (·.i) := by rw [hL]; simp
    have mk : (A ++ { y with pin := pin } :: B).map (·.key) = z.L.map (·.key) := by rw [hL]; simp
    have mh : (A ++ { y with pin := pin } :: B).map (fun y => (y.ci, y.ch)) = z.L.map (fun y => (y.ci, y.ch)) := by rw [hL]; simp
    have old : ∀ y', y' ∈ A ++ { y with pin := pin } :: B → y' = { y with pin := pin } ∨ (y' ∈ z.L ∧ y'.i ≠ y.i) := by
      intro y' q
      have nR := (List.nodup_cons.1 I.ring.nd).2
      rw [hL, List.map_append, List.map_cons] at nR
      obtain ⟨_, u1, u2⟩ := nodup_cut nR
      rcases List.mem_append.1 q with q | q
      · exact .inr ⟨by rw [hL]; simp [q], fun e => u1 (e ▸ List.mem_map.2 ⟨y', q, rfl⟩)⟩
      · rcases List.mem_cons.1 q with q | q
        · exact .inl q
        · exact .inr ⟨by rw [hL]; simp [q], fun e => u2 (e ▸ List.mem_map.2 ⟨y', q, rfl⟩)⟩
    refine ⟨{ z with N := z.N.set y.i { n with pin := pin }, L := A ++ { y with pin := pin } :: B }, h2, ?_, ((Stp.refl O).ext K1).trans S2, ?_, by rw [hL]; exact .yes hk', rfl⟩
    · rw [acall_text [] Try.func12 (by kernel_rfl)]
      refine afuncT_of rfl (by simp [Try.f12]) ?_
      simp at E1
      simp [Try.f12, l1, E1, l21, ix, a2]
    · refine ⟨I.sl, ?_, ?_, ?_, fun y' q => ?_, I.spn, fun i hi => ?_, ?_, ?_, fun key => ?_, ?_, fun y' q => ?_, fun y' q => ?_, ?_, ?_⟩
      · show CnI (A ++ { y with pin := pin } :: B).length z.x
        rw [len]; exact I.cn
      · show z.x.c.len = (A ++ { y with pin := pin } :: B).length
        rw [len]; exact I.cl
      · show Ring (z.N.set y.i { n with pin := pin }) ((A ++ { y with pin := pin } :: B).map (·.i))
        rw [mi]
        refine I.ring.frame (by simp) fun j hj => ?_
        by_cases e : y.i = j
        · subst e
          unfold nxN pvN
          rw [List.getElem?_set_self il, hn]
          exact ⟨rfl, rfl⟩
        · unfold nxN pvN
          rw [List.getElem?_set_ne e]
          exact ⟨rfl, rfl⟩
      · show datN (z.N.set y.i { n with pin := pin }) y'.i = _
        rcases old y' q with e | ⟨e1, e2⟩
        · rw [e]
          unfold datN
          rw [List.getElem?_set_self il]
          simp [nk, nci, nch]
        · have := I.dat y' e1
          unfold datN at this ⊢
          rw [List.getElem?_set_ne (Ne.symm e2)]
          exact this
      · show 0 < i ∧ i < (z.N.set y.i { n with pin := pin }).length ∧ i ∉ (A ++ { y with pin := pin } :: B).map (·.i)
        rw [mi, List.length_set]
        exact I.sp i hi
      · show (z.N.set y.i { n with pin := pin }).length = 1 + (A ++ { y with pin := pin } :: B).length + z.F.length
        rw [List.length_set, len]
        exact I.cnt
      · show (z.N.set y.i { n with pin := pin }).length ≤ 65537
        rw [List.length_set]
        exact I.nb
      · show z.x.c.get key = (findK key (A ++ { y with pin := pin } :: B)).map _
        rw [I.get, hL, findK_append, findK_append, findK_cons, findK_cons]
        cases findK key A with
        | some w => rfl
        | none =>
          simp only [Option.none_or]
          split <;> rfl
      · show ((A ++ { y with pin := pin } :: B).map (·.key)).Nodup
        rw [mk]; exact I.nd
      · rcases old y' q with e | ⟨e1, e2⟩
        · rw [e]; exact I.ks y hy
        · exact I.ks y' e1
      · rcases old y' q with e | ⟨e1, e2⟩
        · rw [e]; exact I.rd y hy
        · exact I.rd y' e1
      · show ((A ++ { y with pin := pin } :: B).map fun y => (y.ci, y.ch)).Nodup
        rw [mh]; exact I.hn
      · show liveN z.s.cls = (A ++ { y with pin := pin } :: B).length
        rw [len]; exact I.live
theorem ilen_ok (I : StI P Q z) (k : Nat) (O : Hold h (z.th b)) : acall Try.prog (k + 2) 18 [.ptr b 0] h = some (.int .i64 (z.L.length : Nat), h) := by
  obtain ⟨O3, _, OT⟩ := sto_ld O
  obtain ⟨_, l1, _, _⟩ := st3_ld O3
  have E := t_len I.cn k OT
  rw [I.cl] at E
  rw [acall_text [] Try.func18 (by kernel_rfl)]
  refine afuncT_of rfl (by simp [Try.f18]) ?_
  simp [Try.f18, l1, E]
theorem ipages_ok (k : Nat) (O : Hold h (z.th b)) : acall Try.prog (k + 2) 25 [.ptr b 0] h = some (.tup [.int .i64 (z.s.used : Nat), .int .i64 (z.s.left : Nat)], h) := by
  obtain ⟨O3, OS, _⟩ := sto_ld O
  obtain ⟨l0, _, _, _⟩ := st3_ld O3
  have E := s_pages k OS
  rw [acall_text [] Try.func25 (by kernel_rfl)]
  refine afuncT_of rfl (by simp [Try.f25]) ?_
  simp [Try.f25, l0, E]
end
end Go.Proofs.Ytelnkdgpghndgaa
/- item.Store: Keys, the oldest one. -/
namespace Go.Proofs.Ytelnkdgpghndgaa
open Go Go.YtelnkdgpghndgaaAbs
set_option linter.unusedSimpArgs false
set_option linter.unusedVariables false
set_option maxRecDepth 4000

def ks (L : List Itm) : List AV := L.map fun y => .str y.key
/-- The oldest one of a class that isn't pinned. -/
def oldI (cls : Nat) (L : List Itm) : Option Itm := L.reverse.find? fun y => !y.pin && decide (y.ci = cls)
theorem oldI_none {cls : Nat} {L : List Itm} (h : ∀ y, y ∈ L → ¬ (y.pin = false ∧ y.ci = cls)) : oldI cls L = none := by
  unfold oldI
  rw [List.find?_eq_none]
  intro y hy
  have := h y (List.mem_reverse.1 hy)
  cases hp : y.pin <;> simp [hp] at this ⊢
  exact this
theorem oldI_some {cls : Nat} {A B : List Itm} {y : Itm} (h1 : y.pin = false) (h2 : y.ci = cls) (h : ∀ w, w ∈ B → ¬ (w.pin = false ∧ w.ci = cls)) : oldI cls (A ++ y :: B) = some y := by
  have hB := oldI_none h
  unfold oldI at hB ⊢
  rw [List.reverse_append, List.reverse_cons, List.append_assoc, List.find?_append, hB]
  simp [h1, h2]
theorem oldI_at {cls : Nat} {L : List Itm} {y : Itm} (h : oldI cls L = some y) : y ∈ L ∧ y.pin = false ∧ y.ci = cls := by
  unfold oldI at h
  have h1 := List.mem_of_find?_eq_some h
  have h2 := List.find?_some h
  simp at h2
  exact ⟨List.mem_reverse.1 h1, h2⟩
section
variable {P Q : Nat} {z : Sto} {h : Heap} {b : Nat}
/-- The row forward: at step p stands .. -/
theorem ring_at (I : StI P Q z) {p x y : Nat} (hx : (0 :: z.L.map (·.i))[p]? = some x) (hy : (z.L.map (·.i) ++ [0])[p]? = some y) : nxN z.N x = y ∧ pvN z.N y = x := I.ring.lk.at hx hy
theorem ikeys_ok (I : StI P Q z) (k : Nat) (hk : 300000 < k) (O : Hold h (z.th b)) :
    ∃ v' h', acall Try.prog (k + 1) 11 [.ptr b 0] h = some (v', h') ∧ Mine 1 z.L.length h' v' (ks z.L) ∧ (∀ d, Has v' d → h.next ≤ d) ∧ Keep h.next nob h h' := by
  obtain ⟨O3, _, _⟩ := sto_ld O
  obtain ⟨_, _, l2, _⟩ := st3_ld O3
  have M := st3_nv O3
  have n0 : 0 < z.N.length := I.ring.lt 0 (by simp)
  obtain ⟨nd0', hn0⟩ : ∃ n, z.N[0]? = some n := ⟨_, List.getElem?_eq_getElem n0⟩
  have ix0 : aindex Try.prog 72 z.nv (.int .i64 0) = some (.ptr z.nv.blk z.nv.off) := by
    have := nd_idx M n0
    rw [Nat.zero_mul, Nat.add_zero] at this
    exact this
  have ld0 : aload Try.prog h 3 z.nv.blk (z.nv.off + 4) = some (.int .i64 (nd0'.nx : Nat)) := by
    have := nd_ld M hn0 (o := 4) (x := .int .i64 (nd0'.nx : Nat)) (by omega) rfl (ty := 3) ta3
    rw [Nat.zero_mul, Nat.add_zero] at this
    exact this
  have g0 : nxN z.N 0 = nd0'.nx := (nd_get hn0).1
  have hsm := I.small
  obtain ⟨n, hn⟩ : ∃ n, z.L.length = n := ⟨_, rfl⟩
  have hR : (z.L.map (·.i)).length = n := by rw [List.length_map, hn]
  have first : (z.L.map (·.i) ++ [0])[0]? = some nd0'.nx := by
    obtain ⟨y, hy⟩ : ∃ y, (z.L.map (·.i) ++ [0])[0]? = some y := ⟨_, List.getElem?_eq_getElem (by simp)⟩
    have := (ring_at I (p := 0) (x := 0) rfl hy).1
    rw [hy, ← this, g0]
  rw [acall_text [] Try.func11 (by kernel_rfl)]
  refine afuncT_ex rfl (by simp [Try.f11]) ?_
  simp [Try.f11, l2, ix0, ld0]
  refine W_loop (fun m st => ∃ (p i : Nat) (v : AV), m = n - p ∧ p ≤ n ∧ (z.L.map (·.i) ++ [0])[p]? = some i ∧ st.t.get 0 = some (.ptr b 0) ∧ st.t.get 4 = some (.int .i64 (i : Nat)) ∧ st.t.get 3 = some v ∧ Mine 1 p st.h v (ks (z.L.take p)) ∧ (∀ d, Has v d → h.next ≤ d) ∧ Keep h.next nob h st.h) n (by omega)
    ⟨0, nd0'.nx, .nils, rfl, Nat.zero_le _, first, by simp, by simp, by simp, Mine.nil 1 h, fun d hd => (by cases hd), Keep.refl _ _ _⟩ ?_
  rintro m ⟨t, h1⟩ ⟨p, i, v, rfl, hp, hi, q0, q4, q3, Mv, hv, K1⟩
  simp only at q0 q4 q3 Mv K1
  have O1 := O.ext K1
  obtain ⟨O31, _, _⟩ := sto_ld O1
  obtain ⟨_, _, l21, _⟩ := st3_ld O31
  have M1 := st3_nv O31
  by_cases hlt : p < n
  · obtain ⟨y, hy⟩ : ∃ y, z.L[p]? = some y := ⟨_, List.getElem?_eq_getElem (by omega)⟩
    have hym := List.mem_of_getElem? hy
    have hiy : (z.L.map (·.i))[p]? = some y.i := by rw [List.getElem?_map, hy]; rfl
    have e : i = y.i := by
      rw [List.getElem?_append_left (by omega), hiy] at hi
      exact (Option.some.inj hi).symm
    subst e
    obtain ⟨nd', hnd', nk, nci, nch, npin, il, i0⟩ := I.node hym
    have ix := nd_idx M1 il
    have kd := nd_ld M1 hnd' (o := 0) (x := .str nd'.key) (by omega) rfl (ty := 9) ta9
    rw [nk, Nat.add_zero] at kd
    obtain ⟨v', h2, a2, M2, F2, K2⟩ := Mv.push (P := Try.prog) el26 (a := [.str y.key]) (ex := true) rfl rfl (by omega)
    have K12 : Keep h.next nob h h2 := K1.trans (K2.weak K1.1 fun d hd q => by have := hv d q; omega)
    have O2 := O.ext K12
    obtain ⟨O32, _, _⟩ := sto_ld O2
    obtain ⟨_, _, l22, _⟩ := st3_ld O32
    have M2' := st3_nv O32
    have ix2 := nd_idx M2' il
    have nx2 := nd_ld M2' hnd' (o := 4) (x := .int .i64 (nd'.nx : Nat)) (by omega) rfl (ty := 3) ta3
    have hnx : (z.L.map (·.i) ++ [0])[p + 1]? = some nd'.nx := by
      obtain ⟨y2, hy2⟩ : ∃ y2, (z.L.map (·.i) ++ [0])[p + 1]? = some y2 := ⟨_, List.getElem?_eq_getElem (by simp; omega)⟩
      have := (ring_at I (p := p + 1) (x := y.i) (by simpa using hiy) hy2).1
      rw [hy2, ← this, (nd_get hnd').1]
    simp [q0, q4, q3, l21, ix, kd, aalloc, afill, a2, l22, ix2, nx2, i0, (show ¬ ((y.i : Nat) : Int) = 0 by omega)]
    refine ⟨n - (p + 1), by omega, p + 1, rfl, by omega, nd'.nx, hnx, rfl, ?_, fun d hd => ?_, K12⟩
    · have : ks (z.L.take (p + 1)) = ks (z.L.take p) ++ [.str y.key] := by
        unfold ks
        rw [List.take_add_one, hy, List.map_append]
        rfl
      rw [this]
      exact M2
    · rcases F2 d hd with q | q
      · exact hv d q
      · exact Nat.le_trans K1.1 q
  · have e : p = n := by omega
    subst e
    have : i = 0 := by
      rw [List.getElem?_append_right (by omega), hR] at hi
      simp at hi
      exact hi.symm
    subst this
    rw [List.take_of_length_le (by omega)] at Mv
    simp [q0, q4, q3]
    rw [hn]
    exact ⟨Mv, hv, K1⟩
set_option maxHeartbeats 1000000 in
theorem oldest_ok (I : StI P Q z) (k : Nat) (hk : 300000 < k) (O : Hold h (z.th b)) (cls : Nat) :
    acall Try.prog (k + 1) 31 [.ptr b 0, .int .i64 (cls : Nat)] h = some (.int .i64 ((((oldI cls z.L).map (·.i)).getD 0 : Nat) : Int), h) := by
  obtain ⟨O3, _, _⟩ := sto_ld O
  obtain ⟨_, _, l2, _⟩ := st3_ld O3
  have M := st3_nv O3
  have n0 : 0 < z.N.length := I.ring.lt 0 (by simp)
  obtain ⟨nd0', hn0⟩ : ∃ n, z.N[0]? = some n := ⟨_, List.getElem?_eq_getElem n0⟩
  have ix0 : aindex Try.prog 72 z.nv (.int .i64 0) = some (.ptr z.nv.blk z.nv.off) := by
    have := nd_idx M n0
    rw [Nat.zero_mul, Nat.add_zero] at this
    exact this
  have ld0 : aload Try.prog h 3 z.nv.blk (z.nv.off + 5) = some (.int .i64 (nd0'.pv : Nat)) := by
    have := nd_ld M hn0 (o := 5) (x := .int .i64 (nd0'.pv : Nat)) (by omega) rfl (ty := 3) ta3
    rw [Nat.zero_mul, Nat.add_zero] at this
    exact this
  have g0 : pvN z.N 0 = nd0'.pv := (nd_get hn0).2.1
  have hsm := I.small
  obtain ⟨n, hn⟩ : ∃ n, z.L.length = n := ⟨_, rfl⟩
  have hR : (z.L.map (·.i)).length = n := by rw [List.length_map, hn]
  have first : (0 :: z.L.map (·.i))[n]? = some nd0'.pv := by
    obtain ⟨x, hx⟩ : ∃ x, (0 :: z.L.map (·.i))[n]? = some x := ⟨_, List.getElem?_eq_getElem (by simp; omega)⟩
    have := (ring_at I (p := n) (x := x) (y := 0) hx (by rw [List.getElem?_append_right (by omega), hR]; simp)).2
    rw [hx, ← this, g0]
  obtain ⟨r, hr⟩ : ∃ r, ((oldI cls z.L).map (·.i)).getD 0 = r := ⟨_, rfl⟩
  rw [hr]
  rw [acall_text [] Try.func31 (by kernel_rfl)]
  refine afuncT_of rfl (by simp [Try.f31]) ?_
  simp [Try.f31, l2, ix0, ld0]
  refine W_cutLoop 0 (fun st => st.h = h ∧ st.t.get 5 = some (.int .i64 (r : Nat))) ?_ ?_
  · refine W_loop (fun m st => ∃ (i : Nat), m ≤ n ∧ (0 :: z.L.map (·.i))[m]? = some i ∧ (∀ y, y ∈ z.L.drop m → ¬ (y.pin = false ∧ y.ci = cls)) ∧ st.h = h ∧ st.t.get 0 = some (.ptr b 0) ∧ st.t.get 1 = some (.int .i64 (cls : Nat)) ∧ st.t.get 5 = some (.int .i64 0) ∧ st.t.get 6 = some (.int .i64 (i : Nat))) n (by omega)
      ⟨nd0'.pv, Nat.le_refl _, first, fun y hy => (by rw [List.drop_of_length_le (by omega)] at hy; cases hy), rfl, by simp, by simp, by simp, by simp⟩ ?_
    rintro m ⟨t, h1⟩ ⟨i, hm, hi, hd, rfl, q0, q1, q5, q6⟩
    simp only at q0 q1 q5 q6
    cases m with
    | zero =>
      simp at hi
      subst hi
      have : oldI cls z.L = none := oldI_none (by simpa using hd)
      rw [this] at hr
      simp at hr
      subst hr
      simp [q0, q1, q5, q6]
    | succ m =>
      obtain ⟨y, hy⟩ : ∃ y, z.L[m]? = some y := ⟨_, List.getElem?_eq_getElem (by omega)⟩
      have hym := List.mem_of_getElem? hy
      have hiy : (z.L.map (·.i))[m]? = some y.i := by rw [List.getElem?_map, hy]; rfl
      have e : i = y.i := by
        rw [List.getElem?_cons_succ, hiy] at hi
        exact (Option.some.inj hi).symm
      subst e
      obtain ⟨nd', hnd', nk, nci, nch, npin, il, i0⟩ := I.node hym
      have ix := nd_idx M il
      have pd := nd_ld M hnd' (o := 3) (x := .bool nd'.pin) (by omega) rfl (ty := 4) ta4
      rw [npin] at pd
      have cd := nd_ld M hnd' (o := 1) (x := .int .i64 (nd'.ci : Nat)) (by omega) rfl (ty := 3) ta3
      rw [nci] at cd
      have vd := nd_ld M hnd' (o := 5) (x := .int .i64 (nd'.pv : Nat)) (by omega) rfl (ty := 3) ta3
      have dr : z.L.drop m = y :: z.L.drop (m + 1) := by
        obtain ⟨a1, a2⟩ := List.getElem?_eq_some_iff.1 hy
        rw [List.drop_eq_getElem_cons a1, a2]
      have hpv : (0 :: z.L.map (·.i))[m]? = some nd'.pv := by
        obtain ⟨x, hx⟩ : ∃ x, (0 :: z.L.map (·.i))[m]? = some x := ⟨_, List.getElem?_eq_getElem (by simp; omega)⟩
        have := (ring_at I (p := m) (x := x) (y := y.i) hx (by rw [List.getElem?_append_left (by omega)]; exact hiy)).2
        rw [hx, ← this, (nd_get hnd').2.1]
      have i0' : ¬ ((y.i : Nat) : Int) = 0 := by omega
      have next : ¬ (y.pin = false ∧ y.ci = cls) → ∀ w, w ∈ z.L.drop m → ¬ (w.pin = false ∧ w.ci = cls) := fun q w hw => by
        rw [dr] at hw
        rcases List.mem_cons.1 hw with z | z
        · rw [z]; exact q
        · exact hd w z
      cases hp : y.pin with
      | true =>
        rw [hp] at pd
        simp [q0, q1, q5, q6, i0, i0', l2, ix, pd, vd]
        exact ⟨m, Nat.lt_succ_self _, by omega, nd'.pv, hpv, by simpa using next (by simp [hp]), rfl⟩
      | false =>
        rw [hp] at pd
        by_cases hc : y.ci = cls
        · have old : oldI cls z.L = some y := by
            have := oldI_some (A := z.L.take m) (B := z.L.drop (m + 1)) hp hc hd
            rw [← dr, List.take_append_drop] at this
            exact this
          rw [old] at hr
          simp at hr
          subst hr
          simp [q0, q1, q5, q6, i0, i0', l2, ix, pd, cd, hc]
        · simp [q0, q1, q5, q6, i0, i0', l2, ix, pd, cd, vd, hc, (show ¬ ((y.ci : Nat) : Int) = (cls : Int) by omega)]
          exact ⟨m, Nat.lt_succ_self _, by omega, nd'.pv, hpv, by simpa using next (by simp [hc]), rfl⟩
  · rintro ⟨t, h1⟩ ⟨rfl, q5⟩
    simp only at q5
    simp [q5]
end
end Go.Proofs.Ytelnkdgpghndgaa
/- item.Store: Put. -/
namespace Go.Proofs.Ytelnkdgpghndgaa
open Go Go.YtelnkdgpghndgaaAbs
set_option linter.unusedSimpArgs false
set_option linter.unusedVariables false
set_option maxRecDepth 4000

/-- What Put does behind Drop, where there is a class. -/
inductive PutL (key data : ByteArray) (pin : Bool) (cls : Nat) : List Itm → Sb → List ByteArray → Nat → List Itm → Sb → Prop
  | ok {L : List Itm} {s s' : Sb} {ci K : Nat} (i : Nat) (A : AllocP s (key ++ data) ci K 0 s') : PutL key data pin cls L s [] 0 (⟨key, data, ci, K, pin, i⟩ :: L) s'
  | stop {L : List Itm} {s : Sb} {a c : Nat} (A : AllocP s (key ++ data) a c 6 s) (o : oldI cls L = none) : PutL key data pin cls L s [] 6 L s
  | go {A B L' : List Itm} {y : Itm} {s s1 s' : Sb} {a c er : Nat} {w : List ByteArray} (Al : AllocP s (key ++ data) a c 6 s) (o : oldI cls (A ++ y :: B) = some y) (f : FreeP s y.ci y.ch s1) (n : PutL key data pin cls (A ++ B) s1 w er L' s') : PutL key data pin cls (A ++ y :: B) s (y.key :: w) er L' s'
/-- What Put does. -/
inductive PutR (key data : ByteArray) (pin : Bool) : List Itm → Sb → List ByteArray → Nat → List Itm → Sb → Prop
  | long {L L1 : List Itm} {s s1 : Sb} (d : DropR key L s L1 s1) (hc : clsE ((key ++ data).size : Nat) s1.cls = none) : PutR key data pin L s [] 2 L1 s1
  | some {L L1 L' : List Itm} {s s1 s' : Sb} {cls er : Nat} {w : List ByteArray} (d : DropR key L s L1 s1) (hc : clsE ((key ++ data).size : Nat) s1.cls = some cls) (p : PutL key data pin cls L1 s1 w er L' s') : PutR key data pin L s w er L' s'
theorem AllocP.same {s s' : Sb} {d : ByteArray} {a c : Nat} (A : AllocP s d a c 6 s') : s' = s := by cases A; rfl
theorem AllocP.er {s s' : Sb} {d : ByteArray} {a c er cls : Nat} (A : AllocP s d a c er s') (h : clsE (d.size : Nat) s.cls = some cls) : er = 0 ∨ er = 6 := by
  cases A with
  | ok => exact .inl rfl
  | long hc => rw [hc] at h; cases h
  | full => exact .inr rfl
theorem DropR.gone {key : ByteArray} {L L' : List Itm} {s s' : Sb} (D : DropR key L s L' s') (nd : (L.map (·.key)).Nodup) : findK key L' = none := by
  cases D with
  | no h => exact h
  | yes hk hf =>
    rw [findK_cut nd, if_pos hk.symm]
theorem StI.add {P Q : Nat} {z : Sto} (I : StI P Q z) {key data : ByteArray} {ci K : Nat} {s1 : Sb} (A : AllocP z.s (key ++ data) ci K 0 s1) (hf : findK key z.L = none) (hk : key.size ≤ 1000) {pin : Bool} {N1 : List Nd} {F1 : List Nat} {i : Nat} {n : Nd}
    (hR : Ring N1 (z.L.map (·.i))) (hD : ∀ j, j ∈ z.L.map (·.i) → datN N1 j = datN z.N j) (hi : i ∉ 0 :: z.L.map (·.i)) (hil : i < N1.length) (hn : N1[i]? = some n) (nk : n.key = key) (nc : n.ci = ci) (nK : n.ch = K) (np : n.pin = pin)
    (hF : F1.Nodup) (hFi : i ∉ F1) (hFs : ∀ j, j ∈ F1 → j ∈ z.F) (hcnt : N1.length = 1 + (z.L.length + 1) + F1.length) (hnl : z.N.length ≤ N1.length) (hnb : N1.length ≤ 65537)
    {x : Cn} (C : CnI (z.L.length + 1) x) (hcl : x.c.len = z.L.length + 1) (hg : ∀ j, x.c.get j = if j = key then some (i : Int) else z.x.c.get j) (fv' nv' : AV) :
    StI P Q ⟨z.sb, s1, z.vc, z.cb, x, nv', fv', inN N1 i, F1, ⟨key, data, ci, K, pin, i⟩ :: z.L⟩ := by
  obtain ⟨p1, R1⟩ := hR.in hi hil
  obtain ⟨r1, r2, r3, r4⟩ := A.read I.sl
  have hno := findK_none.1 hf
  refine ⟨A.alloc I.sl, C, hcl, R1, fun y q => ?_, hF, fun j hj => ?_, ?_, ?_, fun k => ?_, ?_, fun y q => ?_, fun y q => ?_, ?_, ?_⟩
  · show datN (inN N1 i) y.i = _
    rw [in_dat]
    rcases List.mem_cons.1 q with q | q
    · subst q
      unfold datN
      rw [hn]
      simp [nk, nc, nK, np]
    · rw [hD _ (List.mem_map.2 ⟨y, q, rfl⟩)]
      exact I.dat y q
  · show 0 < j ∧ j < (inN N1 i).length ∧ j ∉ i :: z.L.map (·.i)
    rw [in_len]
    obtain ⟨s1, s2, s3⟩ := I.sp j (hFs j hj)
    refine ⟨s1, by omega, fun q => ?_⟩
    rcases List.mem_cons.1 q with q | q
    · exact hFi (q ▸ hj)
    · exact s3 q
  · show (inN N1 i).length = 1 + (z.L.length + 1) + F1.length
    rw [in_len]; exact hcnt
  · show (inN N1 i).length ≤ 65537
    rw [in_len]; exact hnb
  · show x.c.get k = (findK k (⟨key, data, ci, K, pin, i⟩ :: z.L)).map _
    rw [hg, findK_cons]
    by_cases q : k = key
    · subst q
      rw [if_pos rfl, if_pos rfl]
      rfl
    · rw [if_neg q, if_neg (fun e => q e.symm)]
      exact I.get k
  · show (key :: z.L.map (·.key)).Nodup
    rw [List.nodup_cons]
    exact ⟨fun q => by
      obtain ⟨y, hy, e⟩ := List.mem_map.1 q
      exact hno y hy e, I.nd⟩
  · rcases List.mem_cons.1 q with q | q
    · subst q; exact hk
    · exact I.ks y q
  · show rdS s1 y.ci y.ch = _
    rw [r3]
    rcases List.mem_cons.1 q with q | q
    · subst q
      rw [if_pos ⟨rfl, rfl⟩]
    · rw [if_neg]
      · exact I.rd y q
      · rintro ⟨e1, e2⟩
        have := I.rd y q
        rw [e1, e2, r1] at this
        cases this
  · show ((ci, K) :: z.L.map fun y => (y.ci, y.ch)).Nodup
    rw [List.nodup_cons]
    refine ⟨fun q => ?_, I.hn⟩
    obtain ⟨y, hy, e⟩ := List.mem_map.1 q
    have := I.rd y hy
    rw [(Prod.mk.inj e).1, (Prod.mk.inj e).2, r1] at this
    cases this
  · show liveN s1.cls = z.L.length + 1
    rw [r4, I.live]
section
variable {P Q : Nat} {z : Sto} {h : Heap} {b : Nat}
/-- What Put holds beside the store: the keys that went, and the handle. -/
abbrev pth (wv : AV) (w : List ByteArray) (hb ci K : Nat) : List Th := [(wv, .vec 1 w.length (w.map AV.str)), (.ptr hb 0, .blk [.int .i64 (ci : Nat), .int .i64 (K : Nat)])]
def PRow (b sb cb : Nat) (nv fv : AV) (N : List Nd) (F : List Nat) (s : Sb) (vc : AV) (x : Cn) (wv : AV) (w : List ByteArray) (hb ci K : Nat) : List Th := (st3 b sb cb nv fv N F ++ (s.th sb vc ++ x.th cb)) ++ pth wv w hb ci K
/-- What holds at the loop: an Alloc was tried. -/
def PInv (P Q : Nat) (h : Heap) (b : Nat) (z : Sto) (key data : ByteArray) (pin : Bool) (cls : Nat) (L0 : List Itm) (s0 : Sb) (th0 : List Th) (er m : Nat) (st : St) : Prop :=
  ∃ (z1 : Sto) (s1 : Sb) (w : List ByteArray) (wv : AV) (hb ci K : Nat), m = z1.L.length ∧ StI P Q z1 ∧ findK key z1.L = none ∧ clsE ((key ++ data).size : Nat) z1.s.cls = some cls ∧ AllocP z1.s (key ++ data) ci K er s1 ∧ w.length + z1.L.length ≤ 70000 ∧
    (∀ w' er' L' s', PutL key data pin cls z1.L z1.s w' er' L' s' → PutL key data pin cls L0 s0 (w ++ w') er' L' s') ∧
    st.t.get 0 = some (.ptr b 0) ∧ st.t.get 1 = some (.str key) ∧ st.t.get 2 = some (.str data) ∧ st.t.get 3 = some (.bool pin) ∧ st.t.get 10 = some (.int .i64 (cls : Nat)) ∧ st.t.get 11 = some wv ∧ st.t.get 12 = some (.ptr hb 0) ∧ st.t.get 13 = some (.int .i64 (er : Nat)) ∧
    Stp h th0 st.h (({ z1 with s := s1 }).th b ++ pth wv w hb ci K)
theorem blk2_set {h : Heap} {hb : Nat} {C C' : List AV} (H : Holds h (.ptr hb 0) (.blk C)) (e : C'.length = C.length) : ∃ h', alay h hb 0 C' = some h' ∧ Keep h.next (Has (.ptr hb 0)) h h' ∧ Holds h' (.ptr hb 0) (.blk C') := by
  obtain ⟨b', e', lt, g⟩ := H
  cases e'
  refine ⟨h.set hb (.cells C' false), ?_, Keep.set (F := Has (.ptr hb 0)) (.inl rfl) _, ⟨hb, rfl, lt, get_set_self _ _ _⟩⟩
  unfold alay
  rw [g]
  simp only
  rw [layAt_all C 0 C' (by omega), e]
  simp
theorem clsE_sizes {n : Int} {L M : List Cl} (h : L.map (·.size) = M.map (·.size)) : clsE n L = clsE n M := by rw [clsE_S, clsE_S, h]
set_option maxHeartbeats 4000000 in
theorem iput_ok (I : StI P Q z) (k : Nat) (hk : 400000 < k) (O : Hold h (z.th b)) (key data : ByteArray) (hm : key.size ≤ 1000) (hd : data.size ≤ 900000) (pin : Bool) :
    ∃ (z' : Sto) (w : List ByteArray) (wv : AV) (er : Nat) (h' : Heap), acall Try.prog (k + 6) 9 [.ptr b 0, .str key, .str data, .bool pin] h = some (.tup [wv, .int .i64 (er : Nat)], h') ∧ Stp h (z.th b) h' (z'.th b ++ [(wv, .vec 1 w.length (w.map AV.str))]) ∧ StI P Q z' ∧ PutR key data pin z.L z.s w er z'.L z'.s := by
  suffices main : ∃ v' h', acall Try.prog (k + 6) 9 [.ptr b 0, .str key, .str data, .bool pin] h = some (v', h') ∧ ∃ (z' : Sto) (w : List ByteArray) (wv : AV) (er : Nat), v' = .tup [wv, .int .i64 (er : Nat)] ∧ Stp h (z.th b) h' (z'.th b ++ [(wv, .vec 1 w.length (w.map AV.str))]) ∧ StI P Q z' ∧ PutR key data pin z.L z.s w er z'.L z'.s by
    obtain ⟨v', h', E, z', w, wv, er, rfl, a, c, d⟩ := main
    exact ⟨z', w, wv, er, h', E, a, c, d⟩
  obtain ⟨z0, h1, E1, S1, I1, D1⟩ := idrop_ok I k (by omega) O key hm
  have f1 := D1.gone I.nd
  have O1 := S1.own
  obtain ⟨O13, O1S, _⟩ := sto_ld O1
  obtain ⟨l10, _, _, _⟩ := st3_ld O13
  obtain ⟨n, hn⟩ : ∃ n, n = (key ++ data).size := ⟨_, rfl⟩
  have hn' : n = key.size + data.size := by rw [hn, ByteArray.size_append]
  have wn : fwrap .i64 ((key.size : Int) + data.size) = (n : Nat) := by rw [i64w _ (by omega) (by omega)]; omega
  obtain ⟨h2, E2, K2⟩ := s_class I1.sl (k + 4) (by omega) O1S n
  have S2 := S1.ext K2
  have O2 := S2.own
  obtain ⟨O23, O2S, _⟩ := sto_ld O2
  obtain ⟨l20, _, _, _⟩ := st3_ld O23
  rw [acall_text [] Try.func9 (by kernel_rfl)]
  refine afuncT_ex rfl (by simp [Try.f9]) ?_
  cases hc : clsE (n : Nat) z0.s.cls with
  | none =>
    have cz : clsZ (n : Nat) z0.s.cls = -1 := by unfold clsZ; rw [hc]
    rw [cz] at E2
    simp [Try.f9, E1, l10, wn, E2]
    exact ⟨z0, [], .nils, 2, ⟨rfl, rfl⟩, S2.snoc (Keep.refl _ _ _) (v := .nils) (o := .vec 1 0 []) (Mine.nil 1 _) (fun d hd => by cases hd), I1, .long D1 (by rw [← hn]; exact hc)⟩
  | some cls =>
    have cz : clsZ (n : Nat) z0.s.cls = (cls : Nat) := by unfold clsZ; rw [hc]
    rw [cz] at E2
    have cat0 : key.size + data.size ≤ 9223372036854775807 := by omega
    obtain ⟨ci, K, er, s3, h3, E3, A3, T3⟩ := s_alloc I1.sl (k + 3) (by omega) (key ++ data) (by rw [← hn]; omega) O2S
    have S3 : Stp h (z.th b) h3 (({ z0 with s := s3 }).th b) := S2.opB ((Stp.refl (own_append.1 O2).2.1).op T3)
    have rwh : (AV.agg [.int .i64 (ci : Nat), .int .i64 (K : Nat)]).row1 = some [.int .i64 (ci : Nat), .int .i64 (K : Nat)] := rfl
    have lyh : alay (h3.new (.cells [.int .i64 0, .int .i64 0] false)) h3.next 0 [.int .i64 (ci : Nat), .int .i64 (K : Nat)] = some (h3.new (.cells [.int .i64 (ci : Nat), .int .i64 (K : Nat)] false)) := alay_new rfl
    have S4 : Stp h (z.th b) (h3.new (.cells [.int .i64 (ci : Nat), .int .i64 (K : Nat)] false)) (({ z0 with s := s3 }).th b ++ pth .nils [] h3.next ci K) := by
      have a := S3.snoc (Keep.refl _ _ _) (v := .nils) (o := .vec 1 0 []) (Mine.nil 1 h3) (fun d hd => by cases hd)
      have c := a.snoc (Keep.new (Nat.le_refl _) (.cells [.int .i64 (ci : Nat), .int .i64 (K : Nat)] false)) (v := .ptr h3.next 0) (o := .blk [.int .i64 (ci : Nat), .int .i64 (K : Nat)]) (hold_new h3 _) (fun d hd => by cases hd; exact Nat.le_refl _)
      rw [List.append_assoc] at c
      exact c
    simp [Try.f9, E1, l10, wn, E2, l20, cat0, E3, rwh, lyh, isLe (show (0 : Int) ≤ (cls : Int) by omega)]
    have hsm := I1.small
    refine W_loop (fun m st => ∃ er, PInv P Q h b z0 key data pin cls z0.L z0.s (z.th b) er m st) z0.L.length (by omega) ⟨er, by
      unfold PInv
      exact ⟨z0, s3, [], .nils, h3.next, ci, K, rfl, I1, f1, by rw [← hn]; exact hc, A3, by simp; omega, fun w' er' L' s' q => q, by simp, by simp, by simp, by simp, by simp, by simp, by simp, by simp, S4⟩⟩ ?_
    clear E1 E2 E3 A3 T3 S4 lyh rwh S3 O2 O23 O2S l20 K2 S2 l10 O13 O1S O1 S1 er
    rintro m ⟨t, h3⟩ ⟨er, hP⟩
    unfold PInv at hP
    obtain ⟨z1, s1, w, wv, hb, ci, K, rfl, I2, f2, hc2, A2, hw, cont, q0, q1, q2, q3, q10, q11, q12, q13, S⟩ := hP
    simp only at q0 q1 q2 q3 q10 q11 q12 q13 S
    rcases A2.er hc2 with rfl | rfl
    · have O3 := S.a
      have OB := S.b
      have O33 : Hold h3 (st3 b z1.sb z1.cb z1.nv z1.fv z1.N z1.F) := (sto_ld O3).1
      obtain ⟨_, _, l2, l3⟩ := st3_ld O33
      have M3 : Mine 6 z1.N.length h3 z1.nv (cat Nd.c z1.N) := st3_nv O33
      have MF : Mine 1 z1.F.length h3 z1.fv (z1.F.map nn) := st3_fv O33
      have lN := M3.sl.len'
      have lF := MF.sl.len'
      have hcnt := I2.cnt
      have hnb := I2.nb
      have hsm2 := I2.small
      have hlive := (A2.read I2.sl).2.2.2
      have hl2 := live_le (A2.alloc I2.sl)
      have hL2 := I2.live
      simp [q13, -W_cond]
      rw [W_cond]
      simp [q0, q1, q2, q3, q10, q11, q12, q13, l2, l3, lN, lF, -W_cond]
      refine W_cutN (fun st => ∃ (N1 : List Nd) (nv1 : AV) (F1 : List Nat) (fv1 : AV) (i : Nat), st.t.get 0 = some (.ptr b 0) ∧ st.t.get 1 = some (.str key) ∧ st.t.get 3 = some (.bool pin) ∧ st.t.get 11 = some wv ∧ st.t.get 12 = some (.ptr hb 0) ∧ st.t.get 15 = some (.int .i64 (i : Nat)) ∧
        Stp h (z.th b) st.h (PRow b z1.sb z1.cb nv1 fv1 N1 F1 s1 z1.vc z1.x wv w hb ci K) ∧ Ring N1 (z1.L.map (·.i)) ∧ (∀ j, j ∈ z1.L.map (·.i) → datN N1 j = datN z1.N j) ∧ i ∉ 0 :: z1.L.map (·.i) ∧ i < N1.length ∧
        F1.Nodup ∧ i ∉ F1 ∧ (∀ j, j ∈ F1 → j ∈ z1.F) ∧ N1.length = 1 + (z1.L.length + 1) + F1.length ∧ z1.N.length ≤ N1.length ∧ N1.length ≤ 65537) ?_ ?_
      · have R := I2.ring
        have R0 := R.nd
        have hi0 : z1.N.length ∉ 0 :: z1.L.map (·.i) := fun q => by have := R.lt _ q; omega
        by_cases hF : z1.F = []
        · have F0 : z1.F.length = 0 := by rw [hF]; rfl
          obtain ⟨nv', h4, a4, M4, Fr4, K4⟩ := M3.push (P := Try.prog) el72 (a := nd0.c) (ex := true) rfl rfl (by omega)
          have M4' : Mine 6 (z1.N ++ [nd0]).length h4 nv' (cat Nd.c (z1.N ++ [nd0])) := by
            rw [List.length_append, List.length_singleton, cat_append, cat_one]
            exact M4
          have T4 := (Stp.refl O33).upd (i := 1) (v := z1.nv) (o := .vec 6 z1.N.length (cat Nd.c z1.N)) rfl K4 (v' := nv') (o' := .vec 6 (z1.N ++ [nd0]).length (cat Nd.c (z1.N ++ [nd0]))) M4' Fr4
          obtain ⟨b', eb, bl4, bg4⟩ := T4.own.get (i := 0) (v := .ptr b 0) (o := .blk [.ptr z1.sb 0, .ptr z1.cb 0, z1.nv, z1.fv]) rfl
          cases eb
          have K5 : Keep h4.next (Has (.ptr b 0)) h4 (h4.set b (.cells [.ptr z1.sb 0, .ptr z1.cb 0, nv', z1.fv] false)) := Keep.set (F := Has (.ptr b 0)) (.inl rfl) _
          have a5 : alay h4 b 2 [nv'] = some (h4.set b (.cells [.ptr z1.sb 0, .ptr z1.cb 0, nv', z1.fv] false)) := by unfold alay; rw [bg4]; rfl
          have T5 := T4.upd (i := 0) (v := .ptr b 0) (o := .blk [.ptr z1.sb 0, .ptr z1.cb 0, z1.nv, z1.fv]) rfl K5 (v' := .ptr b 0) (o' := .blk [.ptr z1.sb 0, .ptr z1.cb 0, nv', z1.fv]) ⟨b, rfl, bl4, get_set_self _ _ _⟩ (From.refl _ _)
          have S5 : Stp h (z.th b) _ (PRow b z1.sb z1.cb nv' z1.fv (z1.N ++ [nd0]) z1.F s1 z1.vc z1.x wv w hb ci K) := S.op ((Stp.refl O3).op T5)
          have a4 : aappend Try.prog (h3.new (.cells [.str .empty, .int .i64 0, .int .i64 0, .bool false, .int .i64 0, .int .i64 0] false)) 72 72 z1.nv (.sl h3.next 0 1 1 6 true) = some (nv', h4) := a4
          have rwn := row1_one M4.oneV
          have rw0 : (AV.agg [.str .empty, .int .i64 0, .int .i64 0, .bool false, .int .i64 0, .int .i64 0]).row1 = some [.str .empty, .int .i64 0, .int .i64 0, .bool false, .int .i64 0, .int .i64 0] := rfl
          simp [eq_true hF, q0, q1, q3, q11, q12, l2, rw0, aalloc, afill, a4, rwn, a5]
          have e1 : ∀ j, j ∈ 0 :: z1.L.map (·.i) → (z1.N ++ [nd0])[j]? = z1.N[j]? := fun j hj => List.getElem?_append_left (R.lt j hj)
          refine ⟨z1.N ++ [nd0], nv', z1.F, z1.fv, z1.N.length, rfl, S5, R.frame (by simp) (fun j hj => ?_), fun y hy => ?_, ?_, by simp, I2.spn, by rw [hF]; simp, fun j hj => hj, ?_, by simp, ?_⟩
          · unfold nxN pvN
            rw [e1 j hj]
            exact ⟨rfl, rfl⟩
          · unfold datN
            rw [e1 _ (List.mem_cons_of_mem _ (List.mem_map.2 ⟨y, hy, rfl⟩))]
          · have := hi0
            simp only [List.mem_cons, not_or] at this
            refine ⟨this.1, fun y hy e => this.2 (List.mem_map.2 ⟨y, hy, e⟩)⟩
          · rw [List.length_append, List.length_singleton]; omega
          · rw [List.length_append, List.length_singleton]; omega
        · obtain ⟨n1, hn1⟩ : ∃ n1, z1.F.length = n1 + 1 := ⟨z1.F.length - 1, by have := List.length_pos_iff.2 hF; omega⟩
          obtain ⟨i, hi⟩ : ∃ i, z1.F[n1]? = some i := ⟨_, List.getElem?_eq_getElem (by omega)⟩
          have him := List.mem_of_getElem? hi
          obtain ⟨i1, i2, i3⟩ := I2.sp i him
          have ixf := MF.sl.idx1 (P := Try.prog) Try.underlying44 ts3 (j := n1) (by omega) .i64
          have ldf : aload Try.prog h3 3 z1.fv.blk (z1.fv.off + n1) = some (.int .i64 (i : Nat)) := MF.sl.ld ta3 (by rw [List.getElem?_map, hi]; rfl)
          obtain ⟨fv', s4, M4, at4⟩ := MF.to (P := Try.prog) (ty := 44) Try.underlying44 ts3 (k := .i64) (j := n1) (by omega)
          have hF1 : z1.F = z1.F.take n1 ++ [i] := by
            have := List.take_add_one (l := z1.F) (i := n1)
            rw [hi, List.take_of_length_le (by omega)] at this
            exact this
          have M4' : Mine 1 (z1.F.take n1).length h3 fv' ((z1.F.take n1).map nn) := by
            rw [List.length_take, Nat.min_eq_left (by omega), List.map_take]
            simpa using M4
          have Fr4 : From h3 z1.fv fv' := fun d hd => .inl (by unfold Has at hd ⊢; rw [← at4]; exact hd)
          have T4 := (Stp.refl O33).upd (i := 2) (v := z1.fv) (o := .vec 1 z1.F.length (z1.F.map nn)) rfl (Keep.refl _ _ _) (v' := fv') (o' := .vec 1 (z1.F.take n1).length ((z1.F.take n1).map nn)) M4' Fr4
          obtain ⟨b', eb, bl4, bg4⟩ := T4.own.get (i := 0) (v := .ptr b 0) (o := .blk [.ptr z1.sb 0, .ptr z1.cb 0, z1.nv, z1.fv]) rfl
          cases eb
          have K5 : Keep h3.next (Has (.ptr b 0)) h3 (h3.set b (.cells [.ptr z1.sb 0, .ptr z1.cb 0, z1.nv, fv'] false)) := Keep.set (F := Has (.ptr b 0)) (.inl rfl) _
          have a5 : alay h3 b 3 [fv'] = some (h3.set b (.cells [.ptr z1.sb 0, .ptr z1.cb 0, z1.nv, fv'] false)) := by unfold alay; rw [bg4]; rfl
          have T5 := T4.upd (i := 0) (v := .ptr b 0) (o := .blk [.ptr z1.sb 0, .ptr z1.cb 0, z1.nv, z1.fv]) rfl K5 (v' := .ptr b 0) (o' := .blk [.ptr z1.sb 0, .ptr z1.cb 0, z1.nv, fv']) ⟨b, rfl, bl4, get_set_self _ _ _⟩ (From.refl _ _)
          have S5 : Stp h (z.th b) _ (PRow b z1.sb z1.cb z1.nv fv' z1.N (z1.F.take n1) s1 z1.vc z1.x wv w hb ci K) := S.op ((Stp.refl O3).op T5)
          have rwn := row1_one M4.oneV
          have nd2 := I2.spn
          rw [hF1, List.nodup_append] at nd2
          have wF : fwrap .i64 ((n1 : Int) + 1 - 1) = (n1 : Nat) := by rw [i64w _ (by omega) (by omega)]; omega
          have wF2 : fwrap .i64 (n1 : Int) = (n1 : Nat) := i64w _ (by omega) (by omega)
          simp [eq_false hF, hn1, q0, q1, q3, q11, q12, l3, wF, wF2, ixf, ldf, s4, rwn, a5, isLt (show (0 : Int) < (n1 : Int) + 1 by omega)]
          refine ⟨z1.N, z1.nv, z1.F.take n1, fv', i, rfl, S5, R, fun y hy => rfl, ?_, i2, nd2.1, fun q => nd2.2.2 i q i (by simp) rfl, fun j hj => List.mem_of_mem_take hj, ?_, Nat.le_refl _, hnb⟩
          · refine ⟨by omega, fun y hy e => i3 (List.mem_map.2 ⟨y, hy, e⟩)⟩
          · rw [List.length_take]; omega
      · rintro ⟨t, h4⟩ ⟨N1, nv1, F1, fv1, i, q0, q1, q3, q11, q12, q15, S4, R4, D4, i4, il4, nF, iF, sF, cF, lF, bF⟩
        simp only at q0 q1 q3 q11 q12 q15 S4
        have S4 : Stp h (z.th b) h4 ((st3 b z1.sb z1.cb nv1 fv1 N1 F1 ++ (s1.th z1.sb z1.vc ++ z1.x.th z1.cb)) ++ pth wv w hb ci K) := S4
        have O4 := S4.a
        have O43 := (own_append.1 O4).1
        have M4 := st3_nv O43
        obtain ⟨_, _, l24, _⟩ := st3_ld O43
        have ix4 := nd_idx M4 il4
        obtain ⟨hb', eh, hlt, hg⟩ := S4.b.get (i := 1) (v := .ptr hb 0) (o := .blk [.int .i64 (ci : Nat), .int .i64 (K : Nat)]) rfl
        cases eh
        have lh : aload Try.prog h4 58 hb 0 = some (.agg [.int .i64 (ci : Nat), .int .i64 (K : Nat)]) := by simp [aload, Heap.row, hg, ta58, ts58]
        obtain ⟨h5, a5, M5, K5, n5⟩ := nd_layN M4 il4 ⟨key, ci, K, pin, 0, 0⟩
        obtain ⟨n, hn0⟩ : ∃ n : Nd, n = ⟨key, ci, K, pin, 0, 0⟩ := ⟨_, rfl⟩
        rw [← hn0] at M5
        have S5 := S4.op ((Stp.refl O4).op (st3_set O43 M5 K5))
        have a5 : alay h4 nv1.blk (nv1.off + i * 6) [.str key, .int .i64 (ci : Nat), .int .i64 (K : Nat), .bool pin, .int .i64 0, .int .i64 0] = some h5 := a5
        obtain ⟨R5, D5⟩ := ring_far (n := n) R4 i4
        have il5 : i < (N1.set i n).length := by rw [List.length_set]; exact il4
        obtain ⟨p5, _⟩ := R5.in i4 il5
        obtain ⟨h6, E6, T6⟩ := in_ok (k + 4) h5 b z1.sb z1.cb nv1 fv1 (N1.set i n) F1 (own_append.1 S5.a).1 i il5 (by omega) p5
        have S6 := S5.op ((Stp.refl S5.a).op T6)
        have O63 := (own_append.1 S6.a).1
        obtain ⟨_, l16, _, _⟩ := st3_ld O63
        have gk : z1.x.c.get key = none := by rw [I2.get, f2]; rfl
        obtain ⟨x7, h7, E7, T7, C7, g7, ln7⟩ := t_put I2.cn (by omega) (k + 2) (by omega) (own_append.1 (own_append.1 S6.a).2.1).2.1 key hm (i : Int)
        rw [gk] at E7 ln7
        simp at E7 ln7
        have S7 := S6.op ((Stp.refl S6.a).opB ((Stp.refl (own_append.1 S6.a).2.1).opB T7))
        have rwh : (AV.agg [.int .i64 (ci : Nat), .int .i64 (K : Nat)]).row1 = some [.int .i64 (ci : Nat), .int .i64 (K : Nat)] := rfl
        have rwn : (AV.agg [.str key, .int .i64 (ci : Nat), .int .i64 (K : Nat), .bool pin, .int .i64 0, .int .i64 0]).row1 = some [.str key, .int .i64 (ci : Nat), .int .i64 (K : Nat), .bool pin, .int .i64 0, .int .i64 0] := rfl
        have I7 := StI.add I2 A2 f2 hm (pin := pin) (N1 := N1.set i n) (F1 := F1) (i := i) (n := n) R5 (fun j hj => by rw [D5 j hj, D4 j hj]) i4 il5 (List.getElem?_set_self il4) (by rw [hn0]) (by rw [hn0]) (by rw [hn0]) (by rw [hn0]) nF iF sF (by rw [List.length_set]; exact cF) (by rw [List.length_set]; exact lF) (by rw [List.length_set]; exact bF) C7 (by rw [ln7, I2.cl]) g7 fv1 nv1
        have S8 : Stp h (z.th b) h7 (Sto.th ⟨z1.sb, s1, z1.vc, z1.cb, x7, nv1, fv1, inN (N1.set i n) i, F1, ⟨key, data, ci, K, pin, i⟩ :: z1.L⟩ b ++ [(wv, .vec 1 w.length (w.map AV.str))]) := by
          have e : ∀ X : List Th, X ++ pth wv w hb ci K = (X ++ [(wv, .vec 1 w.length (w.map AV.str))]) ++ [(.ptr hb 0, .blk [.int .i64 (ci : Nat), .int .i64 (K : Nat)])] := fun X => by simp
          rw [e] at S7
          exact S7.drop
        have pl := cont [] 0 _ _ (.ok i A2)
        rw [List.append_nil] at pl
        simp [q0, q1, q3, q11, q12, q15, l24, ix4, lh, rwh, rwn, afill, a5, E6, l16, E7]
        exact ⟨_, w, wv, 0, ⟨rfl, rfl⟩, S8, I7, .some D1 (by rw [← hn]; exact hc) pl⟩
    · have e1 : s1 = z1.s := A2.same
      subst e1
      have OA : Hold h3 (z1.th b) := S.a
      have OB := S.b
      have E5 := oldest_ok I2 (k + 4) (by omega) OA cls
      cases ho : oldI cls z1.L with
      | none =>
        rw [ho] at E5
        simp at E5
        simp [q0, q1, q2, q3, q10, q11, q12, q13, E5]
        have S6 : Stp h (z.th b) h3 (z1.th b ++ [(wv, .vec 1 w.length (w.map AV.str))]) := by
          have : z1.th b ++ pth wv w hb ci K = (z1.th b ++ [(wv, .vec 1 w.length (w.map AV.str))]) ++ [(.ptr hb 0, .blk [.int .i64 (ci : Nat), .int .i64 (K : Nat)])] := by simp
          rw [this] at S
          exact S.drop
        have pl := cont [] 6 z1.L z1.s (.stop A2 ho)
        rw [List.append_nil] at pl
        exact ⟨z1, w, wv, 6, ⟨rfl, rfl⟩, S6, I2, .some D1 (by rw [← hn]; exact hc) pl⟩
      | some y =>
        obtain ⟨hy, yp, yc⟩ := oldI_at ho
        obtain ⟨A, B, hL⟩ := List.append_of_mem hy
        obtain ⟨nd, hnd, nk, nci, nch, npin, il, i0⟩ := I2.node hy
        rw [ho] at E5
        simp at E5
        obtain ⟨O3, _, _⟩ := sto_ld OA
        obtain ⟨_, _, l2, _⟩ := st3_ld O3
        have M3 := st3_nv O3
        have ix := nd_idx M3 il
        have kd := nd_ld M3 hnd (o := 0) (x := .str nd.key) (by omega) rfl (ty := 9) ta9
        rw [nk, Nat.add_zero] at kd
        have Mw : Mine 1 w.length h3 wv (w.map AV.str) := OB.get (i := 0) (v := wv) (o := .vec 1 w.length (w.map AV.str)) rfl
        obtain ⟨wv', h4, a4, M4, F4, K4⟩ := Mw.push (P := Try.prog) el26 (a := [.str y.key]) (ex := true) rfl rfl (by omega)
        have M4' : Mine 1 (w ++ [y.key]).length h4 wv' ((w ++ [y.key]).map AV.str) := by simpa using M4
        have S4 := S.opB ((Stp.refl OB).upd (i := 0) (v := wv) (o := .vec 1 w.length (w.map AV.str)) rfl K4 (v' := wv') (o' := .vec 1 (w ++ [y.key]).length ((w ++ [y.key]).map AV.str)) M4' F4)
        have S4 : Stp h (z.th b) h4 (z1.th b ++ pth wv' (w ++ [y.key]) hb ci K) := S4
        obtain ⟨z2, h5, E6, T5, I3, L3, F3⟩ := gone_ok I2 hL (k + 1) (by omega) h4 b S4.a
        have S5 := S4.op T5
        have O5 := S5.a
        obtain ⟨O53, O5S, _⟩ := sto_ld O5
        obtain ⟨l50, _, _, _⟩ := st3_ld O53
        obtain ⟨ci', K', er', s6, h6, E7, A6, T6⟩ := s_alloc I3.sl (k + 3) (by omega) (key ++ data) (by rw [← hn]; omega) O5S
        have S6 : Stp h (z.th b) h6 (({ z2 with s := s6 }).th b ++ pth wv' (w ++ [y.key]) hb ci K) := S5.op ((Stp.refl O5).opB ((Stp.refl (own_append.1 O5).2.1).op T6))
        obtain ⟨h7, a7, K7, H7⟩ := blk2_set (C' := [.int .i64 (ci' : Nat), .int .i64 (K' : Nat)]) (S6.b.get (i := 1) (v := .ptr hb 0) (o := .blk [.int .i64 (ci : Nat), .int .i64 (K : Nat)]) rfl) rfl
        have S7 : Stp h (z.th b) h7 (({ z2 with s := s6 }).th b ++ pth wv' (w ++ [y.key]) hb ci' K') := S6.opB ((Stp.refl S6.b).upd (i := 1) (v := .ptr hb 0) (o := .blk [.int .i64 (ci : Nat), .int .i64 (K : Nat)]) rfl K7 (v' := .ptr hb 0) (o' := .blk [.int .i64 (ci' : Nat), .int .i64 (K' : Nat)]) H7 (From.refl _ _))
        have rwh : (AV.agg [.int .i64 (ci' : Nat), .int .i64 (K' : Nat)]).row1 = some [.int .i64 (ci' : Nat), .int .i64 (K' : Nat)] := rfl
        have a4 : aappend Try.prog (h3.new (.cells [.str y.key] false)) 26 26 wv (.sl h3.next 0 1 1 1 true) = some (wv', h4) := a4
        simp [q0, q1, q2, q3, q10, q11, q12, q13, E5, i0, (show ¬ ((y.i : Nat) : Int) = 0 by omega), l2, ix, kd, aalloc, afill, a4, E6, l50, cat0, E7, rwh, a7]
        have len : z1.L.length = z2.L.length + 1 := by rw [hL, L3]; simp; omega
        refine ⟨z2.L.length, by omega, er', ?_⟩
        unfold PInv
        refine ⟨z2, s6, w ++ [y.key], wv', hb, ci', K', rfl, I3, ?_, ?_, A6, by simp; omega, fun w' er'' L' s' q => ?_, by simp [q0], by simp [q1], by simp [q2], by simp [q3], by simp [q10], by simp, by simp [q12], by simp, S7⟩
        · rw [L3]
          refine findK_none.2 fun v hv => findK_none.1 f2 v ?_
          rw [hL]
          rcases List.mem_append.1 hv with q | q
          · simp [q]
          · simp [q]
        · rw [clsE_sizes F3.sizes]; exact hc2
        · rw [List.append_assoc, List.singleton_append]
          refine cont _ _ _ _ ?_
          rw [hL] at ho ⊢
          rw [L3] at q
          exact .go A2 ho F3 q
end
end Go.Proofs.Ytelnkdgpghndgaa
/- item.New. -/
namespace Go.Proofs.Ytelnkdgpghndgaa
open Go Go.YtelnkdgpghndgaaAbs
set_option linter.unusedSimpArgs false
set_option linter.unusedVariables false
set_option maxRecDepth 4000

theorem inew_ok (k : Nat) (hk : 30 < k) (h : Heap) (P Q : Nat) (hP : 1 ≤ P) (hP2 : P ≤ 64) (hQ : 64 ≤ Q) (hQ2 : Q ≤ 65536) :
    ∃ (b : Nat) (z : Sto) (h' : Heap), acall Try.prog (k + 2) 8 [.int .i64 (P : Nat), .int .i64 (Q : Nat)] h = some (.tup [.ptr b 0, .int .i64 0], h') ∧ Wd h h' (z.th b) ∧ StI P Q z ∧ z.L = [] ∧ z.s.left = P ∧ z.s.used = 0 ∧ (∃ cls, z.s = ⟨Q, P, 0, cls⟩ ∧ FreshC cls ∧ 1 ≤ cls.length ∧ 64 * 2 ^ (cls.length - 1) ≤ Q ∧ Q < 64 * 2 ^ cls.length) := by
  suffices main : ∃ v' h', acall Try.prog (k + 2) 8 [.int .i64 (P : Nat), .int .i64 (Q : Nat)] h = some (v', h') ∧ ∃ (b : Nat) (z : Sto), v' = .tup [.ptr b 0, .int .i64 0] ∧ Wd h h' (z.th b) ∧ StI P Q z ∧ z.L = [] ∧ z.s.left = P ∧ z.s.used = 0 ∧ (∃ cls, z.s = ⟨Q, P, 0, cls⟩ ∧ FreshC cls ∧ 1 ≤ cls.length ∧ 64 * 2 ^ (cls.length - 1) ≤ Q ∧ Q < 64 * 2 ^ cls.length) by
    obtain ⟨v', h', E, b, z, rfl, q⟩ := main
    exact ⟨b, z, h', E, q⟩
  obtain ⟨sb, s, vc, h1, E1, W1, I1, r1, v1, f1, u1, cl1⟩ := s_new k hk h P Q hP hP2 hQ hQ2
  obtain ⟨h2, e2⟩ : ∃ h2, h1.bump 7 = h2 := ⟨_, rfl⟩
  have n2 : h2.next = h1.next + 7 := by rw [← e2]; rfl
  have K2 : Keep h1.next nob h1 h2 := ⟨by omega, fun c hc _ => by rw [← e2, get_bump _ _ _ hc]⟩
  obtain ⟨cb, x, h3, E3, T3, C3, g3, c3, K3, F3⟩ := t_new k h2
  have W3 : Wd h h3 (s.th sb vc ++ x.th cb) := (W1.ext K2).join ⟨T3.own, K3, F3⟩
  obtain ⟨h4, e4⟩ : ∃ h4, h3.at_ (h1.next + 2) (.cells nd0.c false) = h4 := ⟨_, rfl⟩
  have n4 : h4.next = h3.next := by rw [← e4]; rfl
  have g4 : h4.get (h1.next + 2) = some (.cells nd0.c false) := by rw [← e4, Heap.get_at, if_pos rfl]
  have K4 : Keep h3.next (fun d => d = h1.next + 2) h3 h4 := ⟨by omega, fun c hc hn => by rw [← e4, Heap.get_at, if_neg (fun q => hn q.symm)]⟩
  have hn3 := K3.1
  have hn1 := W1.kb.1
  have no3 : h3.get (h1.next + 2) = none := by rw [K3.2 _ (by omega) id, ← e2]; exact get_bump_none _ _ _ (by omega) (by omega)
  have fk : freeOk h1.next 0 h3 [2] = true := by simp [freeOk, no3]
  have nk : nextOk h1.next 7 h3 = true := by unfold nextOk; exact Nat.ble_eq_true_of_le (by omega)
  have nk5 : ∀ o : AO, nextOk h1.next 7 (h4.new o) = true := fun o => by
    unfold nextOk
    refine Nat.ble_eq_true_of_le ?_
    show h1.next + 7 ≤ h4.next + 1
    omega
  have far : ∀ d, Inn (s.th sb vc ++ x.th cb) d → d ≠ h1.next + 2 := fun d hd q => by
    rcases in_append.1 hd with z | z
    · have := W1.own.lt z; omega
    · have := F3 d z; omega
  have O4 : Hold h4 (s.th sb vc ++ x.th cb) := W3.own.keep K4 far
  obtain ⟨nv, hnv⟩ : ∃ nv, AV.sl (h1.next + 2) 0 1 1 6 true = nv := ⟨_, rfl⟩
  have M4 : Mine 6 1 h4 nv nd0.c := by rw [← hnv]; exact Mine.whole g4 (by omega) rfl rfl true
  have M4' : Holds h4 nv (.vec 6 [nd0].length (cat Nd.c [nd0])) := by
    show Mine 6 1 h4 nv (cat Nd.c [nd0])
    rw [cat_one]
    exact M4
  have O4n : Hold h4 ([(nv, .vec 6 [nd0].length (cat Nd.c [nd0]))] ++ (s.th sb vc ++ x.th cb)) := by
    refine own_append.2 ⟨⟨fun y hy => ?_, ?_⟩, O4, fun d hd hd' => ?_⟩
    · rw [List.mem_singleton.1 hy]
      exact M4'
    · rw [← hnv]
      show Apart [AV.sl (h1.next + 2) 0 1 1 6 true]
      unfold Apart
      simp [blks_cons]
    · have : Has nv d := by
        rcases in_cons.1 hd with z | z
        · exact z
        · exact (in_nil z).elim
      rw [← hnv] at this
      cases this
      exact far _ hd' rfl
  obtain ⟨h5, e5⟩ : ∃ h5, h4.new (.cells [.ptr sb 0, .ptr cb 0, nv, .nils] false) = h5 := ⟨_, rfl⟩
  have K5 : Keep h4.next nob h4 h5 := by rw [← e5]; exact Keep.new (Nat.le_refl _) _
  have H5 : Holds h5 (.ptr h4.next 0) (.blk [.ptr sb 0, .ptr cb 0, nv, .nils]) := by rw [← e5]; exact hold_new h4 _
  have O5 := (O4n.cons K5 H5 (fun d hd => by cases hd; exact Nat.le_refl _)).1
  have kb4 : Keep h.next nob h h4 := ⟨by have := W3.kb.1; omega, fun d hd _ => by rw [K4.2 d (by omega) (by omega), W3.kb.2 d hd id]⟩
  have kb5 : Keep h.next nob h h5 := kb4.trans (K5.weak kb4.1 fun _ _ q => q)
  have z0 : (Sto.mk sb s vc cb x nv .nils [nd0] [] []).th h4.next = (.ptr h4.next 0, .blk [.ptr sb 0, .ptr cb 0, nv, .nils]) :: (nv, .vec 6 [nd0].length (cat Nd.c [nd0])) :: (.nils, .vec 1 0 []) :: (s.th sb vc ++ x.th cb) := rfl
  have W5 : Wd h h5 ((Sto.mk sb s vc cb x nv .nils [nd0] [] []).th h4.next) := by
    have a : Wd h h5 ((.ptr h4.next 0, .blk [.ptr sb 0, .ptr cb 0, nv, .nils]) :: ([(nv, .vec 6 [nd0].length (cat Nd.c [nd0]))] ++ (s.th sb vc ++ x.th cb))) := by
      refine ⟨O5, kb5, fun d hd => ?_⟩
      rcases in_cons.1 hd with z | z
      · cases z
        exact kb4.1
      · rcases in_append.1 z with z | z
        · rcases in_cons.1 z with z | z
          · rw [← hnv] at z
            cases z
            omega
          · exact (in_nil z).elim
        · exact W3.nb d z
    have c := a.cons (Keep.refl _ _ _) (v := .nils) (o := .vec 1 0 []) (Mine.nil 1 h5) (fun d hd => by cases hd)
    rw [z0]
    refine c.perm ?_
    refine (List.Perm.swap _ _ _).trans ?_
    exact List.Perm.cons _ (List.Perm.swap _ _ _)
  have I5 : StI P Q (Sto.mk sb s vc cb x nv .nils [nd0] [] []) := by
    refine ⟨I1, C3, c3, ⟨by simp, fun i hi => ?_, ⟨rfl, rfl⟩⟩, (fun y q => by cases q), List.nodup_nil, (fun i hi => by cases hi), rfl, by show 1 ≤ 65537; omega, fun key => ?_, List.nodup_nil, (fun y q => by cases q), (fun y q => by cases q), List.nodup_nil, v1⟩
    · simp at hi
      subst hi
      show 0 < 1
      omega
    · rw [g3]
      rfl
  have rwn := row1_one M4.oneV
  have row4 : (AV.agg [.ptr sb 0, .ptr cb 0, nv, .nils]).row1 = some [.ptr sb 0, .ptr cb 0, nv, .nils] := by
    refine row1_agg ?_
    simp only [List.all_cons, M4.oneV]
    rfl
  rw [acall_text [4] Try.func8 (by kernel_rfl)]
  refine afuncT_ex rfl (by simp [Try.f8]) ?_
  simp [Try.f8, E1]
  refine W_late [0, 0, 0, 7, 15, 31, 63] [2] (by rfl) (by kernel_rfl) (by kernel_rfl) (by kernel_rfl) (by kernel_rfl) ?_
  simp [resv, memN, isStore, isEff, isAlloc, mayEff, alate_make, insFl, aalloc_makeC (P := Try.prog) el72 (z := nd0.c) az79 rfl rfl 1 1 (Nat.le_refl _) (by omega) (N := 1) (M := 1) rfl rfl, flat1, Nat.testBit_eq_decide_div_mod_eq, e2, E3, fk, nk, afill, e4, hnv, rwn, row4, nk5, e5]
  exact ⟨by unfold freeOk; rw [show (15 : Nat).testBit 2 = true from rfl]; rfl, by rw [← e5]; exact nk5 _, _, W5, I5, rfl, f1, u1, cl1⟩
end Go.Proofs.Ytelnkdgpghndgaa
/- depotbook.Same of texts. -/
namespace Go.Proofs.Ytelnkdgpghndgaa
open Go Go.YtelnkdgpghndgaaAbs
set_option linter.unusedSimpArgs false
set_option linter.unusedVariables false
set_option maxRecDepth 4000

theorem sameS_ok (k : Nat) (h : Heap) (v1 v2 : AV) (E : List ByteArray) (S1 : Sl 1 E.length h v1 (E.map ss)) (S2 : Sl 1 E.length h v2 (E.map ss)) (hk : E.length + 2 < k) (hm : E.length < 1000000) :
    acall Try.prog (k + 1) 14 [v1, v2] h = some (.bool true, h) := by
  rw [acall_text [] Try.func14 (by kernel_rfl)]
  refine afuncT_of rfl (by simp [Try.f14]) ?_
  have l1 := S1.len'
  have l2 := S2.len'
  obtain ⟨n, hn⟩ : ∃ n, E.length = n := ⟨_, rfl⟩
  rw [hn] at l1 l2 S1 S2 hk hm
  simp [Try.f14, l1, l2]
  refine W_loop (fun m st => ∃ j, m = n - j ∧ j ≤ n ∧ st.h = h ∧ st.t.get 0 = some v1 ∧ st.t.get 1 = some v2 ∧ st.t.get 5 = some (.int .i64 (j : Nat))) n (by omega) ⟨0, by simp⟩ ?_
  rintro m ⟨t, h'⟩ ⟨j, rfl, hj, rfl, q0, q1, q5⟩
  simp only at q0 q1 q5 S1 S2
  by_cases hlt : j < n
  · obtain ⟨x, hx⟩ : ∃ x, E[j]? = some x := ⟨E[j], by simp⟩
    have hx' : (E.map ss)[j]? = some (.str x) := by rw [List.getElem?_map, hx]; rfl
    have i1 := S1.idx1 (P := Try.prog) Try.underlying26 ts9 (j := j) hlt .i64
    have i2 := S2.idx1 (P := Try.prog) Try.underlying26 ts9 (j := j) hlt .i64
    have d1 : aload Try.prog h' 9 v1.blk (v1.off + j) = some (.str x) := S1.ld ta9 hx'
    have d2 : aload Try.prog h' 9 v2.blk (v2.off + j) = some (.str x) := S2.ld ta9 hx'
    simp [q0, q1, q5, l1, isLt (show (j : Int) < (n : Int) by omega), i1, d1, i2, d2, i64w ((j : Int) + 1) (by omega) (by omega)]
    exact ⟨n - (j + 1), by omega, j + 1, rfl, by omega, by simp⟩
  · simp [q0, q1, q5, l1, isLe (show (n : Int) ≤ (j : Int) by omega)]
end Go.Proofs.Ytelnkdgpghndgaa
/- item.Store of one class in plain words: pages of 64 bytes. -/
namespace Go.Proofs.Ytelnkdgpghndgaa
open Go Go.YtelnkdgpghndgaaAbs
set_option linter.unusedSimpArgs false
set_option linter.unusedVariables false
set_option maxRecDepth 4000

theorem within_n (k : Nat) (a lo hi : Int) (h0 : 0 ≤ lo) (hl : lo ≤ hi) (h2 : hi ≤ 1000000000000) (h : Heap) :
    ∃ x : Nat, acall Try.prog (k + 1) 15 [.int .i64 a, .int .i64 lo, .int .i64 hi] h = some (.int .i64 (x : Nat), h) ∧ lo ≤ x ∧ (x : Int) ≤ hi := by
  have W := within_ok k a lo hi hl (by omega) h2 h
  have e1 : a % (hi - lo + 1) < hi - lo + 1 := Int.emod_lt_of_pos _ (by omega)
  have e2 : 0 ≤ a % (hi - lo + 1) := Int.emod_nonneg _ (by omega)
  refine ⟨(lo + a % (hi - lo + 1)).toNat, ?_, by omega, by omega⟩
  rw [W]
  have : ((lo + a % (hi - lo + 1)).toNat : Int) = lo + a % (hi - lo + 1) := by omega
  rw [this]
/-- One class, of chunks of a page. -/
def One (s : Sb) : Prop := s.cls.map (·.size) = [64]
theorem One.cls {s : Sb} (o : One s) : ∃ c, s.cls = [c] ∧ c.size = 64 := by
  unfold One at o
  match hc : s.cls with
  | [] => rw [hc] at o; simp at o
  | [c] => rw [hc] at o; exact ⟨c, rfl, by simpa using o⟩
  | c :: d :: r => rw [hc] at o; simp at o
theorem One.cl {s : Sb} (o : One s) {n : Nat} (hn : n ≤ 64) : clsE (n : Nat) s.cls = some 0 := by
  obtain ⟨c, hc, hs⟩ := o.cls
  rw [hc]
  simp only [clsE]
  rw [if_pos (by omega)]
theorem one_room {n : Nat} {s : Sb} (I : SlI n 64 s) (o : One s) : ∃ c, s.cls = [c] ∧ c.live.length = liveN s.cls ∧ c.free.length + liveN s.cls + s.left = n := by
  obtain ⟨c, hc, hs⟩ := o.cls
  obtain ⟨_, _, _, _, pgs, I⟩ := I
  have h0 : s.cls[0]? = some c := by rw [hc]; rfl
  obtain ⟨pg, hpg, J, _⟩ := I.pg h0
  have hl := I.len
  rw [hc] at hl
  have hps : pgs = [pg] := by
    match pgs, hl, hpg with
    | [p], _, h => simp at h; rw [h]
  have hu := I.used
  rw [hps] at hu
  simp at hu
  have ht := I.tot
  have j1 := J.len
  have j2 := J.cnt
  rw [hs] at j2
  simp at j2
  have e : liveN s.cls = c.live.length := by rw [hc]; simp [liveN]
  exact ⟨c, hc, e.symm, by omega⟩
theorem one_ok {n : Nat} {s s' : Sb} {d : ByteArray} {ci K : Nat} (I : SlI n 64 s) (o : One s) (A : AllocP s d ci K 0 s') : liveN s.cls < n := by
  obtain ⟨c, hc, e, h⟩ := one_room I o
  cases A with
  | @ok _ _ cnt left used c' c2 F hcl hi hroom =>
    rw [hc] at hi
    have : c' = c := by
      match ci, hi with
      | 0, hi => simp at hi; exact hi.symm
    subst this
    rcases hroom with z | z
    · have := List.length_pos_iff.2 z; omega
    · omega
theorem one_full {n : Nat} {s s' : Sb} {d : ByteArray} {ci K : Nat} (I : SlI n 64 s) (o : One s) (A : AllocP s d ci K 6 s') : liveN s.cls = n := by
  obtain ⟨c, hc, e, h⟩ := one_room I o
  cases A with
  | @full ci' c' hcl hi hf h0 =>
    rw [hc] at hi
    have : c' = c := by
      match ci', hi with
      | 0, hi => simp at hi; exact hi.symm
    subst this
    have : c'.free.length = 0 := by rw [hf]; rfl
    omega
theorem one_ci {n : Nat} {z : Sto} (I : StI n 64 z) (o : One z.s) {y : Itm} (hy : y ∈ z.L) : y.ci = 0 := by
  obtain ⟨c, hc, _⟩ := o.cls
  have h := I.rd y hy
  unfold rdS at h
  rw [hc] at h
  match hq : y.ci, h with
  | 0, _ => rfl
  | m + 1, h => simp at h
theorem PutL.sizes {key data : ByteArray} {pin : Bool} {cls er : Nat} {L L' : List Itm} {s s' : Sb} {w : List ByteArray} (p : PutL key data pin cls L s w er L' s') : s'.cls.map (·.size) = s.cls.map (·.size) := by
  induction p with
  | ok i A => exact A.sizes
  | stop A o => rfl
  | go Al o f n ih => rw [ih, f.sizes]
theorem DropR.sizes {key : ByteArray} {L L' : List Itm} {s s' : Sb} (d : DropR key L s L' s') : s'.cls.map (·.size) = s.cls.map (·.size) := by
  cases d with
  | no h => rfl
  | yes hk hf => exact hf.sizes
theorem PutR.sizes {key data : ByteArray} {pin : Bool} {er : Nat} {L L' : List Itm} {s s' : Sb} {w : List ByteArray} (p : PutR key data pin L s w er L' s') : s'.cls.map (·.size) = s.cls.map (·.size) := by
  cases p with
  | long d hc => exact d.sizes
  | some d hc p => rw [p.sizes, d.sizes]
theorem DropR.none {key : ByteArray} {L L' : List Itm} {s s' : Sb} (d : DropR key L s L' s') (h : findK key L = none) : L' = L ∧ s' = s := by
  cases d with
  | no _ => exact ⟨rfl, rfl⟩
  | yes hk hf => exact absurd hk (findK_none.1 h _ (by simp))
theorem PutL.inv {key data : ByteArray} {pin : Bool} {cls er : Nat} {L L' : List Itm} {s s' : Sb} {w : List ByteArray} (p : PutL key data pin cls L s w er L' s') :
    (∃ ci K i, AllocP s (key ++ data) ci K 0 s' ∧ w = [] ∧ er = 0 ∧ L' = ⟨key, data, ci, K, pin, i⟩ :: L) ∨
    (∃ a c, AllocP s (key ++ data) a c 6 s ∧ oldI cls L = none ∧ w = [] ∧ er = 6 ∧ L' = L ∧ s' = s) ∨
    (∃ A B y s1 a c w1, L = A ++ y :: B ∧ AllocP s (key ++ data) a c 6 s ∧ oldI cls L = some y ∧ FreeP s y.ci y.ch s1 ∧ w = y.key :: w1 ∧ PutL key data pin cls (A ++ B) s1 w1 er L' s') := by
  cases p with
  | ok i A => exact .inl ⟨_, _, i, A, rfl, rfl, rfl⟩
  | stop A o => exact .inr (.inl ⟨_, _, A, o, rfl, rfl, rfl, rfl⟩)
  | go Al o f n => exact .inr (.inr ⟨_, _, _, _, _, _, _, rfl, Al, o, f, rfl, n⟩)
/-- A new key is put. -/
theorem one_put {n : Nat} {z : Sto} (I : StI n 64 z) (o : One z.s) {key data : ByteArray} (hd : (key ++ data).size ≤ 64) {pin : Bool} {w : List ByteArray} {er : Nat} {L' : List Itm} {s' : Sb} (hk : findK key z.L = none) (p : PutR key data pin z.L z.s w er L' s') :
    (z.L.length < n ∧ er = 0 ∧ w = [] ∧ ∃ ci K i, L' = ⟨key, data, ci, K, pin, i⟩ :: z.L) ∨
    (z.L.length = n ∧ oldI 0 z.L = none ∧ er = 6 ∧ w = [] ∧ L' = z.L) ∨
    (z.L.length = n ∧ ∃ A B y, z.L = A ++ y :: B ∧ oldI 0 z.L = some y ∧ er = 0 ∧ w = [y.key] ∧ ∃ ci K i, L' = ⟨key, data, ci, K, pin, i⟩ :: (A ++ B)) := by
  have hl := I.live
  cases p with
  | long d hc =>
    obtain ⟨_, e⟩ := d.none hk
    subst e
    rw [o.cl hd] at hc
    cases hc
  | some d hc p =>
    obtain ⟨e1, e2⟩ := d.none hk
    subst e1 e2
    rw [o.cl hd] at hc
    cases hc
    rcases p.inv with ⟨ci, K, i, A, rfl, rfl, rfl⟩ | ⟨a, c, A, ho, rfl, rfl, rfl, _⟩ | ⟨A, B, y, s1, a, c, w1, hL, Al, ho, f, rfl, p2⟩
    · have := one_ok I.sl o A
      exact .inl ⟨by omega, rfl, rfl, _, _, i, rfl⟩
    · have := one_full I.sl o A
      exact .inr (.inl ⟨by omega, ho, rfl, rfl, rfl⟩)
    · have e := one_full I.sl o Al
      obtain ⟨_, fr⟩ := f.read I.sl
      have o1 : One s1 := by unfold One; rw [f.sizes]; exact o
      have I1 := f.inv I.sl
      rcases p2.inv with ⟨ci, K, i, A2, rfl, rfl, rfl⟩ | ⟨a2, c2, A2, _⟩ | ⟨_, _, _, _, _, _, _, _, A2, _⟩
      · exact .inr (.inr ⟨by omega, A, B, y, hL, ho, rfl, rfl, _, _, i, rfl⟩)
      · have := one_full I1 o1 A2; omega
      · have := one_full I1 o1 A2; omega
def keyA (i : Nat) : ByteArray := ⟨⟨[UInt8.ofNat (97 + i)]⟩⟩
theorem keyA_size (i : Nat) : (keyA i).size = 1 := rfl
theorem keyA_inj {i j : Nat} (hi : i < 100) (hj : j < 100) (h : keyA i = keyA j) : i = j := by
  unfold keyA at h
  have h1 : UInt8.ofNat (97 + i) = UInt8.ofNat (97 + j) := by
    have := congrArg (fun a : ByteArray => a.data.toList) h
    simpa using this
  have h2 := congrArg UInt8.toNat h1
  simp at h2
  omega
theorem keyA_conv (h : Heap) (i : Nat) (hi : i < 100) (ex : Bool) : ∃ x : UInt8, fwrap .u8 (97 + (i : Int)) = (x.toNat : Nat) ∧
    aconv Try.prog (h.new (.cells [.int .u8 (x.toNat : Nat)] false)) 33 9 (.sl h.next 0 1 1 1 ex) = some (.str (keyA i), h.new (.cells [.int .u8 (x.toNat : Nat)] false)) := by
  refine ⟨UInt8.ofNat (97 + i), ?_, aconv_bs (P := Try.prog) (src := 33) (dst := 9) (sl_new1 h (UInt8.ofNat (97 + i)) ex) Try.underlying33 Try.underlying9 Try.underlying5⟩
  have : (UInt8.ofNat (97 + i)).toNat = (97 + i) % 256 := by simp
  rw [this, show 97 + (i : Int) = ((97 + i : Nat) : Int) by omega]
  rfl
end Go.Proofs.Ytelnkdgpghndgaa
/- ItemHolds in plain words; asks and their data. -/
namespace Go.Proofs.Ytelnkdgpghndgaa
open Go Go.YtelnkdgpghndgaaAbs
set_option linter.unusedSimpArgs false
set_option linter.unusedVariables false
set_option maxRecDepth 4000

/-- An ask: a kind, a size, a key, data, a pin. -/
abbrev Aq := Int × (Int × (ByteArray × (ByteArray × (Bool × Unit))))
abbrev kAq : Kind Aq := kPair (kInt .i64) (kPair (kInt .i64) (kPair kStr (kPair kStr (kPair kBool kNil))))
def aqC (x : Aq) : List AV := [.int .i64 x.1, .int .i64 x.2.1, .str x.2.2.1, .str x.2.2.2.1, .bool x.2.2.2.2.1]
theorem aqC_len (x : Aq) : (aqC x).length = 5 := rfl
theorem flat_aq : Flat kAq aqC := flat_pair (flat_int _) (flat_pair (flat_int _) (flat_pair flat_str (flat_pair flat_str (flat_pair flat_bool flat_nil))))
def cutD (s : ByteArray) : ByteArray := if s.size ≤ 100 then s else s.extract 0 100
theorem cutD_le (s : ByteArray) : (cutD s).size ≤ 100 := by
  unfold cutD
  split
  · assumption
  · rw [ByteArray.size_extract]; omega
def aqN (x : Aq) : Nat := (x.2.1 % 301).toNat
def aqD (x : Aq) : ByteArray := cutD x.2.2.2.1 ++ zeros (aqN x)
theorem aqN_le (x : Aq) : aqN x ≤ 300 := by unfold aqN; omega
theorem aqD_le (x : Aq) : (aqD x).size ≤ 400 := by
  unfold aqD
  rw [ByteArray.size_append, zeros_size]
  have := cutD_le x.2.2.2.1
  have := aqN_le x
  omega
theorem idata_ok (k : Nat) (h : Heap) (x : Aq) : ∃ h', acall Try.prog (k + 2) 16 [.agg (aqC x)] h = some (.str (aqD x), h') ∧ Keep h.next nob h h' := by
  refine flat0 ?_
  rw [acall_text [] Try.func16 (by kernel_rfl)]
  refine afuncT_ex rfl (by simp [Try.f16]) ?_
  have rw1 : (AV.agg (aqC x)).row1 = some (aqC x) := rfl
  obtain ⟨h1, e1⟩ : ∃ h1, h.new (.cells (aqC x) false) = h1 := ⟨_, rfl⟩
  have g1 : h1.get h.next = some (.cells (aqC x) false) := by rw [← e1]; exact get_new_self _ _
  have k1 : Keep h.next nob h h1 := by rw [← e1]; exact Keep.new (Nat.le_refl _) _
  have l1 := ldc (P := Try.prog) (ty := 3) g1 ta3 (i := 1) (x := .int .i64 x.2.1) rfl
  have l3 := ldc (P := Try.prog) (ty := 9) g1 ta9 (i := 3) (x := .str x.2.2.2.1) rfl
  have W1 : acall Try.prog (k + 1) 15 [.int .i64 x.2.1, .int .i64 0, .int .i64 300] h1 = _ := within_ok k x.2.1 0 300 (by omega) (by omega) (by omega) h1
  have hN : (0 : Int) + x.2.1 % (300 - 0 + 1) = (aqN x : Nat) := by unfold aqN; omega
  have hN2 := aqN_le x
  rw [hN] at W1
  have hc := cutD_le x.2.2.2.1
  unfold aqD
  generalize aqN x = N at *
  have zc := zeros_conv h1 N
  have zs := zeros_size N
  have k2 : Keep h1.next nob h1 (h1.new (.cells (List.replicate N (.int .u8 0)) false)) := Keep.new (Nat.le_refl _) _
  have K2 := k1.trans (k2.weak k1.1 fun _ _ q => q)
  generalize zeros N = Z at *
  by_cases c1 : (x.2.2.2.1.size : Int) ≤ 100
  · have e : cutD x.2.2.2.1 = x.2.2.2.1 := by unfold cutD; rw [if_pos (by omega)]
    rw [e] at hc ⊢
    have cat0 : x.2.2.2.1.size + Z.size ≤ 9223372036854775807 := by omega
    simp [Try.f16, rw1, e1, l1, l3, c1, W1, aalloc_make (P := Try.prog) el33 (z := [.int .u8 0]) az5 rfl rfl N N (Nat.le_refl _) (by omega), flat1, zc, cat0]
    exact K2
  · have e : cutD x.2.2.2.1 = x.2.2.2.1.extract 0 100 := by unfold cutD; rw [if_neg (by omega)]
    have sl := aslice_strTo (P := Try.prog) (ty := 9) Try.underlying9 (s := x.2.2.2.1) (k := .i64) (n := 100) (by omega) (by omega)
    have sl : aslice Try.prog 9 (.str x.2.2.2.1) none (some (.int .i64 100)) none = some (.str (cutD x.2.2.2.1)) := by rw [e]; exact sl
    generalize cutD x.2.2.2.1 = D at *
    have cat0 : D.size + Z.size ≤ 9223372036854775807 := by omega
    simp [Try.f16, rw1, e1, l1, l3, isLt (show (100 : Int) < (x.2.2.2.1.size : Int) by omega), sl, W1, aalloc_make (P := Try.prog) el33 (z := [.int .u8 0]) az5 rfl rfl N N (Nat.le_refl _) (by omega), flat1, zc, cat0]
    exact K2
/-- What a Put leaves, key by key. -/
structure PutQ (key data : ByteArray) (pin : Bool) (L : List Itm) (w : List ByteArray) (er : Nat) (L' : List Itm) : Prop where
  gone : ∀ g, g ∈ w → ∃ y, findK g L = some y ∧ y.pin = false ∧ g ≠ key
  stay : ∀ j, j ≠ key → j ∉ w → findK j L' = findK j L
  away : ∀ j, j ≠ key → j ∈ w → findK j L' = none
  new : er = 0 → ∃ y, findK key L' = some y ∧ y.data = data ∧ y.pin = pin
  no : er ≠ 0 → findK key L' = none
theorem findK_sub {A B : List Itm} {y : Itm} (nd : ((A ++ y :: B).map (·.key)).Nodup) {j : ByteArray} (h : j ≠ y.key) : findK j (A ++ B) = findK j (A ++ y :: B) := by rw [findK_cut nd, if_neg h]
theorem PutL.q {key data : ByteArray} {pin : Bool} {cls er : Nat} {L L' : List Itm} {s s' : Sb} {w : List ByteArray} (p : PutL key data pin cls L s w er L' s') : (L.map (·.key)).Nodup → findK key L = none → PutQ key data pin L w er L' := by
  induction p with
  | ok i A =>
    intro nd hk
    refine ⟨fun g hg => (by cases hg), fun j hj _ => ?_, fun j hj hg => (by cases hg), fun _ => ?_, fun q => absurd rfl q⟩
    · rw [findK_cons, if_neg (fun e => hj e.symm)]
    · rw [findK_cons, if_pos rfl]
      exact ⟨_, rfl, rfl, rfl⟩
  | stop A o =>
    intro nd hk
    exact ⟨fun g hg => (by cases hg), fun j hj _ => rfl, fun j hj hg => (by cases hg), fun q => absurd q (by decide), fun _ => hk⟩
  | @go A B L' y s s1 s' a c er w Al o f n ih =>
    intro nd hk
    have nd1 := nd
    rw [List.map_append, List.map_cons] at nd1
    obtain ⟨nd2, n1, n2⟩ := nodup_cut nd1
    obtain ⟨_, yp, _⟩ := oldI_at o
    have hyk : y.key ≠ key := findK_none.1 hk y (by simp)
    have hk2 : findK key (A ++ B) = .none := by rw [findK_sub nd (Ne.symm hyk)]; exact hk
    obtain ⟨q1, q2, q3, q4, q5⟩ := ih (by rw [List.map_append]; exact nd2) hk2
    refine ⟨fun g hg => ?_, fun j hj hg => ?_, fun j hj hg => ?_, q4, q5⟩
    · rcases List.mem_cons.1 hg with e | e
      · subst e
        exact ⟨y, findK_at nd, yp, hyk⟩
      · obtain ⟨v, v1, v2, v3⟩ := q1 g e
        refine ⟨v, ?_, v2, v3⟩
        rw [← v1]
        refine (findK_sub nd ?_).symm
        intro e2
        subst e2
        rw [findK_cut nd, if_pos rfl] at v1
        cases v1
    · simp only [List.mem_cons, not_or] at hg
      rw [q2 j hj hg.2, findK_sub nd hg.1]
    · rcases List.mem_cons.1 hg with e | e
      · subst e
        by_cases h2 : y.key ∈ w
        · exact q3 _ hj h2
        · rw [q2 _ hj h2, findK_cut nd, if_pos rfl]
      · exact q3 j hj e
theorem DropR.q {key : ByteArray} {L L' : List Itm} {s s' : Sb} (d : DropR key L s L' s') (nd : (L.map (·.key)).Nodup) : (L'.map (·.key)).Nodup ∧ ∀ j, findK j L' = if j = key then Option.none else findK j L := by
  cases d with
  | no h =>
    refine ⟨nd, fun j => ?_⟩
    split
    · rename_i e; rw [e]; exact h
    · rfl
  | yes hk hf =>
    have nd1 := nd
    rw [List.map_append, List.map_cons] at nd1
    refine ⟨by rw [List.map_append]; exact (nodup_cut nd1).1, fun j => ?_⟩
    rw [findK_cut nd, hk]
theorem PutR.q {key data : ByteArray} {pin : Bool} {er : Nat} {L L' : List Itm} {s s' : Sb} {w : List ByteArray} (p : PutR key data pin L s w er L' s') (nd : (L.map (·.key)).Nodup) : PutQ key data pin L w er L' := by
  cases p with
  | long d hc =>
    obtain ⟨_, q⟩ := d.q nd
    refine ⟨fun g hg => (by cases hg), fun j hj _ => ?_, fun j hj hg => (by cases hg), fun q => absurd q (by decide), fun _ => ?_⟩
    · rw [q, if_neg hj]
    · rw [q, if_pos rfl]
  | some d hc p =>
    obtain ⟨nd1, q⟩ := d.q nd
    obtain ⟨q1, q2, q3, q4, q5⟩ := p.q nd1 (by rw [q, if_pos rfl])
    refine ⟨fun g hg => ?_, fun j hj hg => ?_, q3, q4, q5⟩
    · obtain ⟨y, y1, y2, y3⟩ := q1 g hg
      rw [q, if_neg y3] at y1
      exact ⟨y, y1, y2, y3⟩
    · rw [q2 j hj hg, q, if_neg hj]
theorem PutL.wlen {key data : ByteArray} {pin : Bool} {cls er : Nat} {L L' : List Itm} {s s' : Sb} {w : List ByteArray} (p : PutL key data pin cls L s w er L' s') : w.length ≤ L.length := by
  induction p with
  | ok i A => exact Nat.zero_le _
  | stop A o => exact Nat.zero_le _
  | go Al o f n ih => simp at ih ⊢; omega
theorem PutR.wlen {key data : ByteArray} {pin : Bool} {er : Nat} {L L' : List Itm} {s s' : Sb} {w : List ByteArray} (p : PutR key data pin L s w er L' s') : w.length ≤ L.length := by
  cases p with
  | long d hc => exact Nat.zero_le _
  | some d hc p =>
    have := p.wlen
    cases d with
    | no _ => exact this
    | yes _ _ => simp at this ⊢; omega
/-- What is held of all that was asked. -/
structure HdI (K D : List ByteArray) (P : List Bool) (L : List Itm) : Prop where
  nd : K.Nodup
  dl : D.length = K.length
  pl : P.length = K.length
  sub : ∀ y, y ∈ L → y.key ∈ K
  ok : ∀ (j : Nat) (key d : ByteArray) (p : Bool), K[j]? = some key → D[j]? = some d → P[j]? = some p → (∀ y, findK key L = some y → y.data = d ∧ (p = true → y.pin = true)) ∧ (p = true → findK key L ≠ none)
section
variable {K D : List ByteArray} {P : List Bool} {L L' : List Itm}
theorem HdI.get (H : HdI K D P L) {j : Nat} {key : ByteArray} (hj : K[j]? = some key) : ∃ d p, D[j]? = some d ∧ P[j]? = some p := by
  have hl := (List.getElem?_eq_some_iff.1 hj).1
  exact ⟨D[j]'(by rw [H.dl]; exact hl), P[j]'(by rw [H.pl]; exact hl), by simp, by simp⟩
theorem HdI.new (H : HdI K D P L) {key : ByteArray} (h : key ∉ K) : HdI (K ++ [key]) (D ++ [.empty]) (P ++ [false]) L := by
  refine ⟨?_, by simp [H.dl], by simp [H.pl], fun y hy => List.mem_append.2 (.inl (H.sub y hy)), fun j k d p h1 h2 h3 => ?_⟩
  · rw [List.nodup_append]
    exact ⟨H.nd, by simp, fun a ha b hb e => h (by rw [List.mem_singleton.1 hb] at e; rw [← e]; exact ha)⟩
  · by_cases hj : j < K.length
    · rw [List.getElem?_append_left hj] at h1
      rw [List.getElem?_append_left (by rw [H.dl]; exact hj)] at h2
      rw [List.getElem?_append_left (by rw [H.pl]; exact hj)] at h3
      exact H.ok j k d p h1 h2 h3
    · have hjl := (List.getElem?_eq_some_iff.1 h1).1
      simp at hjl
      have e : j = K.length := by omega
      subst e
      simp at h1
      rw [show K.length = P.length from H.pl.symm] at h3
      simp at h3
      subst h1 h3
      refine ⟨fun y hy => ?_, fun q => absurd q.symm (by simp)⟩
      obtain ⟨y1, y2⟩ := findK_mem hy
      exact absurd (y2 ▸ H.sub y y1) h
theorem same_idx {j at_ : Nat} {key : ByteArray} (nd : K.Nodup) (h1 : K[j]? = some key) (h2 : K[at_]? = some key) : j = at_ := by
  have l1 := (List.getElem?_eq_some_iff.1 h1).1
  exact (List.getElem?_inj l1 nd).1 (by rw [h1, h2])
theorem HdI.put (H : HdI K D P L) {at_ : Nat} {key data : ByteArray} (hat : K[at_]? = some key) {pin : Bool} {w : List ByteArray} {er : Nat} (q : PutQ key data pin L w er L') (sub : ∀ y, y ∈ L' → y.key ∈ K) : HdI K (D.set at_ data) (P.set at_ (pin && decide (er = 0))) L' := by
  refine ⟨H.nd, by simp [H.dl], by simp [H.pl], sub, fun j k d p h1 h2 h3 => ?_⟩
  have hjl := (List.getElem?_eq_some_iff.1 h1).1
  by_cases hj : at_ = j
  · subst hj
    rw [hat] at h1
    cases h1
    rw [List.getElem?_set_self (by rw [H.dl]; exact hjl)] at h2
    rw [List.getElem?_set_self (by rw [H.pl]; exact hjl)] at h3
    cases h2
    cases h3
    by_cases he : er = 0
    · obtain ⟨y, y1, y2, y3⟩ := q.new he
      rw [y1]
      refine ⟨fun y' e => ?_, fun _ => by simp⟩
      cases e
      exact ⟨y2, fun hp => by rw [y3]; simp [he] at hp; exact hp⟩
    · rw [q.no he]
      exact ⟨fun y e => (by cases e), fun hp => by simp [he] at hp⟩
  · rw [List.getElem?_set_ne hj] at h2 h3
    have hk : k ≠ key := fun e => hj (same_idx H.nd hat (e ▸ h1))
    obtain ⟨o1, o2⟩ := H.ok j k d p h1 h2 h3
    by_cases hw : k ∈ w
    · rw [q.away k hk hw]
      refine ⟨fun y e => (by cases e), fun hp => ?_⟩
      obtain ⟨y, y1, y2, _⟩ := q.gone k hw
      have := (o1 y y1).2 hp
      rw [y2] at this
      cases this
    · rw [q.stay k hk hw]
      exact ⟨o1, o2⟩
/-- What went was not pinned. -/
theorem HdI.went (H : HdI K D P L) {at_ : Nat} {key data : ByteArray} (hat : K[at_]? = some key) {pin : Bool} {w : List ByteArray} {er : Nat} (q : PutQ key data pin L w er L') {g : ByteArray} (hg : g ∈ w) {j : Nat} {p : Bool} (h1 : K[j]? = some g) (h3 : P[j]? = some p) : p = false ∧ j ≠ at_ := by
  obtain ⟨y, y1, y2, y3⟩ := q.gone g hg
  obtain ⟨d, p', h2, h4⟩ := H.get h1
  rw [h3] at h4
  cases h4
  refine ⟨?_, fun e => ?_⟩
  · cases p with
    | false => rfl
    | true =>
      have := ((H.ok j g d true h1 h2 h3).1 y y1).2 rfl
      rw [y2] at this
      cases this
  · rw [e, hat] at h1
    exact y3 (Option.some.inj h1).symm
theorem PinR.q {key : ByteArray} {pin : Bool} (p : PinR key pin L L') (nd : (L.map (·.key)).Nodup) : (∀ y, y ∈ L' → ∃ y', y' ∈ L ∧ y'.key = y.key) ∧ (∀ j, j ≠ key → findK j L' = findK j L) ∧ (∀ y, findK key L = some y → findK key L' = some { y with pin := pin }) ∧ (findK key L = none → findK key L' = none) := by
  cases p with
  | no h => exact ⟨fun y hy => ⟨y, hy, rfl⟩, fun j _ => rfl, fun y e => (by rw [h] at e; cases e), fun _ => h⟩
  | @yes A B y hk =>
    have hf := findK_at nd
    rw [hk] at hf
    refine ⟨fun v hv => ?_, fun j hj => ?_, fun v hv => ?_, fun e => (by rw [hf] at e; cases e)⟩
    · rcases List.mem_append.1 hv with q | q
      · exact ⟨v, by simp [q], rfl⟩
      · rcases List.mem_cons.1 q with q | q
        · subst q
          exact ⟨y, by simp, rfl⟩
        · exact ⟨v, by simp [q], rfl⟩
    · rw [findK_append, findK_append, findK_cons, findK_cons]
      rw [if_neg (show ¬ ({ y with pin := pin } : Itm).key = j from fun e => hj (by rw [← e]; exact hk)), if_neg (fun e => hj (by rw [← e]; exact hk))]
    · rw [hf] at hv
      cases hv
      have nd2 : ((A ++ { y with pin := pin } :: B).map (·.key)).Nodup := by
        have : (A ++ { y with pin := pin } :: B).map (·.key) = (A ++ y :: B).map (·.key) := by simp
        rw [this]; exact nd
      have := findK_at nd2
      rw [← hk]
      exact this
theorem HdI.pin (H : HdI K D P L) {at_ : Nat} {key : ByteArray} (hat : K[at_]? = some key) {pin : Bool} (p : PinR key pin L L') (nd : (L.map (·.key)).Nodup) : (findK key L ≠ none → HdI K D (P.set at_ pin) L') ∧ (findK key L = none → HdI K D P L') := by
  obtain ⟨p1, p2, p3, p4⟩ := p.q nd
  have sub : ∀ y, y ∈ L' → y.key ∈ K := fun y hy => by
    obtain ⟨y', h1, h2⟩ := p1 y hy
    rw [← h2]
    exact H.sub y' h1
  refine ⟨fun hf => ⟨H.nd, H.dl, by simp [H.pl], sub, fun j k d pb h1 h2 h3 => ?_⟩, fun hf => ⟨H.nd, H.dl, H.pl, sub, fun j k d pb h1 h2 h3 => ?_⟩⟩
  · have hjl := (List.getElem?_eq_some_iff.1 h1).1
    by_cases hj : at_ = j
    · subst hj
      rw [hat] at h1
      cases h1
      rw [List.getElem?_set_self (by rw [H.pl]; exact hjl)] at h3
      cases h3
      obtain ⟨y, hy⟩ : ∃ y, findK key L = some y := by
        cases h : findK key L with
        | none => exact absurd h hf
        | some y => exact ⟨y, rfl⟩
      obtain ⟨d', p', h4, h5⟩ := H.get hat
      rw [h2] at h4
      cases h4
      have o := (H.ok at_ key d p' hat h2 h5).1 y hy
      rw [p3 y hy]
      exact ⟨fun v e => by cases e; exact ⟨o.1, fun q => q⟩, fun _ => by simp⟩
    · rw [List.getElem?_set_ne hj] at h3
      rw [p2 k fun e => hj (same_idx H.nd hat (e ▸ h1))]
      exact H.ok j k d pb h1 h2 h3
  · by_cases hk : k = key
    · subst hk
      rw [p4 hf]
      obtain ⟨o1, o2⟩ := H.ok j k d pb h1 h2 h3
      exact ⟨fun y e => (by cases e), fun hp => absurd hf (o2 hp)⟩
    · rw [p2 k hk]
      exact H.ok j k d pb h1 h2 h3
theorem HdI.drop (H : HdI K D P L) {at_ : Nat} {key : ByteArray} (hat : K[at_]? = some key) {s s' : Sb} (d : DropR key L s L' s') (nd : (L.map (·.key)).Nodup) : HdI K D (P.set at_ false) L' := by
  obtain ⟨_, q⟩ := d.q nd
  refine ⟨H.nd, H.dl, by simp [H.pl], fun y hy => ?_, fun j k d p h1 h2 h3 => ?_⟩
  · cases d with
    | no _ => exact H.sub y hy
    | yes _ _ =>
      refine H.sub y ?_
      rcases List.mem_append.1 hy with z | z
      · simp [z]
      · simp [z]
  · have hjl := (List.getElem?_eq_some_iff.1 h1).1
    by_cases hj : at_ = j
    · subst hj
      rw [hat] at h1
      cases h1
      rw [List.getElem?_set_self (by rw [H.pl]; exact hjl)] at h3
      cases h3
      rw [q, if_pos rfl]
      exact ⟨fun y e => (by cases e), fun e => (by cases e)⟩
    · rw [List.getElem?_set_ne hj] at h3
      rw [q, if_neg (fun (e : k = key) => hj (same_idx H.nd hat (by rw [← e]; exact h1)))]
      exact H.ok j k d p h1 h2 h3
/-- Keys behind a Put were there, or are the new one. -/
theorem PutL.keys {key data : ByteArray} {pin : Bool} {cls er : Nat} {L L' : List Itm} {s s' : Sb} {w : List ByteArray} (p : PutL key data pin cls L s w er L' s') : ∀ y, y ∈ L' → y.key = key ∨ ∃ y', y' ∈ L ∧ y'.key = y.key := by
  induction p with
  | ok i A =>
    intro y hy
    rcases List.mem_cons.1 hy with q | q
    · exact .inl (by rw [q])
    · exact .inr ⟨y, q, rfl⟩
  | stop A o => exact fun y hy => .inr ⟨y, hy, rfl⟩
  | go Al o f n ih =>
    intro y hy
    rcases ih y hy with q | ⟨y', q, e⟩
    · exact .inl q
    · refine .inr ⟨y', ?_, e⟩
      rcases List.mem_append.1 q with z | z
      · simp [z]
      · simp [z]
theorem PutR.keys {key data : ByteArray} {pin : Bool} {er : Nat} {s s' : Sb} {w : List ByteArray} (p : PutR key data pin L s w er L' s') : ∀ y, y ∈ L' → y.key = key ∨ ∃ y', y' ∈ L ∧ y'.key = y.key := by
  have dk : ∀ {M : List Itm} {s s1 : Sb}, DropR key L s M s1 → ∀ y, y ∈ M → y ∈ L := by
    intro M s s1 d y hy
    cases d with
    | no _ => exact hy
    | yes _ _ =>
      rcases List.mem_append.1 hy with z | z
      · simp [z]
      · simp [z]
  cases p with
  | long d hc => exact fun y hy => .inr ⟨y, dk d y hy, rfl⟩
  | some d hc p =>
    intro y hy
    rcases p.keys y hy with q | ⟨y', q, e⟩
    · exact .inl q
    · exact .inr ⟨y', dk d y' q, e⟩
end
end Go.Proofs.Ytelnkdgpghndgaa
/- depotref5.Store: find, out, Drop, Pin, Keys. -/
namespace Go.Proofs.Ytelnkdgpghndgaa
open Go Go.YtelnkdgpghndgaaAbs
set_option linter.unusedSimpArgs false
set_option linter.unusedVariables false
set_option maxRecDepth 4000

def rC (y : Itm) : List AV := [.str y.key, .int .i64 (y.ci : Nat), .int .i64 (y.ch : Nat), .bool y.pin]
theorem rC_len (y : Itm) : (rC y).length = 4 := rfl
theorem rC_one (L : List Itm) : (cat rC L).all AV.one = true := by
  unfold cat
  rw [List.all_flatten, List.all_eq_true]
  intro l hl
  obtain ⟨x, _, rfl⟩ := List.mem_map.1 hl
  rfl
/-- The document's store. -/
structure Rst where
  rb : Nat
  r : Rb
  rv : AV
  lv : AV
def r2 (b rb : Nat) (lv : AV) (L : List Itm) : List Th := [(.ptr b 0, .blk [.ptr rb 0, lv]), (lv, .vec 4 L.length (cat rC L))]
def Rst.th (q : Rst) (b : Nat) (L : List Itm) : List Th := r2 b q.rb q.lv L ++ q.r.th q.rb q.rv
section
variable {h : Heap} {b : Nat} {q : Rst} {L : List Itm}
theorem rst_hold (O : Hold h (q.th b L)) : Hold h (r2 b q.rb q.lv L) ∧ RO h q.rb q.r q.rv := ⟨(own_append.1 O).1, (own_append.1 O).2.1⟩
theorem r2_blk {rb : Nat} {lv : AV} (O : Hold h (r2 b rb lv L)) : h.get b = some (.cells [.ptr rb 0, lv] false) ∧ b < h.next := by
  obtain ⟨b', e, h1, h2⟩ := O.get (i := 0) (v := .ptr b 0) (o := .blk [.ptr rb 0, lv]) rfl
  cases e
  exact ⟨h2, h1⟩
theorem r2_lv {rb : Nat} {lv : AV} (O : Hold h (r2 b rb lv L)) : Mine 4 L.length h lv (cat rC L) := O.get (i := 1) (v := lv) rfl
theorem r2_ld {rb : Nat} {lv : AV} (O : Hold h (r2 b rb lv L)) : (∀ {ty : TypeId}, tagg Try.prog ty = some false → aload Try.prog h ty b 0 = some (.ptr rb 0)) ∧ (∀ {ty : TypeId}, tagg Try.prog ty = some false → aload Try.prog h ty b 1 = some lv) :=
  ⟨fun ht => ldc (r2_blk O).1 ht rfl, fun ht => ldc (r2_blk O).1 ht rfl⟩
theorem rC_idx {lv : AV} (M : Mine 4 L.length h lv (cat rC L)) {j : Nat} (hj : j < L.length) : aindex Try.prog 54 lv (.int .i64 (j : Nat)) = some (.ptr lv.blk (lv.off + j * 4)) := M.sl.idx (P := Try.prog) Try.underlying54 ts60 hj .i64
theorem rC_ld {lv : AV} (M : Mine 4 L.length h lv (cat rC L)) {j : Nat} {y : Itm} (hj : L[j]? = some y) {o : Nat} (ho : o < 4) {x : AV} (hx : (rC y)[o]? = some x) {ty : TypeId} (ht : tagg Try.prog ty = some false) : aload Try.prog h ty lv.blk (lv.off + j * 4 + o) = some x := by
  rw [Nat.add_assoc]
  exact M.sl.ld ht (by rw [cat_get rC_len hj ho]; exact hx)
theorem rC_hnd {lv : AV} (M : Mine 4 L.length h lv (cat rC L)) {j : Nat} {y : Itm} (hj : L[j]? = some y) {ty : TypeId} (ht : tagg Try.prog ty = some true) (hs : tsize Try.prog ty = some 2) : aload Try.prog h ty lv.blk (lv.off + j * 4 + 1) = some (.agg [.int .i64 (y.ci : Nat), .int .i64 (y.ch : Nat)]) := by
  have hil := (List.getElem?_eq_some_iff.1 hj).1
  have hl := M.length
  have := M.sl.lds (P := Try.prog) (e := ty) ht hs (j := j * 4 + 1) (by omega) (by omega)
  have e : ((cat rC L).drop (j * 4 + 1)).take 2 = [.int .i64 (y.ci : Nat), .int .i64 (y.ch : Nat)] := by
    have a := cat_at rC_len hj
    have c : ((cat rC L).drop (j * 4 + 1)).take 2 = ((((cat rC L).drop (j * 4)).take 4).drop 1).take 2 := by
      rw [List.drop_take, List.drop_drop, List.take_take]
      rfl
    rw [c, a]
    rfl
  rw [e, ← Nat.add_assoc] at this
  exact this
theorem split_at {A B : List Itm} {y : Itm} (hL : L = A ++ y :: B) : L[A.length]? = some y ∧ A.length < L.length ∧ L.eraseIdx A.length = A ++ B := by
  subst hL
  refine ⟨by simp, by simp, ?_⟩
  rw [List.eraseIdx_append_of_length_le (Nat.le_refl _)]
  simp
/-- Where a key stands. -/
theorem rfind_ok (k : Nat) (O : Hold h (q.th b L)) (hl : L.length < 100000) (hk : 100000 < k) (key : ByteArray) :
    (findK key L = none → acall Try.prog (k + 1) 40 [.ptr b 0, .str key] h = some (.int .i64 (-1), h)) ∧
    (∀ A B y, L = A ++ y :: B → y.key = key → findK key A = none → acall Try.prog (k + 1) 40 [.ptr b 0, .str key] h = some (.int .i64 (A.length : Nat), h)) := by
  obtain ⟨O2, _⟩ := rst_hold O
  obtain ⟨_, l1⟩ := r2_ld O2
  have M := r2_lv O2
  have lm := M.sl.len'
  have step : ∀ (t : Tr AV) (j : Nat) (y : Itm), True := fun _ _ _ => trivial
  constructor
  · intro hno
    rw [acall_text [] Try.func40 (by kernel_rfl)]
    refine afuncT_of rfl (by simp [Try.f40]) ?_
    simp [Try.f40]
    refine W_loop (fun m st => ∃ j, m = L.length - j ∧ j ≤ L.length ∧ st.h = h ∧ st.t.get 0 = some (.ptr b 0) ∧ st.t.get 1 = some (.str key) ∧ st.t.get 5 = some (.int .i64 (j : Nat))) L.length (by omega) ⟨0, by simp⟩ ?_
    rintro m ⟨t, h1⟩ ⟨j, rfl, hj, rfl, q0, q1, q5⟩
    simp only at q0 q1 q5
    by_cases hlt : j < L.length
    · obtain ⟨y, hy⟩ : ∃ y, L[j]? = some y := ⟨_, List.getElem?_eq_getElem hlt⟩
      have ix := rC_idx M hlt
      have ld := rC_ld M hy (o := 0) (x := .str y.key) (by omega) rfl (ty := 9) ta9
      rw [Nat.add_zero] at ld
      have hne := findK_none.1 hno y (List.mem_of_getElem? hy)
      simp [q0, q1, q5, l1, lm, isLt (show (j : Int) < (L.length : Int) by omega), ix, ld, hne, i64w ((j : Int) + 1) (by omega) (by omega)]
      exact ⟨L.length - (j + 1), by omega, j + 1, rfl, by omega, by simp⟩
    · simp [q0, q1, q5, l1, lm, isLe (show (L.length : Int) ≤ (j : Int) by omega)]
  · intro A B y hL hy hA
    obtain ⟨s1, s2, _⟩ := split_at hL
    rw [acall_text [] Try.func40 (by kernel_rfl)]
    refine afuncT_of rfl (by simp [Try.f40]) ?_
    simp [Try.f40]
    refine W_loop (fun m st => ∃ j, m = A.length - j ∧ j ≤ A.length ∧ st.h = h ∧ st.t.get 0 = some (.ptr b 0) ∧ st.t.get 1 = some (.str key) ∧ st.t.get 5 = some (.int .i64 (j : Nat))) A.length (by omega) ⟨0, by simp⟩ ?_
    rintro m ⟨t, h1⟩ ⟨j, rfl, hj, rfl, q0, q1, q5⟩
    simp only at q0 q1 q5
    by_cases hlt : j < A.length
    · obtain ⟨v, hv⟩ : ∃ v, A[j]? = some v := ⟨_, List.getElem?_eq_getElem hlt⟩
      have hvL : L[j]? = some v := by rw [hL, List.getElem?_append_left hlt]; exact hv
      have ix := rC_idx M (j := j) (by omega)
      have ld := rC_ld M hvL (o := 0) (x := .str v.key) (by omega) rfl (ty := 9) ta9
      rw [Nat.add_zero] at ld
      have hne := findK_none.1 hA v (List.mem_of_getElem? hv)
      simp [q0, q1, q5, l1, lm, isLt (show (j : Int) < (L.length : Int) by omega), ix, ld, hne, i64w ((j : Int) + 1) (by omega) (by omega)]
      exact ⟨A.length - (j + 1), by omega, j + 1, rfl, by omega, by simp⟩
    · have e : j = A.length := by omega
      subst e
      have ix := rC_idx M s2
      have ld := rC_ld M s1 (o := 0) (x := .str y.key) (by omega) rfl (ty := 9) ta9
      rw [Nat.add_zero, hy] at ld
      simp [q0, q1, q5, l1, lm, isLt (show (A.length : Int) < (L.length : Int) by omega), ix, ld]
/-- An item goes. -/
theorem rout_ok {P Q : Nat} {s s' : Sb} (I : SlI P Q s) (R : RelS s q.r) {A B : List Itm} {y : Itm} (hL : L = A ++ y :: B) (F : FreeP s y.ci y.ch s') (hl : L.length < 100000) (k : Nat) (hk : 100000 < k) (O : Hold h (q.th b L)) :
    ∃ (q' : Rst) (h' : Heap), acall Try.prog (k + 3) 41 [.ptr b 0, .int .i64 (A.length : Nat)] h = some (.tup [], h') ∧ Stp h (q.th b L) h' (q'.th b (A ++ B)) ∧ RelS s' q'.r := by
  obtain ⟨O2, O3⟩ := rst_hold O
  obtain ⟨l0, l1⟩ := r2_ld O2
  have M := r2_lv O2
  obtain ⟨s1, s2, s3⟩ := split_at hL
  have ix := rC_idx M s2
  have hd := rC_hnd M s1 (ty := 58) ta58 ts58
  obtain ⟨h1, r1, E1, T1, R1⟩ := r_free I F R k (by omega) h q.rb q.rv O3
  have S1 : Stp h (q.th b L) h1 (r2 b q.rb q.lv L ++ r1.th q.rb q.rv) := (Stp.refl O).opB T1
  have O21 := S1.a
  obtain ⟨_, l11⟩ := r2_ld O21
  have M1 := r2_lv O21
  obtain ⟨sA, sB, w1, h2, w2, h3, c1, c2, c3, c4, c5, c6, c7, c8⟩ := M1.cutK (P := Try.prog) el54 (j := A.length) s2 (by omega)
  have e5 : (cat rC L).take (A.length * 4) ++ (cat rC L).drop ((A.length + 1) * 4) = cat rC (A ++ B) := by
    rw [cat_take rC_len, cat_drop rC_len, ← cat_append, ← s3, List.eraseIdx_eq_take_drop_succ]
  rw [e5] at c5
  have hlen : (A ++ B).length = L.length - 1 := by rw [hL]; simp
  rw [← hlen] at c5
  obtain ⟨bl, bg⟩ := r2_blk O21
  have Fr1 : From h1 q.lv w2 := fun d hd => .inr (c7 d hd)
  have T3 := (Stp.refl O21).upd (i := 1) (v := q.lv) (o := .vec 4 L.length (cat rC L)) rfl (c6.weak (Nat.le_refl _) fun _ _ z => z.elim) (v' := w2) (o' := .vec 4 (A ++ B).length (cat rC (A ++ B))) c5 Fr1
  have bg3 : h3.get b = some (.cells [.ptr q.rb 0, q.lv] false) := by rw [c6.2 b bg id]; exact bl
  have bl3 : b < h3.next := Nat.lt_of_lt_of_le bg c6.1
  have K4 : Keep h3.next (Has (.ptr b 0)) h3 (h3.set b (.cells [.ptr q.rb 0, w2] false)) := Keep.set (F := Has (.ptr b 0)) (.inl rfl) _
  have a4 : alay h3 b 1 [w2] = some (h3.set b (.cells [.ptr q.rb 0, w2] false)) := by unfold alay; rw [bg3]; rfl
  have T4 := T3.upd (i := 0) (v := .ptr b 0) (o := .blk [.ptr q.rb 0, q.lv]) rfl K4 (v' := .ptr b 0) (o' := .blk [.ptr q.rb 0, w2]) ⟨b, rfl, bl3, get_set_self _ _ _⟩ (From.refl _ _)
  have S4 : Stp h (q.th b L) (h3.set b (.cells [.ptr q.rb 0, w2] false)) (r2 b q.rb w2 (A ++ B) ++ r1.th q.rb q.rv) := S1.op T4
  refine ⟨⟨q.rb, r1, q.rv, w2⟩, _, ?_, S4, R1⟩
  have Kn : Keep h1.next nob h1 (h1.new (.cells [] false)) := Keep.new (Nat.le_refl _) _
  obtain ⟨hn, en⟩ : ∃ hn, h1.new (.cells [] false) = hn := ⟨_, rfl⟩
  rw [en] at c2 Kn
  have ln : ∀ {ty : TypeId}, tagg Try.prog ty = some false → aload Try.prog hn ty b 1 = some q.lv := (r2_ld (O21.ext Kn)).2
  have l2' : ∀ {ty : TypeId}, tagg Try.prog ty = some false → aload Try.prog h2 ty b 1 = some q.lv := (r2_ld (O21.ext c8)).2
  have agn : Agree h1.next h1 hn := fun c hc => Kn.2 c hc id
  have ag2 : Agree hn.next hn h2 ∨ True := .inr trivial
  have ag12 : Agree h1.next hn h2 := fun c hc => by rw [c8.2 c hc id, Kn.2 c hc id]
  have ow : w2.one = true := c5.oneV
  have row := row1_one ow
  have sl := M1.sl.same
  have fj : fwrap .i64 ((A.length : Int) + 1) = (A.length : Int) + 1 := i64w _ (by omega) (by omega)
  rw [acall_text [1] Try.func41 (by kernel_rfl)]
  refine afuncT_of rfl (by simp [Try.f41]) ?_
  simp [Try.f41, l0, l1, ix, hd, E1]
  refine W_split 13 h1.next (by rfl) (by kernel_rfl) (by rfl) ?_
  dsimp only [List.take, List.drop]
  simp [obl, mayEff, mayRead, sameAV, bg, aalloc, afill, en, agn, ln, sl, c1, c2, ag12, l2', fj, c3, c4, row, a4]
theorem findK_pre {A B : List Itm} {y : Itm} (nd : ((A ++ y :: B).map (·.key)).Nodup) : findK y.key A = none := by
  rw [List.map_append, List.map_cons] at nd
  obtain ⟨_, n1, _⟩ := nodup_cut nd
  exact findK_none.2 fun z hz e => n1 (List.mem_map.2 ⟨z, hz, e⟩)
theorem rdrop_ok {P Q : Nat} {s s' : Sb} (I : SlI P Q s) (R : RelS s q.r) {key : ByteArray} {L' : List Itm} (D : DropR key L s L' s') (nd : (L.map (·.key)).Nodup) (hl : L.length < 100000) (k : Nat) (hk : 200000 < k) (O : Hold h (q.th b L)) :
    ∃ (q' : Rst) (h' : Heap), acall Try.prog (k + 4) 24 [.ptr b 0, .str key] h = some (.bool (findK key L).isSome, h') ∧ Stp h (q.th b L) h' (q'.th b L') ∧ RelS s' q'.r := by
  obtain ⟨f1, f2⟩ := rfind_ok (k + 2) O hl (by omega) key
  cases D with
  | no hno =>
    have E1 := f1 hno
    refine ⟨q, h, ?_, Stp.refl O, R⟩
    rw [hno]
    rw [acall_text [] Try.func24 (by kernel_rfl)]
    refine afuncT_of rfl (by simp [Try.f24]) ?_
    simp [Try.f24, E1]
  | @yes A B y _ _ hk' hf =>
    subst hk'
    have E1 := f2 A B y rfl rfl (findK_pre nd)
    obtain ⟨q2, h2, E2, S2, R2⟩ := rout_ok I R rfl hf hl k (by omega) O
    refine ⟨q2, h2, ?_, S2, R2⟩
    rw [findK_at nd]
    rw [acall_text [] Try.func24 (by kernel_rfl)]
    refine afuncT_of rfl (by simp [Try.f24]) ?_
    simp [Try.f24, E1, isLe (show (0 : Int) ≤ (A.length : Int) by omega), E2]
theorem rpin_ok {key : ByteArray} {pin : Bool} {L' : List Itm} (D : PinR key pin L L') (nd : (L.map (·.key)).Nodup) (hl : L.length < 100000) (k : Nat) (hk : 200000 < k) (O : Hold h (q.th b L)) :
    ∃ (h' : Heap), acall Try.prog (k + 4) 23 [.ptr b 0, .str key, .bool pin] h = some (.bool (findK key L).isSome, h') ∧ Stp h (q.th b L) h' (q.th b L') := by
  obtain ⟨f1, f2⟩ := rfind_ok (k + 2) O hl (by omega) key
  cases D with
  | no hno =>
    have E1 := f1 hno
    refine ⟨h, ?_, Stp.refl O⟩
    rw [hno]
    rw [acall_text [] Try.func23 (by kernel_rfl)]
    refine afuncT_of rfl (by simp [Try.f23]) ?_
    simp [Try.f23, E1]
  | @yes A B y hk' =>
    subst hk'
    have E1 := f2 A B y rfl rfl (findK_pre nd)
    obtain ⟨O2, _⟩ := rst_hold O
    obtain ⟨_, l1⟩ := r2_ld O2
    have M := r2_lv O2
    obtain ⟨s1, s2, _⟩ := split_at (A := A) (B := B) (y := y) rfl
    have ix := rC_idx M s2
    have hlM := M.length
    obtain ⟨h2, a2, M2, K2, _⟩ := M.lay (j := A.length * 4 + 3) (vs := [.bool pin]) (by simp only [List.length_singleton]; omega) (by omega) rfl
    rw [List.length_singleton, cat_set1 rC_len s1 (y := { y with pin := pin }) (by omega) rfl] at M2
    rw [← Nat.add_assoc] at a2
    have eL : (A ++ y :: B).set A.length { y with pin := pin } = A ++ { y with pin := pin } :: B := by simp
    rw [eL] at M2
    have M2' : Mine 4 (A ++ { y with pin := pin } :: B).length h2 q.lv (cat rC (A ++ { y with pin := pin } :: B)) := by
      have : (A ++ { y with pin := pin } :: B).length = (A ++ y :: B).length := by simp
      rw [this]
      exact M2
    have T2 := (Stp.refl O2).upd (i := 1) (v := q.lv) (o := .vec 4 (A ++ y :: B).length (cat rC (A ++ y :: B))) rfl K2 (v' := q.lv) (o' := .vec 4 (A ++ { y with pin := pin } :: B).length (cat rC (A ++ { y with pin := pin } :: B))) M2' (From.refl _ _)
    refine ⟨h2, ?_, (Stp.refl O).op T2⟩
    rw [findK_at nd]
    rw [acall_text [] Try.func23 (by kernel_rfl)]
    refine afuncT_of rfl (by simp [Try.f23]) ?_
    simp [Try.f23, E1, isLe (show (0 : Int) ≤ (A.length : Int) by omega), l1, ix, a2]
theorem rskeys_ok (hl : L.length < 100000) (k : Nat) (hk : 200000 < k) (O : Hold h (q.th b L)) :
    ∃ v' h', acall Try.prog (k + 1) 26 [.ptr b 0] h = some (v', h') ∧ Mine 1 L.length h' v' (ks L) ∧ (∀ d, Has v' d → h.next ≤ d) ∧ Keep h.next nob h h' := by
  rw [acall_text [] Try.func26 (by kernel_rfl)]
  refine afuncT_ex rfl (by simp [Try.f26]) ?_
  simp [Try.f26]
  refine W_loop (fun m st => ∃ (j : Nat) (v : AV), m = L.length - j ∧ j ≤ L.length ∧ st.t.get 0 = some (.ptr b 0) ∧ st.t.get 4 = some (.int .i64 (j : Nat)) ∧ st.t.get 3 = some v ∧ Mine 1 j st.h v (ks (L.take j)) ∧ (∀ d, Has v d → h.next ≤ d) ∧ Keep h.next nob h st.h) L.length (by omega)
    ⟨0, .nils, rfl, Nat.zero_le _, by simp, by simp, by simp, Mine.nil 1 h, fun d hd => (by cases hd), Keep.refl _ _ _⟩ ?_
  rintro m ⟨t, h1⟩ ⟨j, v, rfl, hj, q0, q4, q3, Mv, hv, K1⟩
  simp only at q0 q4 q3 Mv K1
  have O1 := O.ext K1
  obtain ⟨O2, _⟩ := rst_hold O1
  obtain ⟨_, l1⟩ := r2_ld O2
  have M := r2_lv O2
  have lm := M.sl.len'
  by_cases hlt : j < L.length
  · obtain ⟨y, hy⟩ : ∃ y, L[j]? = some y := ⟨_, List.getElem?_eq_getElem hlt⟩
    have ix := rC_idx M hlt
    have ld := rC_ld M hy (o := 0) (x := .str y.key) (by omega) rfl (ty := 9) ta9
    rw [Nat.add_zero] at ld
    obtain ⟨v', h2, a2, M2, F2, K2⟩ := Mv.push (P := Try.prog) el26 (a := [.str y.key]) (ex := true) rfl rfl (by omega)
    have K12 : Keep h.next nob h h2 := K1.trans (K2.weak K1.1 fun d hd q => by have := hv d q; omega)
    simp [q0, q4, q3, l1, lm, isLt (show (j : Int) < (L.length : Int) by omega), ix, ld, aalloc, afill, a2, i64w ((j : Int) + 1) (by omega) (by omega)]
    refine ⟨L.length - (j + 1), by omega, j + 1, rfl, by omega, by simp, ?_, fun d hd => ?_, K12⟩
    · have : ks (L.take (j + 1)) = ks (L.take j) ++ [.str y.key] := by
        unfold ks
        rw [List.take_add_one, hy, List.map_append]
        rfl
      rw [this]
      exact M2
    · rcases F2 d hd with z | z
      · exact hv d z
      · exact Nat.le_trans K1.1 z
  · have e : j = L.length := by omega
    subst e
    rw [List.take_of_length_le (Nat.le_refl _)] at Mv
    simp [q0, q4, q3, l1, lm, isLe (show (L.length : Int) ≤ (L.length : Int) by omega)]
    exact ⟨Mv, hv, K1⟩
end
end Go.Proofs.Ytelnkdgpghndgaa
