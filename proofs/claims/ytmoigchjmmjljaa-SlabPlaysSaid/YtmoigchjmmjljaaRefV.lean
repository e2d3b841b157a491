/- Contracts of depotref5.Slab: Alloc. -/
import Derived.Test.YtmoigchjmmjljaaRefU
import Derived.Test.YtmoigchjmmjljaaSlabP
namespace Go.Proofs.Ytmoigchjmmjljaa
open Go Go.YtmoigchjmmjljaaAbs
set_option linter.unusedSimpArgs false
set_option linter.unusedVariables false
set_option maxRecDepth 4000

/-- A text and a mark more. -/
theorem RO.grow {h : Heap} {b : Nat} {r : Rb} {vc : AV} (O : RO h b r vc) {i : Nat} {c : Rc} (hi : r.cls[i]? = some c) (hd : c.data.length < 1000000000) (hl : c.live.length < 1000000000) :
    ∃ v1 h4 v2 h5 h6 h7, aappend Try.prog ((h.bump 20).at_ (h.next + 6) (.cells [.str ⟨#[]⟩] false)) 59 59 c.dv (.sl (h.next + 6) 0 1 1 1 true) = some (v1, h4) ∧ nextOk h.next 20 h4 = true ∧ AgreeG (Has vc) ((h.bump 20).at_ (h.next + 6) (.cells [.str ⟨#[]⟩] false)) h4 ∧ Keep h.next (Has c.dv) h h4 ∧
      aappend Try.prog (h4.at_ (h.next + 12) (.cells [.bool false] false)) 68 68 c.lv (.sl (h.next + 12) 0 1 1 1 true) = some (v2, h5) ∧ nextOk h.next 20 h5 = true ∧ AgreeG (Has vc) (h4.at_ (h.next + 12) (.cells [.bool false] false)) h5 ∧
      alay h5 vc.blk (vc.off + i * 5 + 3) [v1] = some h6 ∧ alay h6 vc.blk (vc.off + i * 5 + 4) [v2] = some h7 ∧ nextOk h.next 20 h6 = true ∧ nextOk h.next 20 h7 = true ∧ v1.one = true ∧ v2.one = true ∧
      Stp h (r.th b vc) h7 (Rb.th { r with cls := r.cls.set i { c with data := c.data ++ [.empty], live := c.live ++ [false], dv := v1, lv := v2 } } b vc) := by
  have hil := (List.getElem?_eq_some_iff.1 hi).1
  obtain ⟨a0, a1, a2⟩ := RO.at O hi
  obtain ⟨v1, h4, v2, h5, e1, n1, g1, k1, e2, n2, g2, m1, m2, K, f1, f2, dj, o1, o2⟩ := push2 (P := Try.prog) el59 el68 (RO.data O hi) (RO.live O hi) (fun d hd => Hold.ne O a1 a2 (by omega) hd) (a1 := [.str ⟨#[]⟩]) (a2 := [.bool false]) rfl rfl rfl rfl hd hl 20 6 12 (by omega) (by omega)
  obtain ⟨p1, p2, p3⟩ := Hold.upd2 (v' := v1) (w' := v2) O a1 a2 (by omega) K (o' := .vec 1 (c.data.length + 1) (c.data.map sv ++ [AV.str ⟨#[]⟩])) (p' := .vec 1 (c.live.length + 1) (c.live.map bv ++ [AV.bool false])) m1 m2 f1 f2 dj
  have Mv : Mine 5 r.cls.length h5 vc (cat Rc.c r.cls) := p1.get (i := 1) (v := vc) (o := .vec 5 r.cls.length (cat Rc.c r.cls)) (by
    rw [List.getElem?_set_ne (by omega), List.getElem?_set_ne (by omega)]; rfl)
  obtain ⟨h6, b1, b2, b3, b4⟩ := Mv.lay (j := i * 5 + 3) (vs := [v1]) (by rw [cat_len Rc.c_len]; simp; omega) (by omega) (by simp [o1])
  have c1 := cat_set1 (f := Rc.c) (sz := 5) Rc.c_len hi (o := 3) (by omega) (a := v1) (y := { c with dv := v1 }) rfl
  rw [show i * 5 + 3 + [v1].length = i * 5 + 3 + 1 from rfl, c1] at b2
  have hi1 : (r.cls.set i { c with dv := v1 })[i]? = some { c with dv := v1 } := by simp [hil]
  obtain ⟨h7, d1, d2, d3, d4⟩ := b2.lay (j := i * 5 + 4) (vs := [v2]) (by rw [cat_len Rc.c_len]; simp; omega) (by omega) (by simp [o2])
  have c2 := cat_set1 (f := Rc.c) (sz := 5) Rc.c_len hi1 (o := 4) (by omega) (a := v2) (y := { c with data := c.data ++ [.empty], live := c.live ++ [false], dv := v1, lv := v2 }) rfl
  rw [show i * 5 + 4 + [v2].length = i * 5 + 4 + 1 from rfl, c2, List.set_set] at d2
  have b3' : Keep h5.next (Has vc) h5 h7 := b3.trans (by rw [← b4]; exact d3)
  have idx1 : (((r.th b vc).set (i * 3 + 1 + 2) (v1, .vec 1 (c.data.length + 1) (c.data.map sv ++ [AV.str ⟨#[]⟩]))).set (i * 3 + 2 + 2) (v2, .vec 1 (c.live.length + 1) (c.live.map bv ++ [AV.bool false])))[1]? = some (vc, .vec 5 r.cls.length (cat Rc.c r.cls)) := by
    rw [List.getElem?_set_ne (by omega), List.getElem?_set_ne (by omega)]; rfl
  obtain ⟨q1, q2, q3⟩ := Hold.upd p1 idx1 b3' (o' := .vec 5 r.cls.length (cat Rc.c (r.cls.set i { c with data := c.data ++ [.empty], live := c.live ++ [false], dv := v1, lv := v2 }))) d2 (From.refl _ _)
  have eth : Rb.th { r with cls := r.cls.set i { c with data := c.data ++ [.empty], live := c.live ++ [false], dv := v1, lv := v2 } } b vc = (((r.th b vc).set (i * 3 + 1 + 2) (v1, .vec 1 (c.data.length + 1) (c.data.map sv ++ [AV.str ⟨#[]⟩]))).set (i * 3 + 2 + 2) (v2, .vec 1 (c.live.length + 1) (c.live.map bv ++ [AV.bool false]))).set 1 (vc, .vec 5 r.cls.length (cat Rc.c (r.cls.set i { c with data := c.data ++ [.empty], live := c.live ++ [false], dv := v1, lv := v2 }))) := by
    unfold Rb.th
    simp only [List.length_set]
    have s1 := gcat_set (f := Rc.th) Rc.th_len hi (o := 1) (by omega) (a := (v1, .vec 1 (c.data.length + 1) (c.data.map sv ++ [AV.str ⟨#[]⟩]))) (y := { c with data := c.data ++ [.empty], dv := v1 }) (by simp [Rc.th]; rfl)
    have hi2 : (r.cls.set i { c with data := c.data ++ [.empty], dv := v1 })[i]? = some { c with data := c.data ++ [.empty], dv := v1 } := by simp [hil]
    have s2 := gcat_set (f := Rc.th) Rc.th_len hi2 (o := 2) (by omega) (a := (v2, .vec 1 (c.live.length + 1) (c.live.map bv ++ [AV.bool false]))) (y := { c with data := c.data ++ [.empty], live := c.live ++ [false], dv := v1, lv := v2 }) (by simp [Rc.th]; rfl)
    rw [List.set_set, ← s1] at s2
    rw [← s2]
    rfl
  rw [← Nat.add_assoc] at b1 d1
  have nx : ∀ {h' : Heap}, h5.next ≤ h'.next → nextOk h.next 20 h' = true := fun hh => by
    unfold nextOk at n2 ⊢
    have := Nat.le_of_ble_eq_true n2
    exact Nat.ble_eq_true_of_le (by omega)
  refine ⟨v1, h4, v2, h5, h6, h7, e1, n1, g1 _ fun d hd => ⟨(RO.own O).lt hd, Hold.ne O (i := 1) rfl a1 (by omega) hd⟩, k1, e2, n2, g2 _ fun d hd => ⟨(RO.own O).lt hd, Hold.ne O (i := 1) rfl a2 (by omega) hd⟩, b1, d1, nx b3.1, nx b3'.1, o1, o2, ?_⟩
  rw [eth]
  exact ⟨q1, p2.trans q2 K.1, keep_two p3 p2 q3⟩
/-- What a class was made, on the way. -/
structure FilR (h0 : Heap) (b : Nat) (r : Rb) (vc : AV) (n0 i : Nat) (c : Rc) (left : Nat) (F : List Nat) (cnt : Nat) (D : List ByteArray) (L : List Bool) (h3 : Heap) (c3 : Rc) : Prop where
  size : c3.size = c.size
  free : c3.free = F
  count : c3.count = cnt
  data : c3.data = D
  live : c3.live = L
  s : Stp h0 (r.th b vc) h3 (Rb.th ⟨r.page, left, r.cls.set i c3⟩ b vc ++ [(.ptr n0 0, .blk [.int .i64 0, .int .i64 0])])
theorem rlp {n cnt : Nat} {F : List Nat} {C : List Nat} (hF : F = if C = [] then fl n cnt n else C) (hn : 1 ≤ n) (hn2 : n ≤ 65536) (hC : C.length ≤ 1000000) : 1 ≤ F.length ∧ F.length ≤ 1000000 := by
  rw [hF]
  split
  · rw [fl_len]; omega
  · rename_i q
    have := List.length_pos_iff.2 q
    omega
set_option maxHeartbeats 4000000 in
theorem ralloc_ok (k : Nat) (hk : 70000 < k) (h : Heap) (b : Nat) (r : Rb) (vc : AV) (O : RO h b r vc) (I : RbI r) (hl : r.cls.length ≤ 20) (d : ByteArray) {i : Nat} {c : Rc} (hc : clsS (d.size : Nat) (r.cls.map (·.size)) = some i) (hi : r.cls[i]? = some c)
    (hp : r.page ≤ 65536) (hlu : r.left ≤ 1000) (hs : 1 ≤ c.size ∧ c.size ≤ r.page) (hflt : ∀ x, x ∈ c.free → x < c.count) (hroom : c.free ≠ [] ∨ r.left ≠ 0) :
    ∃ v' h', acall Try.prog (k + 2) 19 [.ptr b 0, .str d] h = some (v', h') ∧ ∃ (c2 : Rc) (F : List Nat) (cnt left K : Nat),
      F = (if c.free = [] then fl (r.page / c.size) c.count (r.page / c.size) else c.free) ∧ cnt = (if c.free = [] then c.count + r.page / c.size else c.count) ∧ left = (if c.free = [] then r.left - 1 else r.left) ∧ F[F.length - 1]? = some K ∧
      v' = .tup [.agg [.int .i64 (i : Nat), .int .i64 (K : Nat)], .int .i64 0] ∧ c2.size = c.size ∧ c2.free = F.take (F.length - 1) ∧ c2.count = cnt ∧ c2.data = (c.data ++ List.replicate (cnt - c.count) ByteArray.empty).set K d ∧ c2.live = (c.live ++ List.replicate (cnt - c.count) false).set K true ∧
      Stp h (r.th b vc) h' (Rb.th ⟨r.page, left, r.cls.set i c2⟩ b vc) := by
  have hil := (List.getElem?_eq_some_iff.1 hi).1
  have J := I i c hi
  obtain ⟨n0, hn0⟩ : ∃ n0, n0 = h.next := ⟨_, rfl⟩
  obtain ⟨h1, e1⟩ : ∃ h1, h.new (.cells [.int .i64 0, .int .i64 0] false) = h1 := ⟨_, rfl⟩
  have k1 : Keep h.next nob h h1 := by rw [← e1]; exact Keep.new (Nat.le_refl _) _
  have H1 : Holds h1 (.ptr n0 0) (.blk [.int .i64 0, .int .i64 0]) := ⟨n0, rfl, by rw [← e1, hn0]; exact Nat.lt_succ_self _, by rw [← e1, hn0]; exact get_new_self _ _⟩
  have S1 := (Stp.refl O).snoc k1 H1 (fun d hd => by cases hd; omega)
  obtain ⟨_, h2, E2, e2, rfl⟩ := rclass_ok k (by omega) h1 b r vc S1.a hl d.size
  replace e2 := e2.symm
  subst e2
  rw [hc] at E2
  simp only at E2
  have O1 := S1.a
  have l2 := RO.ld2 O1 (ty := 54) ta54
  have ix := (RO.own O1).sl.idx (P := Try.prog) Try.underlying54 ts70 (j := i) hil .i64
  have lf := RO.ldc O1 hi (o := 2) (x := c.fv) (by omega) rfl (ty := 27) ta27
  have flen := (RO.free O1 hi).sl.len'
  obtain ⟨N, hN⟩ : ∃ N, N = r.page / c.size := ⟨_, rfl⟩
  have hN1 : 1 ≤ N := by rw [hN]; exact (Nat.le_div_iff_mul_le (by omega)).2 (by omega)
  have hN2 : N ≤ 65536 := by rw [hN]; exact Nat.le_trans (Nat.div_le_self _ _) hp
  obtain ⟨F, hF⟩ : ∃ F, F = (if c.free = [] then fl N c.count N else c.free) := ⟨_, rfl⟩
  obtain ⟨cnt, hcn⟩ : ∃ cnt, cnt = (if c.free = [] then c.count + N else c.count) := ⟨_, rfl⟩
  obtain ⟨left, hle⟩ : ∃ left, left = (if c.free = [] then r.left - 1 else r.left) := ⟨_, rfl⟩
  have hFl := rlp hF hN1 hN2 J.fl
  obtain ⟨D, hD⟩ : ∃ D, D = c.data ++ List.replicate (cnt - c.count) (.empty : ByteArray) := ⟨_, rfl⟩
  obtain ⟨Lv, hLv⟩ : ∃ Lv, Lv = c.live ++ List.replicate (cnt - c.count) false := ⟨_, rfl⟩
  have jc := J.cs; have jd := J.dl; have jl := J.ll
  have hcc : c.count ≤ cnt ∧ cnt ≤ 1100000 := by rw [hcn]; split <;> omega
  have hDl : D.length = cnt := by rw [hD, List.length_append, List.length_replicate]; omega
  have hLl : Lv.length = cnt := by rw [hLv, List.length_append, List.length_replicate]; omega
  have ce : r.cls.set i c = r.cls := set_same' hi
  rw [acall_text [12, 15] Try.func19 (by kernel_rfl)]
  refine afuncT_ex rfl (by simp [Try.f19]) ?_
  simp [Try.f19, e1, ← hn0, E2, -W_regionL, W_stopL 5]
  simp [l2, ix, -W_regionL, W_stopL 5]
  refine W_cutN (fun st => st.h = h1 ∧ st.t.get 0 = some (.ptr b 0) ∧ st.t.get 1 = some (.str d) ∧ st.t.get 4 = some (.ptr n0 0) ∧ st.t.get 6 = some (.int .i64 (i : Nat)) ∧ st.t.get 7 = some (.ptr vc.blk (vc.off + i * 5)) ∧ st.t.get 28 = some (.bool (decide (c.free = [])))) ?_ ?_
  · rw [W_regionL rfl]
    simp [lf, flen]
  rintro ⟨t, h2⟩ ⟨e2, q0, q1, q4, q6, q7, q28⟩
  simp only at e2 q0 q1 q4 q6 q7 q28
  replace e2 := e2.symm
  subst e2
  simp only [onEx_normal]
  refine W_cutN (fun st => ∃ c3, st.t.get 1 = some (.str d) ∧ st.t.get 4 = some (.ptr n0 0) ∧ st.t.get 6 = some (.int .i64 (i : Nat)) ∧ st.t.get 7 = some (.ptr vc.blk (vc.off + i * 5)) ∧ FilR h b r vc n0 i c left F cnt D Lv st.h c3) ?_ ?_
  · by_cases hf : c.free = []
    rotate_left
    · rw [decide_eq_false hf] at q28
      rw [if_neg hf] at hF hcn hle
      subst hF hcn hle
      rw [Nat.sub_self, List.replicate_zero, List.append_nil] at hD hLv
      simp [q28, q1, q4, q6, q7]
      exact ⟨c, rfl, rfl, rfl, hD.symm, hLv.symm, by rw [ce]; exact S1⟩
    rw [decide_eq_true hf] at q28
    rw [if_pos hf] at hF hcn hle
    have hl0 : r.left ≠ 0 := hroom.resolve_left (fun q => q hf)
    have l1 := RO.ld1 O1 (ty := 3) ta3
    have w1 := i64w ((r.left : Int) - 1) (by omega) (by omega)
    obtain ⟨h2, E2', O2, f2, K2, n2⟩ := RO.setL O1 left
    have al2 : alay h1 b 1 [.int .i64 ((r.left : Int) - 1)] = some h2 := by
      rw [← E2']; congr 3; omega
    have S2 := S1.op ⟨O2, f2, K2⟩
    have l02 := RO.ld0 S2.a (ty := 3) ta3
    have lz2 := RO.ldc S2.a hi (o := 0) (x := .int .i64 (c.size : Nat)) (by omega) rfl (ty := 3) ta3
    simp only [Nat.add_zero] at lz2 l02
    have hsz0 : ¬ ((c.size : Int) = 0) := by omega
    have hsz1 : ¬ (c.size = 0) := by omega
    have hdiv : ((r.page : Int)).tdiv (c.size : Int) = (N : Nat) := by rw [hN]; rfl
    have wN := i64w (N : Int) (by omega) (by omega)
    have wN1 := i64w ((N : Int) - 1) (by omega) (by omega)
    have hl0' : ¬ ((r.left : Int) = 0) := by omega
    have fl0 : FilR h b r vc n0 i c left (fl N c.count 0) c.count c.data c.live h2 c := ⟨rfl, hf, rfl, rfl, rfl, by rw [ce]; exact S2⟩
    simp [q28, q0, q1, q4, q6, q7, l1, hl0, hl0', w1, al2, l02, lz2, hsz0, hsz1, hdiv, wN, wN1]
    refine W_cutLoop 0 (fun st => ∃ c3, st.t.get 0 = some (.ptr b 0) ∧ st.t.get 1 = some (.str d) ∧ st.t.get 4 = some (.ptr n0 0) ∧ st.t.get 6 = some (.int .i64 (i : Nat)) ∧ st.t.get 7 = some (.ptr vc.blk (vc.off + i * 5)) ∧ FilR h b r vc n0 i c left (fl N c.count N) c.count c.data c.live st.h c3) ?_ ?_
    · refine W_loop (fun m st => ∃ (j : Nat) (c3 : Rc), m = N - j ∧ j ≤ N ∧ st.t.get 0 = some (.ptr b 0) ∧ st.t.get 1 = some (.str d) ∧ st.t.get 4 = some (.ptr n0 0) ∧ st.t.get 6 = some (.int .i64 (i : Nat)) ∧ st.t.get 7 = some (.ptr vc.blk (vc.off + i * 5)) ∧ st.t.get 8 = some (.int .i64 ((N : Int) - 1 - j)) ∧
        FilR h b r vc n0 i c left (fl N c.count j) c.count c.data c.live st.h c3) N (by omega)
        ⟨0, c, by omega, by omega, by simp [q0], by simp [q1], by simp [q4], by simp [q6], by simp [q7], by simp, fl0⟩ ?_
      clear q0 q1 q4 q6 q7 q28
      rintro m ⟨t, h5⟩ ⟨j, c3, rfl, hj, q0, q1, q4, q6, q7, q8, f⟩
      simp only at q0 q1 q4 q6 q7 q8 f
      obtain ⟨R, hR⟩ : ∃ R : Int, R = (N : Int) - 1 - j := ⟨_, rfl⟩
      rw [← hR] at q8
      by_cases hlt : j < N
      · have O5 := f.s.a
        have gi : (⟨r.page, left, r.cls.set i c3⟩ : Rb).cls[i]? = some c3 := by simp [hil]
        have lf5 := RO.ldc O5 gi (o := 2) (x := c3.fv) (by omega) rfl (ty := 27) ta27
        have lc5 := RO.ldc O5 gi (o := 1) (x := .int .i64 (c3.count : Nat)) (by omega) rfl (ty := 3) ta3
        obtain ⟨hv, vlt⟩ := RO.vlt O5 gi
        obtain ⟨E, hE⟩ : ∃ E : Nat, E = c.count + (N - 1 - j) := ⟨_, rfl⟩
        have eE : (c3.count : Int) + R = (E : Nat) := by rw [f.count]; omega
        have wE := i64w (E : Int) (by omega) (by omega)
        obtain ⟨h6, e6⟩ : ∃ h6, h5.new (.cells [.int .i64 (E : Nat)] false) = h6 := ⟨_, rfl⟩
        have k6 : Keep h5.next nob h5 h6 := by rw [← e6]; exact Keep.new (Nat.le_refl _) _
        obtain ⟨v7, h7, E7, M7, F7, K7⟩ := (RO.free O5 gi).push (P := Try.prog) el27 (a := [.int .i64 (E : Nat)]) (ex := true) rfl rfl (by rw [f.free, fl_len]; omega)
        rw [e6] at E7
        obtain ⟨h8, E8, T8, n8⟩ := RO.upd' O5 gi { c3 with free := c3.free ++ [E], fv := v7 } (w := 0) (by omega) rfl rfl (o' := .vec 1 (c3.free ++ [E]).length ((c3.free ++ [E]).map nn)) rfl K7 (by rw [List.length_append, List.length_singleton, List.map_append]; exact M7) F7 M7.oneV
        have S8 := f.s.op T8
        simp only [List.set_set] at S8
        have f8 : FilR h b r vc n0 i c left (fl N c.count (j + 1)) c.count c.data c.live h8 { c3 with free := c3.free ++ [E], fv := v7 } := ⟨f.size, by simp only; rw [f.free, fl_succ, hE], f.count, f.data, f.live, S8⟩
        have w10 := i64w (R - 1) (by omega) (by omega)
        have ro := row1_one M7.oneV
        have A6 : Agree h5.next h5 h6 := fun e he => k6.2 e he id
        simp [q0, q1, q4, q6, q7, q8, isLe (show (0 : Int) ≤ R by omega)]
        refine W_split 12 h5.next (by rfl) (by kernel_rfl) (by rfl) ?_
        dsimp only [List.take, List.drop]
        have sfv : sameAV c3.fv c3.fv = true := (RO.free O5 gi).sl.same
        simp [q0, q1, q4, q6, q7, q8, obl, mayEff, mayRead, sameAV, vlt, lf5, sfv, lc5, eE, wE, aalloc, afill, e6, A6, E7, ro, E8, w10]
        exact ⟨N - (j + 1), by omega, j + 1, rfl, by omega, by omega, _, f8⟩
      · have : j = N := by omega
        subst this
        simp [q0, q1, q4, q6, q7, q8, isLt (show R < 0 by omega)]
        exact ⟨c3, f⟩
    clear q0 q1 q4 q6 q7 q28
    rintro ⟨t, h5⟩ ⟨c3, q0, q1, q4, q6, q7, f⟩
    simp only at q0 q1 q4 q6 q7 f
    have O5 := f.s.a
    have gi : (⟨r.page, left, r.cls.set i c3⟩ : Rb).cls[i]? = some c3 := by simp [hil]
    have lc5 := RO.ldc O5 gi (o := 1) (x := .int .i64 (c3.count : Nat)) (by omega) rfl (ty := 3) ta3
    have lz5 := RO.ldc O5 gi (o := 0) (x := .int .i64 (c3.size : Nat)) (by omega) rfl (ty := 3) ta3
    have l05 := RO.ld0 O5 (ty := 3) ta3
    rw [f.size] at lz5
    simp only [Nat.add_zero] at lz5 l05
    obtain ⟨h6, E6, O6, f6, K6, n6⟩ := RO.updN O5 gi (c2 := { c3 with count := cnt }) (w := 1) (by omega) (a := .int .i64 (cnt : Nat)) rfl rfl rfl
    have S6 := f.s.op ⟨O6, f6, K6⟩
    simp only [List.set_set] at S6
    have ec : (c3.count : Int) + (N : Int) = (cnt : Nat) := by rw [f.count, hcn]; rfl
    have wc := i64w (cnt : Int) (by omega) (by omega)
    have g0 : FilR h b r vc n0 i c left F cnt (c.data ++ List.replicate 0 ByteArray.empty) (c.live ++ List.replicate 0 false) h6 { c3 with count := cnt } := ⟨f.size, by simp only; rw [f.free, hF], rfl, by simp [f.data], by simp [f.live], S6⟩
    simp [q0, q1, q4, q6, q7, lc5, lz5, l05, hsz0, hsz1, hdiv, wN, ec, wc, E6]
    refine W_cutLoop 2 (fun st => ∃ c3, st.t.get 1 = some (.str d) ∧ st.t.get 4 = some (.ptr n0 0) ∧ st.t.get 6 = some (.int .i64 (i : Nat)) ∧ st.t.get 7 = some (.ptr vc.blk (vc.off + i * 5)) ∧ FilR h b r vc n0 i c left F cnt D Lv st.h c3) ?_ ?_
    · refine W_loop (fun m st => ∃ (j : Nat) (c3 : Rc), m = N - j ∧ j ≤ N ∧ st.t.get 1 = some (.str d) ∧ st.t.get 4 = some (.ptr n0 0) ∧ st.t.get 6 = some (.int .i64 (i : Nat)) ∧ st.t.get 7 = some (.ptr vc.blk (vc.off + i * 5)) ∧
        FilR h b r vc n0 i c left F cnt (c.data ++ List.replicate j ByteArray.empty) (c.live ++ List.replicate j false) st.h c3) N (by omega)
        ⟨0, _, by omega, by omega, by simp [q1], by simp [q4], by simp [q6], by simp [q7], g0⟩ ?_
      clear q0 q1 q4 q6 q7
      rintro m ⟨t, h7⟩ ⟨j, c4, rfl, hj, q1, q4, q6, q7, g⟩
      simp only at q1 q4 q6 q7 g
      have O7 := g.s.a
      have gi : (⟨r.page, left, r.cls.set i c4⟩ : Rb).cls[i]? = some c4 := by simp [hil]
      have lc7 := RO.ldc O7 gi (o := 1) (x := .int .i64 (c4.count : Nat)) (by omega) rfl (ty := 3) ta3
      have ld7 := RO.ldc O7 gi (o := 3) (x := c4.dv) (by omega) rfl (ty := 59) ta59
      have dl7 := (RO.data O7 gi).sl.len'
      have hdl : c4.data.length = c.count + j := by rw [g.data, List.length_append, List.length_replicate]; omega
      have hll : c4.live.length = c.count + j := by rw [g.live, List.length_append, List.length_replicate]; omega
      rw [hdl] at dl7
      rw [g.count] at lc7
      by_cases hlt : j < N
      · obtain ⟨v1, h8, v2, h9, h10, h11, a1, a2, a3, a4, a5, a6, a7, a8, a9, a10, a11, o1, o2, T⟩ := RO.grow O7 gi (by omega) (by omega)
        have S11 := g.s.op T
        simp only [List.set_set] at S11
        have f11 : FilR h b r vc n0 i c left F cnt (c.data ++ List.replicate (j + 1) ByteArray.empty) (c.live ++ List.replicate (j + 1) false) h11 { c4 with data := c4.data ++ [.empty], live := c4.live ++ [false], dv := v1, lv := v2 } :=
          ⟨g.size, g.free, g.count, by simp only; rw [g.data, List.replicate_succ', List.append_assoc], by simp only; rw [g.live, List.replicate_succ', List.append_assoc], S11⟩
        obtain ⟨hv, vlt⟩ := RO.vlt O7 gi
        have at1 := (RO.at O7 gi).2.1
        have Mv8 : Mine 5 (⟨r.page, left, r.cls.set i c4⟩ : Rb).cls.length h8 vc (cat Rc.c (⟨r.page, left, r.cls.set i c4⟩ : Rb).cls) := (RO.own O7).keep a4 fun d hd => Hold.ne O7 (i := 1) rfl at1 (by omega) hd
        have ll8 : aload Try.prog h8 68 vc.blk (vc.off + i * 5 + 4) = some c4.lv := by
          rw [Nat.add_assoc]
          exact Mv8.sl.ld (P := Try.prog) ta68 (by rw [cat_get Rc.c_len gi (by omega)]; rfl)
        have ld7b : aload Try.prog (h7.bump 20) 59 vc.blk (vc.off + i * 5 + 3) = some c4.dv := ld7
        have ro1 := row1_one o1
        have ro2 := row1_one o2
        have rws : (AV.str ⟨#[]⟩).row1 = some [.str ⟨#[]⟩] := rfl
        have rwb : (AV.bool false).row1 = some [.bool false] := rfl
        have sdv : sameAV c4.dv c4.dv = true := (RO.data O7 gi).sl.same
        have slv : sameAV c4.lv c4.lv = true := (RO.live O7 gi).sl.same
        simp [q1, q4, q6, q7, ld7, dl7, lc7, isLt (show ((c.count : Int) + (j : Int)) < (cnt : Int) by omega)]
        refine W_lateG [0, 0, 0, 4, 12, 28, 0, 124, 0, 256, 768, 1792, 0, 8188, 16381, 32765, 65533, 131071, 262143, 524287] [6, 12] 12 (Has vc) (by rfl) (by kernel_rfl) (by kernel_rfl) (by kernel_rfl) (by kernel_rfl) (fun d hd => (RO.own O7).lt hd) ?_
        simp [resv, freeOk, memN, isEff, isAlloc, isStore, mayEff, mayRead, alate_build, aalloc, afill, insFl, oblG, sameAV, Nat.testBit_eq_decide_div_mod_eq, q1, q4, q6, q7, hv, rws, rwb, ld7b, sdv, a1, a2, a3, ll8, slv, a5, a6, a7, ro1, ro2, a8, a9, a10, a11]
        exact ⟨N - (j + 1), by omega, j + 1, rfl, by omega, _, f11⟩
      · have : j = N := by omega
        subst this
        have ej : cnt - c.count = j := by omega
        simp [q1, q4, q6, q7, ld7, dl7, lc7, isLe (show (cnt : Int) ≤ (c.count : Int) + (j : Int) by omega)]
        exact ⟨c4, by rw [hD, hLv, ej]; exact g⟩
    rintro ⟨t, h7⟩ ⟨c4, q1, q4, q6, q7, g⟩
    simp only at q1 q4 q6 q7 g
    simp [q1, q4, q6, q7]
    exact ⟨c4, g⟩
  clear q0 q1 q4 q6 q7 q28
  rintro ⟨t, h5⟩ ⟨c3, q1, q4, q6, q7, f⟩
  simp only at q1 q4 q6 q7 f
  simp only [onEx_normal]
  have O5 := f.s.a
  have gi : (⟨r.page, left, r.cls.set i c3⟩ : Rb).cls[i]? = some c3 := by simp [hil]
  obtain ⟨L0, hL0⟩ : ∃ L0, F.length = L0 + 1 := ⟨F.length - 1, by omega⟩
  obtain ⟨K, hK⟩ : ∃ K, F[L0]? = some K := ⟨F[L0]'(by omega), by simp⟩
  have hKc : K < cnt := by
    have hm := List.mem_of_getElem? hK
    rw [hF] at hm
    rw [hcn]
    split at hm
    · rename_i q
      rw [if_pos q]
      exact (fl_mem (Nat.le_refl _) hm).2
    · rename_i q
      rw [if_neg q]
      exact hflt K hm
  have lf5 := RO.ldc O5 gi (o := 2) (x := c3.fv) (by omega) rfl (ty := 27) ta27
  have M3 := RO.free O5 gi
  rw [f.free, hL0] at M3
  have l5 := M3.sl.len'
  have ix5 := M3.sl.idx1 (P := Try.prog) Try.underlying27 ts3 (j := L0) (by omega) .i64
  have ld5 := M3.sl.ld (P := Try.prog) ta3 (j := L0) (x := .int .i64 (K : Nat)) (by rw [List.getElem?_map, hK]; rfl)
  obtain ⟨v6, E6, M6, a6⟩ := M3.to (P := Try.prog) (ty := 27) Try.underlying27 ts3 (k := .i64) (j := L0) (by omega)
  rw [Nat.mul_one, ← List.map_take] at M6
  have lt0 : (F.take L0).length = L0 := by rw [List.length_take]; omega
  have r6 := row1_one M6.oneV
  obtain ⟨h6, A6, T6, n6⟩ := RO.upd' O5 gi { c3 with free := F.take L0, fv := v6 } (w := 0) (by omega) rfl rfl (o' := .vec 1 (F.take L0).length ((F.take L0).map nn)) rfl (Keep.refl _ _ _) (by rw [lt0]; exact M6) (fun e he => .inl (by unfold Has at *; rw [← a6]; exact he)) M6.oneV
  have S6 := f.s.op T6
  simp only [List.set_set] at S6
  have g6 : (⟨r.page, left, r.cls.set i { c3 with free := F.take L0, fv := v6 }⟩ : Rb).cls[i]? = some { c3 with free := F.take L0, fv := v6 } := by simp [hil]
  have ld6 := RO.ldc S6.a g6 (o := 3) (x := c3.dv) (by omega) rfl (ty := 59) ta59
  have ll6 := RO.ldc S6.a g6 (o := 4) (x := c3.lv) (by omega) rfl (ty := 68) ta68
  have hdl : c3.data.length = cnt := by rw [f.data, hDl]
  have hll : c3.live.length = cnt := by rw [f.live, hLl]
  have ixd := (RO.data S6.a g6).sl.idx1 (P := Try.prog) Try.underlying59 ts9 (j := K) (by simp only; omega) .i64
  have ixl := (RO.live S6.a g6).sl.idx1 (P := Try.prog) Try.underlying68 ts4 (j := K) (by simp only; omega) .i64
  simp only at ixd ixl
  obtain ⟨h7, E7, M7, K7, n7⟩ := (RO.data S6.a g6).lay1 (j := K) (x := .str d) (by simp only; omega) rfl
  simp only at E7
  have T7 := RO.updE S6.a g6 (c2 := { c3 with free := F.take L0, fv := v6, data := c3.data.set K d }) (w := 1) (by omega) rfl rfl (o' := .vec 1 (c3.data.set K d).length ((c3.data.set K d).map sv)) rfl K7 (by rw [List.map_set, List.length_set]; exact M7)
  have S7 := S6.op T7
  simp only [List.set_set] at S7
  have g7 : (⟨r.page, left, r.cls.set i { c3 with free := F.take L0, fv := v6, data := c3.data.set K d }⟩ : Rb).cls[i]? = some { c3 with free := F.take L0, fv := v6, data := c3.data.set K d } := by simp [hil]
  obtain ⟨h8, E8, M8, K8, n8⟩ := (RO.live S7.a g7).lay1 (j := K) (x := .bool true) (by simp only; omega) rfl
  simp only at E8
  have T8 := RO.updE S7.a g7 (c2 := { c3 with free := F.take L0, fv := v6, data := c3.data.set K d, live := c3.live.set K true }) (w := 2) (by omega) rfl rfl (o' := .vec 1 (c3.live.set K true).length ((c3.live.set K true).map bv)) rfl K8 (by rw [List.map_set, List.length_set]; exact M8)
  have S8 := S7.op T8
  simp only [List.set_set] at S8
  obtain ⟨b', q, nb, gb⟩ := S8.b.get (i := 0) (v := .ptr n0 0) (o := .blk [.int .i64 0, .int .i64 0]) rfl
  cases q
  have E9 : alay h8 n0 0 [.int .i64 (i : Nat), .int .i64 (K : Nat)] = some (h8.set n0 (.cells [.int .i64 (i : Nat), .int .i64 (K : Nat)] false)) := by unfold alay; rw [gb]; rfl
  have g9 : (h8.set n0 (.cells [.int .i64 (i : Nat), .int .i64 (K : Nat)] false)).get n0 = some (.cells [.int .i64 (i : Nat), .int .i64 (K : Nat)] false) := get_set_self _ _ _
  have K9 : Keep h8.next (Has (.ptr n0 0)) h8 (h8.set n0 (.cells [.int .i64 (i : Nat), .int .i64 (K : Nat)] false)) := Keep.set (F := Has (.ptr n0 0)) (.inl rfl) _
  have T9 := (Stp.refl S8.b).upd (i := 0) rfl K9 (o' := .blk [.int .i64 (i : Nat), .int .i64 (K : Nat)]) ⟨n0, rfl, nb, g9⟩ (From.refl _ _)
  have S9 := (S8.opB T9).drop
  generalize h8.set n0 (.cells [.int .i64 (i : Nat), .int .i64 (K : Nat)] false) = h9 at *
  have l9 : aload Try.prog h9 34 n0 0 = some (.agg [.int .i64 (i : Nat), .int .i64 (K : Nat)]) := by simp [aload, Heap.row, g9, ta34, ts34]
  have rwH : (AV.agg [.int .i64 (i : Nat), .int .i64 (K : Nat)]).row1 = some [.int .i64 (i : Nat), .int .i64 (K : Nat)] := rfl
  have rws : (AV.str d).row1 = some [.str d] := rfl
  have rwb : (AV.bool true).row1 = some [.bool true] := rfl
  have w5 := i64w (L0 : Int) (by omega) (by omega)
  have fin : ∃ (c2 : Rc) (F' : List Nat) (cnt' left' K' : Nat),
      F' = (if c.free = [] then fl (r.page / c.size) c.count (r.page / c.size) else c.free) ∧ cnt' = (if c.free = [] then c.count + r.page / c.size else c.count) ∧ left' = (if c.free = [] then r.left - 1 else r.left) ∧ F'[F'.length - 1]? = some K' ∧
      AV.tup [.agg [.int .i64 (i : Nat), .int .i64 (K : Nat)], .int .i64 0] = .tup [.agg [.int .i64 (i : Nat), .int .i64 (K' : Nat)], .int .i64 0] ∧ c2.size = c.size ∧ c2.free = F'.take (F'.length - 1) ∧ c2.count = cnt' ∧ c2.data = (c.data ++ List.replicate (cnt' - c.count) ByteArray.empty).set K' d ∧ c2.live = (c.live ++ List.replicate (cnt' - c.count) false).set K' true ∧
      Stp h (r.th b vc) h9 (Rb.th ⟨r.page, left', r.cls.set i c2⟩ b vc) :=
    ⟨{ c3 with free := F.take L0, fv := v6, data := c3.data.set K d, live := c3.live.set K true }, F, cnt, left, K, by rw [hF, hN], by rw [hcn, hN], hle, by rw [hL0, Nat.add_sub_cancel]; exact hK, rfl, f.size, by rw [hL0, Nat.add_sub_cancel], f.count, by simp only; rw [f.data, hD], by simp only; rw [f.live, hLv], S9⟩
  simp [q1, q4, q6, q7, lf5, l5, hL0, w5, ix5, ld5, E6, r6, A6, ld6, ll6, ixd, ixl, rws, rwb, E7, E8, afill, rwH, E9, l9]
  simpa using fin
end Go.Proofs.Ytmoigchjmmjljaa
