/- Contracts of depotref5.Slab: Free. -/
import Derived.Test.YtmoigchjmmjljaaRefT
namespace Go.Proofs.Ytmoigchjmmjljaa
open Go Go.YtmoigchjmmjljaaAbs
set_option linter.unusedSimpArgs false
set_option linter.unusedVariables false
set_option maxRecDepth 4000

section
variable {h h1 : Heap} {b : Nat} {r : Rb} {vc : AV}
/-- A class's slice is written where it stands. -/
theorem RO.updE (O : RO h b r vc) {i : Nat} {c c2 : Rc} (hi : r.cls[i]? = some c) {w : Nat} (hw : w < 3) {v : AV} {o o' : Ob} (hv : c.th[w]? = some (v, o)) (hc : c2.c = c.c) (ht : c.th.set w (v, o') = c2.th) (K : Keep h.next (Has v) h h1) (H : Holds h1 v o') :
    Stp h (r.th b vc) h1 (Rb.th { r with cls := r.cls.set i c2 } b vc) := by
  have e1 : (r.th b vc)[i * 3 + w + 2]? = some (v, o) := by
    have := gcat_get (f := Rc.th) Rc.th_len hi (o := w) hw
    rw [hv] at this
    exact this
  obtain ⟨q1, q2, q3⟩ := Hold.upd O e1 K H (From.refl _ _)
  have e3 : cat Rc.c (r.cls.set i c2) = cat Rc.c r.cls := by
    unfold cat
    rw [List.map_set, hc, set_same' (by rw [List.getElem?_map, hi]; rfl)]
  have e2 : Rb.th { r with cls := r.cls.set i c2 } b vc = (r.th b vc).set (i * 3 + w + 2) (v, o') := by
    unfold Rb.th
    simp only [List.length_set, e3]
    rw [← gcat_set (f := Rc.th) Rc.th_len hi hw ht]
    rfl
  rw [e2]
  exact ⟨q1, q2, q3⟩
theorem RO.upd' (O : RO h b r vc) {i : Nat} {c : Rc} (hi : r.cls[i]? = some c) (c2 : Rc) {w : Nat} (hw : w < 3) {v v' : AV} {o o' : Ob} (hv : c.th[w]? = some (v, o)) (hc : c.c.set (w + 2) v' = c2.c) (ht : c.th.set w (v', o') = c2.th) (K : Keep h.next (Has v) h h1) (H : Holds h1 v' o') (Fr : From h v v') (hone : v'.one = true) :
    ∃ h2, alay h1 vc.blk (vc.off + i * 5 + (w + 2)) [v'] = some h2 ∧ Stp h (r.th b vc) h2 (Rb.th { r with cls := r.cls.set i c2 } b vc) ∧ h2.next = h1.next := by
  obtain ⟨h2, a1, a2, a3, a4, a5⟩ := RO.upd O hi hw hv hc ht K H Fr hone
  exact ⟨h2, a1, ⟨a2, a3, a4⟩, a5⟩
end
/-- What is asked of a class of the document's. -/
structure RcI (c : Rc) : Prop where
  dl : c.data.length = c.count
  ll : c.live.length = c.count
  cs : c.count ≤ 1000000
  fl : c.free.length ≤ 1000000
def RbI (r : Rb) : Prop := ∀ (j : Nat) (c : Rc), r.cls[j]? = some c → RcI c
theorem rfree_no (k : Nat) (h : Heap) (b : Nat) (r : Rb) (vc : AV) (O : RO h b r vc) (I : RbI r) (ci ch : Int) (ht : thereR r ci ch = false) :
    ∃ v' h', acall Try.prog (k + 2) 21 [.ptr b 0, .agg [.int .i64 ci, .int .i64 ch]] h = some (v', h') ∧ v' = .bool false ∧ Keep h.next nob h h' := by
  have rwH : (AV.agg [.int .i64 ci, .int .i64 ch]).row1 = some [.int .i64 ci, .int .i64 ch] := rfl
  obtain ⟨h1, e1⟩ : ∃ h1, h.new (.cells [.int .i64 ci, .int .i64 ch] false) = h1 := ⟨_, rfl⟩
  have k1 : Keep h.next nob h h1 := by rw [← e1]; exact Keep.new (Nat.le_refl _) _
  have g1 : h1.get h.next = some (.cells [.int .i64 ci, .int .i64 ch] false) := by rw [← e1]; exact get_new_self _ _
  have lH : aload Try.prog h1 34 h.next 0 = some (.agg [.int .i64 ci, .int .i64 ch]) := by simp [aload, Heap.row, g1, ta34, ts34]
  obtain ⟨_, h2, E2, rfl, k2⟩ := there_ok k h1 b r vc (Hold.ext O k1) (fun j c hc => (I j c hc).ll) ci ch
  rw [ht] at E2
  have K2 := k1.trans (k2.weak k1.1 fun _ _ q => q)
  rw [acall_text [4, 5] Try.func21 (by kernel_rfl)]
  refine afuncT_ex rfl (by simp [Try.f21]) ?_
  simp [Try.f21, rwH, e1, lH, E2]
  exact K2
set_option maxHeartbeats 2000000 in
theorem rfree_ok (k : Nat) (h : Heap) (b : Nat) (r : Rb) (vc : AV) (O : RO h b r vc) (I : RbI r) (i K : Nat) (c : Rc) (hc : r.cls[i]? = some c) (hB : c.live[K]? = some true) :
    ∃ v' h', acall Try.prog (k + 2) 21 [.ptr b 0, .agg [.int .i64 (i : Nat), .int .i64 (K : Nat)]] h = some (v', h') ∧ v' = .bool true ∧
      ∃ c2 : Rc, c2.size = c.size ∧ c2.count = c.count ∧ c2.free = c.free ++ [K] ∧ c2.data = c.data.set K .empty ∧ c2.live = c.live.set K false ∧ Stp h (r.th b vc) h' (Rb.th { r with cls := r.cls.set i c2 } b vc) := by
  have J := I i c hc
  have hil := (List.getElem?_eq_some_iff.1 hc).1
  have hKl := (List.getElem?_eq_some_iff.1 hB).1
  have hKd : K < c.data.length := by rw [J.dl, ← J.ll]; exact hKl
  have ht : thereR r (i : Nat) (K : Nat) = true := by
    unfold thereR
    rw [if_neg (by omega), Int.toNat_natCast, hc]
    simp only
    rw [if_neg (by omega), Int.toNat_natCast, hB]
    rfl
  have rwH : (AV.agg [.int .i64 (i : Nat), .int .i64 (K : Nat)]).row1 = some [.int .i64 (i : Nat), .int .i64 (K : Nat)] := rfl
  obtain ⟨n0, hn0⟩ : ∃ n0, n0 = h.next := ⟨_, rfl⟩
  obtain ⟨h1, e1⟩ : ∃ h1, h.new (.cells [.int .i64 (i : Nat), .int .i64 (K : Nat)] false) = h1 := ⟨_, rfl⟩
  have k1 : Keep h.next nob h h1 := by rw [← e1]; exact Keep.new (Nat.le_refl _) _
  have H1 : Holds h1 (.ptr n0 0) (.blk [.int .i64 (i : Nat), .int .i64 (K : Nat)]) := ⟨n0, rfl, by rw [← e1, hn0]; exact Nat.lt_succ_self _, by rw [← e1, hn0]; exact get_new_self _ _⟩
  have S1 := (Stp.refl O).snoc k1 H1 (fun d hd => by cases hd; omega)
  have gB : ∀ {h' : Heap} {A : List Th}, Hold h' (A ++ [(.ptr n0 0, .blk [.int .i64 (i : Nat), .int .i64 (K : Nat)])]) → h'.get n0 = some (.cells [.int .i64 (i : Nat), .int .i64 (K : Nat)] false) ∧ n0 < h'.next := fun z => by
    obtain ⟨b', q1, q2, q3⟩ := (own_append.1 z).2.1.get (i := 0) (v := .ptr n0 0) (o := .blk [.int .i64 (i : Nat), .int .i64 (K : Nat)]) rfl
    cases q1
    exact ⟨q3, q2⟩
  have lH : aload Try.prog h1 34 n0 0 = some (.agg [.int .i64 (i : Nat), .int .i64 (K : Nat)]) := by simp [aload, Heap.row, (gB S1.own).1, ta34, ts34]
  obtain ⟨_, h2, E2, rfl, k2⟩ := there_ok k h1 b r vc S1.a (fun j c hc => (I j c hc).ll) (i : Nat) (K : Nat)
  rw [ht] at E2
  have S2 := S1.ext k2
  obtain ⟨g2, n2⟩ := gB S2.own
  have O2 := S2.a
  have l0 := ldc (P := Try.prog) (ty := 3) g2 ta3 (i := 0) (x := .int .i64 (i : Nat)) rfl
  have l1 := ldc (P := Try.prog) (ty := 3) g2 ta3 (i := 1) (x := .int .i64 (K : Nat)) rfl
  have l2 := RO.ld2 O2 (ty := 54) ta54
  have ix := (RO.own O2).sl.idx (P := Try.prog) Try.underlying54 ts70 (j := i) hil .i64
  have ll4 := RO.ldc O2 hc (o := 4) (x := c.lv) (by omega) rfl (ty := 68) ta68
  have ld3 := RO.ldc O2 hc (o := 3) (x := c.dv) (by omega) rfl (ty := 59) ta59
  have ixl := (RO.live O2 hc).sl.idx1 (P := Try.prog) Try.underlying68 ts4 (j := K) hKl .i64
  have ixd := (RO.data O2 hc).sl.idx1 (P := Try.prog) Try.underlying59 ts9 (j := K) hKd .i64
  obtain ⟨hv, vlt⟩ := RO.vlt O2 hc
  obtain ⟨h3, E3, M3, K3, n3⟩ := (RO.live O2 hc).lay1 (j := K) (x := .bool false) hKl rfl
  have T3 := RO.updE O2 hc (c2 := { c with live := c.live.set K false }) (w := 2) (by omega) rfl rfl (o' := .vec 1 (c.live.set K false).length ((c.live.set K false).map bv)) rfl K3 (by rw [List.map_set, List.length_set]; exact M3)
  have S3 := S2.op T3
  have hc3 : ({ r with cls := r.cls.set i { c with live := c.live.set K false } } : Rb).cls[i]? = some { c with live := c.live.set K false } := by simp [hil]
  have O3 := S3.a
  obtain ⟨h4, E4, M4, K4, n4⟩ := (RO.data O3 hc3).lay1 (j := K) (x := .str .empty) hKd rfl
  have E4 : alay h3 c.dv.blk (c.dv.off + K) [AV.str ⟨#[]⟩] = some h4 := E4
  have T4 := RO.updE O3 hc3 (c2 := { c with live := c.live.set K false, data := c.data.set K .empty }) (w := 1) (by omega) rfl rfl (o' := .vec 1 (c.data.set K .empty).length ((c.data.set K .empty).map sv)) rfl K4 (by rw [List.map_set, List.length_set]; exact M4)
  have S4 := S3.op T4
  simp only [List.set_set] at S4
  have hc4 : ({ r with cls := r.cls.set i { c with live := c.live.set K false, data := c.data.set K .empty } } : Rb).cls[i]? = some { c with live := c.live.set K false, data := c.data.set K .empty } := by simp [hil]
  have O4 := S4.a
  obtain ⟨g4, nn4⟩ := gB S4.own
  have l14 := ldc (P := Try.prog) (ty := 3) g4 ta3 (i := 1) (x := .int .i64 (K : Nat)) rfl
  have lf4 := RO.ldc O4 hc4 (o := 2) (x := c.fv) (by omega) rfl (ty := 27) ta27
  obtain ⟨v5, h5, E5, M5, F5, K5⟩ := (RO.free O4 hc4).push (P := Try.prog) el27 (a := [nn K]) (ex := true) rfl rfl (by have := J.fl; simp only; omega)
  have E5 : aappend Try.prog (h4.new (.cells [.int .i64 (K : Nat)] false)) 27 27 c.fv (.sl h4.next 0 1 1 1 true) = some (v5, h5) := E5
  obtain ⟨h6, E6, T6, n6⟩ := RO.upd' O4 hc4 { c with live := c.live.set K false, data := c.data.set K .empty, free := c.free ++ [K], fv := v5 } (w := 0) (by omega) rfl rfl (o' := .vec 1 (c.free ++ [K]).length ((c.free ++ [K]).map nn)) rfl K5 (by rw [List.length_append, List.length_singleton, List.map_append]; exact M5) F5 M5.oneV
  have S6 := S4.op T6
  simp only [List.set_set] at S6
  have ro := row1_one M5.oneV
  have rwi : (AV.int .i64 (K : Nat)).row1 = some [.int .i64 (K : Nat)] := rfl
  have fin : Stp h (r.th b vc) h6 (Rb.th { r with cls := r.cls.set i { c with live := c.live.set K false, data := c.data.set K .empty, free := c.free ++ [K], fv := v5 } } b vc) := S6.drop
  have G3 : AgreeG (fun d => Has vc d ∨ d = n0) h2 h3 := fun d hd => by
    have at4 := (RO.at O2 hc).2.2
    rcases hd with hd | hd
    · exact K3.2 d ((RO.own O2).lt hd) (Hold.ne O2 (i := 1) rfl at4 (by omega) hd)
    · rw [hd]
      exact K3.2 n0 n2 (fun q => (own_append.1 S2.own).2.2 n0 (in_iff.2 ⟨_, List.mem_of_getElem? at4, q⟩) (in_iff.2 ⟨_, List.mem_singleton.2 rfl, rfl⟩))
  have hn4 : ∀ d, (Has vc d ∨ d = n0) → d < h4.next := fun d hd => by
    rcases hd with hd | rfl
    · exact (RO.own O4).lt hd
    · exact nn4
  have G5 : AgreeG (fun d => Has vc d ∨ d = n0) h4 (h4.new (.cells [.int .i64 (K : Nat)] false)) := fun d hd => by
    have := hn4 d hd
    rw [Heap.get_new, if_neg (by omega)]
  have sl := (RO.live O2 hc).sl.same
  have sd := (RO.data O2 hc).sl.same
  have sf := (RO.free O4 hc4).sl.same
  simp only at sf
  rw [acall_text [4, 5] Try.func21 (by kernel_rfl)]
  refine afuncT_ex rfl (by simp [Try.f21]) ?_
  simp [Try.f21, rwH, e1, ← hn0, lH, E2, l2, l0, ix]
  refine W_lateG [0, 1, 3, 7, 0, 16, 0, 64, 192, 448, 0, 1024, 1023, 5119, 16383, 32767] [] 14 (fun d => Has vc d ∨ d = n0) (by rfl) (by kernel_rfl) (by kernel_rfl) (by kernel_rfl) (by kernel_rfl) (fun d hd => by
    rcases hd with hd | rfl
    · exact (RO.own O2).lt hd
    · exact n2) ?_
  simp [resv, nextOk, freeOk, memN, isEff, isAlloc, isStore, mayEff, mayRead, insFl, oblG, sameAV, sl, sd, hv, AV.row1, AV.row, AV.one, l1, ll4, ld3, ixl, ixd, E3, G3, E4]
  refine W_lateG [0, 0, 2, 6, 14, 0, 32, 96, 254, 511, 1023, 2047] [] 8 (fun d => Has vc d ∨ d = n0) (by rfl) (by kernel_rfl) (by kernel_rfl) (by kernel_rfl) (by kernel_rfl) hn4 ?_
  simp [resv, nextOk, freeOk, memN, isEff, isAlloc, isStore, mayEff, mayRead, insFl, oblG, sameAV, sf, hv, rwi, aalloc, afill, l14, lf4, G5, E5, ro, E6]
  exact ⟨{ c with live := c.live.set K false, data := c.data.set K .empty, free := c.free ++ [K], fv := v5 }, rfl, rfl, rfl, rfl, rfl, fin⟩
end Go.Proofs.Ytmoigchjmmjljaa
