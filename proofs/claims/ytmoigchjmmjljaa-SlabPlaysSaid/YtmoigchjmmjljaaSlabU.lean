/- slab: a class is changed. -/
import Derived.Test.YtmoigchjmmjljaaSlabN
namespace Go.Proofs.Ytmoigchjmmjljaa
open Go Go.YtmoigchjmmjljaaAbs
set_option linter.unusedSimpArgs false
set_option linter.unusedVariables false
set_option maxRecDepth 4000

theorem set_same {α : Type} {l : List α} {j : Nat} {x : α} (h : l[j]? = some x) : l.set j x = l := by
  refine List.ext_getElem? fun i => ?_
  have hj := (List.getElem?_eq_some_iff.1 h).1
  by_cases hij : j = i
  · subst hij; rw [List.getElem?_set_self hj, h]
  · rw [List.getElem?_set_ne hij]
section
variable {h h1 : Heap} {b : Nat} {s : Sb} {vc : AV}
theorem cat_setAt {cls : List Cl} {i : Nat} {c c2 : Cl} (hi : cls[i]? = some c) (hm : c2.mb = c.mb) : (cat Cl.at cls).set (i * 2) c2.fv = cat Cl.at (cls.set i c2) := by
  have hil := (List.getElem?_eq_some_iff.1 hi).1
  have := cat_set1 (f := Cl.at) (sz := 2) Cl.at_len (L := cls) (j := i) (x := c) (y := c2) hi (o := 0) (by omega) (a := c2.fv) (by simp [Cl.at, hm])
  rw [← this, List.set_eq_take_append_cons_drop, if_pos (by rw [cat_len Cl.at_len]; omega), List.append_assoc]
  rfl
theorem at_fv {cls : List Cl} {i : Nat} {c : Cl} (hi : cls[i]? = some c) : (cat Cl.at cls)[i * 2]? = some c.fv ∧ (cat Cl.at cls)[i * 2 + 1]? = some (.mp c.mb) :=
  ⟨by have := cat_get (f := Cl.at) (sz := 2) Cl.at_len hi (o := 0) (by omega); exact this, by have := cat_get (f := Cl.at) (sz := 2) Cl.at_len hi (o := 1) (by omega); exact this⟩
theorem SlO.pos (O : SlO h b s vc) {j k : Nat} {u w : AV} (hj : (.ptr b 0 :: vc :: cat Cl.at s.cls : List AV)[j]? = some u) (hk : (.ptr b 0 :: vc :: cat Cl.at s.cls : List AV)[k]? = some w) {d : Nat} (hu : Has u d) (hw : Has w d) : j = k := O.apart.get hj hk hu hw
/-- Where a class's things stand: not with anything else. -/
theorem SlO.fvNe (O : SlO h b s vc) {i : Nat} {c : Cl} (hi : s.cls[i]? = some c) {d : Nat} (hd : Has c.fv d) : d ≠ b ∧ ¬ Has vc d ∧ (∀ (j : Nat) (c' : Cl), s.cls[j]? = some c' → (Has c'.fv d → j = i) ∧ c'.mb ≠ d) := by
  have p := (at_fv hi).1
  refine ⟨fun q => ?_, fun q => ?_, fun j c' hj => ⟨fun q => ?_, fun q => ?_⟩⟩
  · have := O.pos (j := i * 2 + 2) (k := 0) (by simpa using p) rfl hd (show Has (.ptr b 0) d by rw [q]; rfl)
    omega
  · have := O.pos (j := i * 2 + 2) (k := 1) (by simpa using p) rfl hd q
    omega
  · have := O.pos (j := i * 2 + 2) (k := j * 2 + 2) (by simpa using p) (by simpa using (at_fv hj).1) hd q
    omega
  · have := O.pos (j := i * 2 + 2) (k := j * 2 + 1 + 2) (by simpa using p) (by simpa using (at_fv hj).2) hd (show Has (.mp c'.mb) d by rw [q]; rfl)
    omega
theorem SlO.mbNe (O : SlO h b s vc) {i : Nat} {c : Cl} (hi : s.cls[i]? = some c) : c.mb ≠ b ∧ ¬ Has vc c.mb ∧ (∀ (j : Nat) (c' : Cl), s.cls[j]? = some c' → ¬ Has c'.fv c.mb ∧ (c'.mb = c.mb → j = i)) := by
  have p := (at_fv hi).2
  refine ⟨fun q => ?_, fun q => ?_, fun j c' hj => ⟨fun q => ?_, fun q => ?_⟩⟩
  · have := O.pos (j := i * 2 + 1 + 2) (k := 0) (by simpa using p) rfl (show Has (.mp c.mb) c.mb from rfl) (show Has (.ptr b 0) c.mb by rw [q]; rfl)
    omega
  · have := O.pos (j := i * 2 + 1 + 2) (k := 1) (by simpa using p) rfl (show Has (.mp c.mb) c.mb from rfl) q
    omega
  · have := O.pos (j := i * 2 + 1 + 2) (k := j * 2 + 2) (by simpa using p) (by simpa using (at_fv hj).1) (show Has (.mp c.mb) c.mb from rfl) q
    omega
  · have := O.pos (j := i * 2 + 1 + 2) (k := j * 2 + 1 + 2) (by simpa using p) (by simpa using (at_fv hj).2) (show Has (.mp c.mb) c.mb from rfl) (show Has (.mp c'.mb) c.mb by rw [q]; rfl)
    omega
theorem SlO.vcb (O : SlO h b s vc) {d : Nat} (hd : Has vc d) : d ≠ b := fun q => by
  have := O.pos (j := 1) (k := 0) rfl rfl hd (show Has (.ptr b 0) d by rw [q]; rfl)
  omega
theorem set_mem {cls : List Cl} {i : Nat} {c2 x : Cl} (h : x ∈ cls.set i c2) : x = c2 ∨ ∃ j, j ≠ i ∧ cls[j]? = some x := by
  obtain ⟨j, hj⟩ := List.getElem?_of_mem h
  by_cases q : i = j
  · subst q
    have := (List.getElem?_eq_some_iff.1 hj).1
    rw [List.length_set] at this
    rw [List.getElem?_set_self this] at hj
    exact .inl (Option.some.inj hj).symm
  · rw [List.getElem?_set_ne q] at hj
    exact .inr ⟨j, fun z => q z.symm, hj⟩
/-- One cell of a class is written, behind what its free list did. -/
theorem SlO.upd (O : SlO h b s vc) {i : Nat} {c : Cl} (hi : s.cls[i]? = some c) (c2 : Cl) {o : Nat} (ho : o < 4) {a : AV} (hc2 : c.c.set o a = c2.c) (hm : c2.mb = c.mb) (hone : a.one = true) (hl : c2.live = c.live ∧ c2.cl = c.cl)
    (K1 : Keep h.next (Has c.fv) h h1) (M : Mine 1 c2.free.length h1 c2.fv (c2.free.map nn)) (Fr : From h c.fv c2.fv) :
    ∃ h2, alay h1 vc.blk (vc.off + (i * 4 + o)) [a] = some h2 ∧ SlO h2 b { s with cls := s.cls.set i c2 } vc ∧ (∀ d, d ∈ fpS b { s with cls := s.cls.set i c2 } vc → d ∈ fpS b s vc ∨ h.next ≤ d) ∧ Keep h.next (fun d => d ∈ fpS b s vc) h h2 := by
  have hil := (List.getElem?_eq_some_iff.1 hi).1
  have cm := List.mem_of_getElem? hi
  have own1 := O.own.keep K1 fun d hd q => (O.fvNe hi q).2.1 hd
  obtain ⟨h2, E2, M2, K2, n2⟩ := own1.lay (j := i * 4 + o) (vs := [a]) (by rw [cat_len Cl.c_len]; simp; omega) (by omega) (by simp [hone])
  have cs := cat_set1 (f := Cl.c) (sz := 4) Cl.c_len hi ho hc2
  have M2 : Mine 4 s.cls.length h2 vc (cat Cl.c (s.cls.set i c2)) := by
    rw [← cs]; exact M2
  have fv2 : ∀ d, Has c2.fv d → ¬ Has vc d ∧ d ≠ b := fun d hd => by
    rcases Fr d hd with z | z
    · exact ⟨(O.fvNe hi z).2.1, (O.fvNe hi z).1⟩
    · exact ⟨fun q => by have := O.own.lt q; omega, by have := O.lt; omega⟩
  have hn1 := K1.1
  refine ⟨h2, E2, ⟨?_, Nat.lt_of_lt_of_le O.lt (Nat.le_trans K1.1 K2.1), by simp only [List.length_set]; exact M2, ?_, ?_, ?_⟩, ?_, ?_⟩
  · rw [K2.2 b (Nat.lt_of_lt_of_le O.lt K1.1) (fun q => O.vcb q rfl), K1.2 b O.lt (fun q => (O.fvNe hi q).1 rfl)]
    exact O.str
  · intro x hx
    rcases set_mem hx with rfl | ⟨j, hj, hx⟩
    · exact M.keep K2 fun d hd => (fv2 d hd).1
    · exact ((O.free x (List.mem_of_getElem? hx)).keep K1 fun d hd q => hj (((O.fvNe hi q).2.2 j x hx).1 hd)).keep K2 fun d hd q => (O.fvNe hx hd).2.1 q
  · intro x hx
    have key : ∀ (j : Nat) (y : Cl), s.cls[j]? = some y → h2.get y.mb = some (.map (y.live.map me) y.cl) ∧ y.mb < h2.next := fun j y hy => by
      have := O.live y (List.mem_of_getElem? hy)
      refine ⟨?_, Nat.lt_of_lt_of_le this.2 (Nat.le_trans K1.1 K2.1)⟩
      rw [K2.2 _ (Nat.lt_of_lt_of_le this.2 K1.1) (fun q => (O.mbNe hy).2.1 q), K1.2 _ this.2 (fun q => ((O.mbNe hy).2.2 i c hi).1 q)]
      exact this.1
    rcases set_mem hx with rfl | ⟨j, hj, hx⟩
    · rw [hm, hl.1, hl.2]; exact key i c hi
    · exact key j x hx
  · show Apart (.ptr b 0 :: vc :: cat Cl.at (s.cls.set i c2))
    rw [← cat_setAt hi hm]
    exact O.apart.set (i := i * 2 + 2) (by simpa using (at_fv hi).1) fun d hd => by
      rcases Fr d hd with z | z
      · exact .inl z
      · exact .inr fun q => by have := O.fp_lt q; omega
  · intro d hd
    have hd : d ∈ blks (.ptr b 0 :: vc :: cat Cl.at (s.cls.set i c2)) := hd
    rw [← cat_setAt hi hm, show (.ptr b 0 :: vc :: (cat Cl.at s.cls).set (i * 2) c2.fv : List AV) = (.ptr b 0 :: vc :: cat Cl.at s.cls).set (i * 2 + 2) c2.fv from rfl] at hd
    rcases blks_set hd with q | q
    · rcases Fr d q with z | z
      · exact .inl (fpS_fv cm z)
      · exact .inr z
    · exact .inl q
  · refine ⟨Nat.le_trans K1.1 K2.1, fun d hd hn => ?_⟩
    rw [K2.2 d (by omega) (fun q => hn (fpS_vc q)), K1.2 d hd (fun q => hn (fpS_fv cm q))]
/-- A class's map is turned. -/
theorem SlO.updM (O : SlO h b s vc) {i : Nat} {c : Cl} (hi : s.cls[i]? = some c) (live : List (Nat × ByteArray × Nat)) (cl : Nat) :
    SlO (h.set c.mb (.map (live.map me) cl)) b { s with cls := s.cls.set i { c with live := live, cl := cl } } vc ∧ fpS b { s with cls := s.cls.set i { c with live := live, cl := cl } } vc = fpS b s vc ∧ Keep h.next (fun d => d ∈ fpS b s vc) h (h.set c.mb (.map (live.map me) cl)) := by
  have hil := (List.getElem?_eq_some_iff.1 hi).1
  have cm := List.mem_of_getElem? hi
  have K : Keep h.next (fun d => d = c.mb) h (h.set c.mb (.map (live.map me) cl)) := Keep.set (F := fun d => d = c.mb) (.inl rfl) _
  have ne := O.mbNe hi
  have ecat : cat Cl.at (s.cls.set i { c with live := live, cl := cl }) = cat Cl.at s.cls := by
    rw [← cat_setAt (c2 := { c with live := live, cl := cl }) hi rfl]
    exact set_same (at_fv hi).1
  have ecat2 : cat Cl.c (s.cls.set i { c with live := live, cl := cl }) = cat Cl.c s.cls := by
    unfold cat
    rw [List.map_set, show Cl.c { c with live := live, cl := cl } = Cl.c c from rfl, set_same (by rw [List.getElem?_map, hi]; rfl)]
  refine ⟨⟨?_, O.lt, ?_, ?_, ?_, ?_⟩, ?_, ⟨Nat.le_refl _, fun d hd hn => K.2 d hd fun q => hn (q ▸ fpS_mb cm)⟩⟩
  · rw [K.2 b O.lt (fun q => ne.1 q.symm)]; exact O.str
  · simp only [List.length_set, ecat2]
    exact O.own.keep K fun d hd q => ne.2.1 (q ▸ hd)
  · intro x hx
    rcases set_mem hx with rfl | ⟨j, hj, hx⟩
    · exact (O.free c cm).keep K fun d hd q => (ne.2.2 i c hi).1 (q ▸ hd)
    · exact (O.free x (List.mem_of_getElem? hx)).keep K fun d hd q => (ne.2.2 j x hx).1 (q ▸ hd)
  · intro x hx
    rcases set_mem hx with rfl | ⟨j, hj, hx⟩
    · exact ⟨get_set_self _ _ _, (O.live c cm).2⟩
    · have := O.live x (List.mem_of_getElem? hx)
      exact ⟨by rw [K.2 _ this.2 (fun q => hj ((ne.2.2 j x hx).2 q))]; exact this.1, this.2⟩
  · show Apart (.ptr b 0 :: vc :: cat Cl.at (s.cls.set i { c with live := live, cl := cl }))
    rw [ecat]; exact O.apart
  · unfold fpS; simp only [ecat]
/-- The slab's own numbers. -/
theorem SlO.setS (O : SlO h b s vc) (left used : Nat) : SlO (h.set b (.cells [.int .i64 (s.page : Nat), .int .i64 (left : Nat), .int .i64 (used : Nat), vc] false)) b { s with left := left, used := used } vc ∧
    Keep h.next (fun d => d ∈ fpS b s vc) h (h.set b (.cells [.int .i64 (s.page : Nat), .int .i64 (left : Nat), .int .i64 (used : Nat), vc] false)) := by
  have K : Keep h.next (fun d => d = b) h (h.set b (.cells [.int .i64 (s.page : Nat), .int .i64 (left : Nat), .int .i64 (used : Nat), vc] false)) := Keep.set (F := fun d => d = b) (.inl rfl) _
  refine ⟨⟨get_set_self _ _ _, O.lt, O.own.keep K fun d hd q => O.vcb hd q, fun c hc => ?_, fun c hc => ?_, O.apart⟩, ⟨Nat.le_refl _, fun d hd hn => K.2 d hd fun q => hn (q ▸ fpS_b)⟩⟩
  · obtain ⟨i, hi⟩ := List.getElem?_of_mem hc
    exact (O.free c hc).keep K fun d hd q => (O.fvNe hi hd).1 q
  · obtain ⟨i, hi⟩ := List.getElem?_of_mem hc
    have := O.live c hc
    exact ⟨by rw [K.2 _ this.2 (O.mbNe hi).1]; exact this.1, this.2⟩
end
end Go.Proofs.Ytmoigchjmmjljaa
