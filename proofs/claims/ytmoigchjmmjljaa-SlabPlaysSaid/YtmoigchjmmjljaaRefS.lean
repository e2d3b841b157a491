/- depotref5.Slab: what it is; NewSlab, Class, there, Read. -/
import Derived.Test.YtmoigchjmmjljaaFlat
import Derived.Test.YtmoigchjmmjljaaSlabN
import Derived.Test.YtmoigchjmmjljaaAbsO3
namespace Go.Proofs.Ytmoigchjmmjljaa
open Go Go.YtmoigchjmmjljaaAbs
set_option linter.unusedSimpArgs false
set_option linter.unusedVariables false
set_option maxRecDepth 4000

def sv (k : ByteArray) : AV := .str k
def bv (b : Bool) : AV := .bool b
/-- A class of the document's slab, and where its free list, its texts and its marks stand. -/
structure Rc where
  size : Nat
  count : Nat
  free : List Nat
  data : List ByteArray
  live : List Bool
  fv : AV
  dv : AV
  lv : AV
def Rc.c (c : Rc) : List AV := [.int .i64 (c.size : Nat), .int .i64 (c.count : Nat), c.fv, c.dv, c.lv]
def Rc.th (c : Rc) : List Th := [(c.fv, .vec 1 c.free.length (c.free.map nn)), (c.dv, .vec 1 c.data.length (c.data.map sv)), (c.lv, .vec 1 c.live.length (c.live.map bv))]
theorem Rc.c_len (c : Rc) : c.c.length = 5 := rfl
theorem Rc.th_len (c : Rc) : c.th.length = 3 := rfl
theorem set_same' {α : Type} {l : List α} {j : Nat} {x : α} (h : l[j]? = some x) : l.set j x = l := by
  refine List.ext_getElem? fun i => ?_
  have hj := (List.getElem?_eq_some_iff.1 h).1
  by_cases hij : j = i
  · subst hij; rw [List.getElem?_set_self hj, h]
  · rw [List.getElem?_set_ne hij]
structure Rb where
  page : Nat
  left : Nat
  cls : List Rc
def Rb.th (r : Rb) (b : Nat) (vc : AV) : List Th := (.ptr b 0, .blk [.int .i64 (r.page : Nat), .int .i64 (r.left : Nat), vc]) :: (vc, .vec 5 r.cls.length (cat Rc.c r.cls)) :: gcat Rc.th r.cls
abbrev RO (h : Heap) (b : Nat) (r : Rb) (vc : AV) : Prop := Hold h (r.th b vc)
section
variable {h h1 : Heap} {b : Nat} {r : Rb} {vc : AV}
theorem RO.str (O : RO h b r vc) : h.get b = some (.cells [.int .i64 (r.page : Nat), .int .i64 (r.left : Nat), vc] false) ∧ b < h.next := by
  obtain ⟨b', e, h1, h2⟩ := O.get (i := 0) rfl
  cases e
  exact ⟨h2, h1⟩
theorem RO.own (O : RO h b r vc) : Mine 5 r.cls.length h vc (cat Rc.c r.cls) := O.get (i := 1) rfl
theorem RO.at (O : RO h b r vc) {i : Nat} {c : Rc} (hi : r.cls[i]? = some c) : (r.th b vc)[i * 3 + 0 + 2]? = some (c.fv, .vec 1 c.free.length (c.free.map nn)) ∧ (r.th b vc)[i * 3 + 1 + 2]? = some (c.dv, .vec 1 c.data.length (c.data.map sv)) ∧ (r.th b vc)[i * 3 + 2 + 2]? = some (c.lv, .vec 1 c.live.length (c.live.map bv)) := by
  refine ⟨?_, ?_, ?_⟩
  · exact gcat_get (f := Rc.th) Rc.th_len hi (o := 0) (by omega)
  · exact gcat_get (f := Rc.th) Rc.th_len hi (o := 1) (by omega)
  · exact gcat_get (f := Rc.th) Rc.th_len hi (o := 2) (by omega)
theorem RO.free (O : RO h b r vc) {i : Nat} {c : Rc} (hi : r.cls[i]? = some c) : Mine 1 c.free.length h c.fv (c.free.map nn) := Hold.get O (RO.at O hi).1
theorem RO.data (O : RO h b r vc) {i : Nat} {c : Rc} (hi : r.cls[i]? = some c) : Mine 1 c.data.length h c.dv (c.data.map sv) := Hold.get O (RO.at O hi).2.1
theorem RO.live (O : RO h b r vc) {i : Nat} {c : Rc} (hi : r.cls[i]? = some c) : Mine 1 c.live.length h c.lv (c.live.map bv) := Hold.get O (RO.at O hi).2.2
theorem RO.ld0 (O : RO h b r vc) {ty : TypeId} (ht : tagg Try.prog ty = some false) : aload Try.prog h ty b 0 = some (.int .i64 (r.page : Nat)) := ldc (RO.str O).1 ht rfl
theorem RO.ld1 (O : RO h b r vc) {ty : TypeId} (ht : tagg Try.prog ty = some false) : aload Try.prog h ty b 1 = some (.int .i64 (r.left : Nat)) := ldc (RO.str O).1 ht rfl
theorem RO.ld2 (O : RO h b r vc) {ty : TypeId} (ht : tagg Try.prog ty = some false) : aload Try.prog h ty b 2 = some vc := ldc (RO.str O).1 ht rfl
theorem RO.ldc (O : RO h b r vc) {i : Nat} {c : Rc} (hi : r.cls[i]? = some c) {o : Nat} {x : AV} (ho : o < 5) (hx : c.c[o]? = some x) {ty : TypeId} (ht : tagg Try.prog ty = some false) : aload Try.prog h ty vc.blk (vc.off + i * 5 + o) = some x := by
  have := (RO.own O).sl.ld (P := Try.prog) ht (j := i * 5 + o) (x := x) (by rw [cat_get Rc.c_len hi ho]; exact hx)
  rwa [← Nat.add_assoc] at this
theorem RO.vlt (O : RO h b r vc) {i : Nat} {c : Rc} (hi : r.cls[i]? = some c) : Has vc vc.blk ∧ vc.blk < h.next := by
  have := (List.getElem?_eq_some_iff.1 hi).1
  have hb := (RO.own O).blk (by omega)
  exact ⟨hb, (RO.own O).lt hb⟩
/-- A class's cell is written, behind what its slice became. -/
theorem RO.upd (O : RO h b r vc) {i : Nat} {c c2 : Rc} (hi : r.cls[i]? = some c) {w : Nat} (hw : w < 3) {v v' : AV} {o o' : Ob} (hv : c.th[w]? = some (v, o)) (hc : c.c.set (w + 2) v' = c2.c) (ht : c.th.set w (v', o') = c2.th) (K : Keep h.next (Has v) h h1) (H : Holds h1 v' o') (Fr : From h v v') (hone : v'.one = true) :
    ∃ h2, alay h1 vc.blk (vc.off + i * 5 + (w + 2)) [v'] = some h2 ∧ RO h2 b { r with cls := r.cls.set i c2 } vc ∧ Fresh h (r.th b vc) (Rb.th { r with cls := r.cls.set i c2 } b vc) ∧ Keep h.next (Inn (r.th b vc)) h h2 ∧ h2.next = h1.next := by
  have hl := (List.getElem?_eq_some_iff.1 hi).1
  have e1 : (r.th b vc)[i * 3 + w + 2]? = some (v, o) := by
    have := gcat_get (f := Rc.th) Rc.th_len hi (o := w) hw
    rw [hv] at this
    simpa [Rb.th] using this
  obtain ⟨q1, q2, q3⟩ := Hold.upd O e1 K H Fr
  have e2 : (r.th b vc).set (i * 3 + w + 2) (v', o') = (.ptr b 0, .blk [.int .i64 (r.page : Nat), .int .i64 (r.left : Nat), vc]) :: (vc, .vec 5 r.cls.length (cat Rc.c r.cls)) :: gcat Rc.th (r.cls.set i c2) := by
    rw [← gcat_set (f := Rc.th) Rc.th_len hi hw ht]
    rfl
  rw [e2] at q1 q2
  have M : Mine 5 r.cls.length h1 vc (cat Rc.c r.cls) := q1.get (i := 1) rfl
  obtain ⟨h2, a1, a2, a3, a4⟩ := M.lay (j := i * 5 + (w + 2)) (vs := [v']) (by rw [cat_len Rc.c_len]; simp; omega) (by omega) (by simp [hone])
  obtain ⟨p1, p2, p3⟩ := Hold.upd q1 (i := 1) rfl a3 (o' := .vec 5 r.cls.length (cat Rc.c (r.cls.set i c2))) (by
    rw [← cat_set1 (f := Rc.c) (sz := 5) Rc.c_len hi (o := w + 2) (by omega) hc]
    exact a2) (From.refl _ _)
  rw [← Nat.add_assoc] at a1
  refine ⟨h2, a1, ?_, ?_, ?_, a4⟩
  · show Hold h2 (Rb.th { r with cls := r.cls.set i c2 } b vc)
    unfold Rb.th
    simp only [List.length_set]
    exact p1
  · unfold Rb.th
    simp only [List.length_set]
    exact q2.trans p2 K.1
  · exact keep_two q3 q2 p3
/-- A number of a class is written. -/
theorem RO.updN (O : RO h b r vc) {i : Nat} {c c2 : Rc} (hi : r.cls[i]? = some c) {w : Nat} (hw : w < 5) {a : AV} (hc : c.c.set w a = c2.c) (ht : c.th = c2.th) (hone : a.one = true) :
    ∃ h2, alay h vc.blk (vc.off + i * 5 + w) [a] = some h2 ∧ RO h2 b { r with cls := r.cls.set i c2 } vc ∧ Fresh h (r.th b vc) (Rb.th { r with cls := r.cls.set i c2 } b vc) ∧ Keep h.next (Inn (r.th b vc)) h h2 ∧ h2.next = h.next := by
  have hl := (List.getElem?_eq_some_iff.1 hi).1
  obtain ⟨h2, a1, a2, a3, a4⟩ := (RO.own O).lay (j := i * 5 + w) (vs := [a]) (by rw [cat_len Rc.c_len]; simp; omega) (by omega) (by simp [hone])
  obtain ⟨p1, p2, p3⟩ := Hold.upd O (i := 1) rfl a3 (o' := .vec 5 r.cls.length (cat Rc.c (r.cls.set i c2))) (by
    rw [← cat_set1 (f := Rc.c) (sz := 5) Rc.c_len hi (o := w) hw hc]
    exact a2) (From.refl _ _)
  have e : gcat Rc.th (r.cls.set i c2) = gcat Rc.th r.cls := by
    have := gcat_set (f := Rc.th) Rc.th_len hi (o := 0) (by omega) (a := (c.fv, .vec 1 c.free.length (c.free.map nn))) (y := c2) (by rw [← ht]; rfl)
    rw [← this, set_same']
    have := gcat_get (f := Rc.th) Rc.th_len hi (o := 0) (by omega)
    exact this
  have e2 : Rb.th { r with cls := r.cls.set i c2 } b vc = (r.th b vc).set 1 (vc, .vec 5 r.cls.length (cat Rc.c (r.cls.set i c2))) := by
    unfold Rb.th
    simp only [List.length_set, e]
    rfl
  rw [← Nat.add_assoc] at a1
  refine ⟨h2, a1, by show Hold h2 _; rw [e2]; exact p1, by rw [e2]; exact p2, p3, a4⟩
/-- How many pages are left is written. -/
theorem RO.setL (O : RO h b r vc) (left : Nat) : ∃ h2, alay h b 1 [.int .i64 (left : Nat)] = some h2 ∧ RO h2 b { r with left := left } vc ∧ Fresh h (r.th b vc) (Rb.th { r with left := left } b vc) ∧ Keep h.next (Inn (r.th b vc)) h h2 ∧ h2.next = h.next := by
  obtain ⟨g, hb⟩ := RO.str O
  have e1 : alay h b 1 [.int .i64 (left : Nat)] = some (h.set b (.cells [.int .i64 (r.page : Nat), .int .i64 (left : Nat), vc] false)) := by unfold alay; rw [g]; rfl
  have K : Keep h.next (Has (.ptr b 0)) h (h.set b (.cells [.int .i64 (r.page : Nat), .int .i64 (left : Nat), vc] false)) := Keep.set (F := Has (.ptr b 0)) (.inl rfl) _
  obtain ⟨p1, p2, p3⟩ := Hold.upd O (i := 0) rfl K (o' := .blk [.int .i64 (r.page : Nat), .int .i64 (left : Nat), vc]) ⟨b, rfl, hb, get_set_self _ _ _⟩ (From.refl _ _)
  exact ⟨_, e1, p1, p2, p3, rfl⟩
end
/-- The first size that has room. -/
def clsS (n : Int) : List Nat → Option Nat
  | [] => none
  | c :: L => if n ≤ (c : Nat) then some 0 else (clsS n L).map (· + 1)
theorem clsE_S (n : Int) : ∀ L : List Cl, clsE n L = clsS n (L.map (·.size))
  | [] => rfl
  | c :: L => by simp only [clsE, clsS, List.map_cons, clsE_S n L]
theorem clsS_skip (n : Int) : ∀ (i : Nat) (L : List Nat), (∀ c, c ∈ L.take i → (c : Int) < n) → clsS n L = (clsS n (L.drop i)).map (· + i)
  | 0, L, h => by simp
  | i + 1, [], h => by simp [clsS]
  | i + 1, c :: L, h => by
    have h1 := h c (by simp)
    simp only [clsS]
    rw [if_neg (by omega), clsS_skip n i L (fun c' hc => h c' (by simp [hc])), Option.map_map]
    simp only [List.drop_succ_cons]
    congr 1
end Go.Proofs.Ytmoigchjmmjljaa
