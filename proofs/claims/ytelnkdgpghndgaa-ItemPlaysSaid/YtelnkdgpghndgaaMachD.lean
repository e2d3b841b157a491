/- The abstract machine and its soundness against the kit's model. -/
import Derived.Test.YtelnkdgpghndgaaMachC
import Derived.Test.YtelnkdgpghndgaaMachA
import Derived.Test.YtelnkdgpghndgaaMachB
/- What is one's own, as a row of things in memory that stand apart. -/
namespace Go.YtelnkdgpghndgaaAbs
open Go Go.RowKit
set_option linter.unusedSimpArgs false
set_option linter.unusedVariables false

/-- A thing in memory: a slice's elements, a map's entries, a block's cells. -/
inductive Ob where
  | vec (sz n : Nat) (l : List AV)
  | mp (es : List (AV × AV × Nat)) (cl : Nat)
  | blk (c : List AV)
def Holds (h : Heap) (v : AV) : Ob → Prop
  | .vec sz n l => Mine sz n h v l
  | .mp es cl => ∃ b, v = .mp b ∧ b < h.next ∧ h.get b = some (.map es cl)
  | .blk c => ∃ b, v = .ptr b 0 ∧ b < h.next ∧ h.get b = some (.cells c false)
abbrev Th := AV × Ob
def Inn (L : List Th) (d : Nat) : Prop := d ∈ blks (L.map (·.1))
structure Hold (h : Heap) (L : List Th) : Prop where
  each : ∀ x, x ∈ L → Holds h x.1 x.2
  apart : Apart (L.map (·.1))
/-- Its blocks were there, or are new. -/
def Fresh (h : Heap) (L L' : List Th) : Prop := ∀ d, Inn L' d → Inn L d ∨ h.next ≤ d

theorem in_iff {L : List Th} {d : Nat} : Inn L d ↔ ∃ x, x ∈ L ∧ Has x.1 d := by
  unfold Inn
  rw [mem_blks]
  constructor
  · rintro ⟨v, hv, hd⟩
    obtain ⟨x, hx, rfl⟩ := List.mem_map.1 hv
    exact ⟨x, hx, hd⟩
  · rintro ⟨x, hx, hd⟩
    exact ⟨x.1, List.mem_map.2 ⟨x, hx, rfl⟩, hd⟩
theorem in_nil {d : Nat} : ¬ Inn [] d := fun q => by cases q
theorem in_append {A B : List Th} {d : Nat} : Inn (A ++ B) d ↔ Inn A d ∨ Inn B d := by
  unfold Inn
  rw [List.map_append, blks_append, List.mem_append]
theorem in_cons {x : Th} {L : List Th} {d : Nat} : Inn (x :: L) d ↔ Has x.1 d ∨ Inn L d := by
  rw [in_iff, in_iff]
  simp only [List.mem_cons]
  constructor
  · rintro ⟨y, rfl | hy, hd⟩
    · exact .inl hd
    · exact .inr ⟨y, hy, hd⟩
  · rintro (hd | ⟨y, hy, hd⟩)
    · exact ⟨x, .inl rfl, hd⟩
    · exact ⟨y, .inr hy, hd⟩
section
variable {h h' : Heap} {v : AV} {o : Ob}
theorem Holds.lt (H : Holds h v o) {d : Nat} (hd : Has v d) : d < h.next := by
  cases o with
  | vec sz n l => exact Mine.lt H hd
  | mp es cl => obtain ⟨b, rfl, hb, _⟩ := H; cases hd; exact hb
  | blk c => obtain ⟨b, rfl, hb, _⟩ := H; cases hd; exact hb
theorem Holds.keep {F : Nat → Prop} (H : Holds h v o) (K : Keep h.next F h h') (hF : ∀ d, Has v d → ¬ F d) : Holds h' v o := by
  cases o with
  | vec sz n l => exact Mine.keep H K hF
  | mp es cl => obtain ⟨b, rfl, hb, hg⟩ := H; exact ⟨b, rfl, Nat.lt_of_lt_of_le hb K.1, by rw [K.2 b hb (hF b rfl)]; exact hg⟩
  | blk c => obtain ⟨b, rfl, hb, hg⟩ := H; exact ⟨b, rfl, Nat.lt_of_lt_of_le hb K.1, by rw [K.2 b hb (hF b rfl)]; exact hg⟩
theorem Holds.ext (H : Holds h v o) (K : Keep h.next nob h h') : Holds h' v o := H.keep K fun _ _ q => q
end
section
variable {h h1 : Heap} {L A B : List Th}
theorem Hold.lt (O : Hold h L) {d : Nat} (hd : Inn L d) : d < h.next := by
  obtain ⟨x, hx, hv⟩ := in_iff.1 hd
  exact (O.each x hx).lt hv
theorem Hold.get (O : Hold h L) {i : Nat} {v : AV} {o : Ob} (hi : L[i]? = some (v, o)) : Holds h v o := O.each (v, o) (List.mem_of_getElem? hi)
theorem Hold.nil (h : Heap) : Hold h [] := ⟨fun x hx => (by cases hx), List.nodup_nil⟩
theorem Hold.keep {F : Nat → Prop} (O : Hold h L) (K : Keep h.next F h h1) (hF : ∀ d, Inn L d → ¬ F d) : Hold h1 L :=
  ⟨fun x hx => (O.each x hx).keep K fun d hd => hF d (in_iff.2 ⟨x, hx, hd⟩), O.apart⟩
theorem Hold.ext (O : Hold h L) (K : Keep h.next nob h h1) : Hold h1 L := O.keep K fun _ _ q => q
/-- Two things of the row. -/
theorem Hold.ne (O : Hold h L) {i j : Nat} {v w : AV} {o p : Ob} (hi : L[i]? = some (v, o)) (hj : L[j]? = some (w, p)) (hij : i ≠ j) {d : Nat} (hv : Has v d) : ¬ Has w d := fun hw =>
  hij (O.apart.get (i := i) (j := j) (by rw [List.getElem?_map, hi]; rfl) (by rw [List.getElem?_map, hj]; rfl) hv hw)
/-- One of them is written, or written anew. -/
theorem Hold.upd (O : Hold h L) {i : Nat} {v v' : AV} {o o' : Ob} (hi : L[i]? = some (v, o)) (K : Keep h.next (Has v) h h1) (H : Holds h1 v' o') (Fr : From h v v') :
    Hold h1 (L.set i (v', o')) ∧ Fresh h L (L.set i (v', o')) ∧ Keep h.next (Inn L) h h1 := by
  have hil := (List.getElem?_eq_some_iff.1 hi).1
  have hin : ∀ d, Has v d → Inn L d := fun d hd => in_iff.2 ⟨(v, o), List.mem_of_getElem? hi, hd⟩
  refine ⟨⟨fun x hx => ?_, ?_⟩, fun d hd => ?_, K.weak (Nat.le_refl _) fun d _ hd => hin d hd⟩
  · obtain ⟨j, hj⟩ := List.getElem?_of_mem hx
    by_cases hij : i = j
    · subst hij
      rw [List.getElem?_set_self hil] at hj
      cases hj
      exact H
    · rw [List.getElem?_set_ne hij] at hj
      exact (O.get (i := j) (v := x.1) (o := x.2) hj).keep K fun d hd => O.ne (i := j) (j := i) (v := x.1) (o := x.2) hj hi (Ne.symm hij) hd
  · rw [List.map_set]
    refine O.apart.set (i := i) (v := v) (by rw [List.getElem?_map, hi]; rfl) fun d hd => ?_
    rcases Fr d hd with z | z
    · exact .inl z
    · exact .inr fun q => by have := O.lt q; omega
  · unfold Inn at hd ⊢
    rw [List.map_set] at hd
    rcases blks_set hd with z | z
    · rcases Fr d z with w | w
      · exact .inl (hin d w)
      · exact .inr w
    · exact .inl z
theorem own_append : Hold h (A ++ B) ↔ Hold h A ∧ Hold h B ∧ ∀ d, Inn A d → ¬ Inn B d := by
  constructor
  · intro O
    have ap := O.apart
    unfold Apart at ap
    rw [List.map_append, blks_append, List.nodup_append] at ap
    exact ⟨⟨fun x hx => O.each x (List.mem_append.2 (.inl hx)), ap.1⟩, ⟨fun x hx => O.each x (List.mem_append.2 (.inr hx)), ap.2.1⟩, fun d hd hd' => ap.2.2 d hd d hd' rfl⟩
  · rintro ⟨O1, O2, dj⟩
    refine ⟨fun x hx => ?_, ?_⟩
    · rcases List.mem_append.1 hx with q | q
      · exact O1.each x q
      · exact O2.each x q
    · unfold Apart
      rw [List.map_append, blks_append, List.nodup_append]
      exact ⟨O1.apart, O2.apart, fun d hd e he q => dj d hd (q ▸ he)⟩
theorem Hold.perm {L' : List Th} (O : Hold h L) (p : L.Perm L') : Hold h L' := by
  refine ⟨fun x hx => O.each x (p.mem_iff.2 hx), ?_⟩
  have : (blks (L.map (·.1))).Perm (blks (L'.map (·.1))) := List.Perm.filterMap _ (p.map _)
  exact this.nodup_iff.1 O.apart
theorem Inn.perm {L' : List Th} {d : Nat} (p : L.Perm L') : Inn L d ↔ Inn L' d := by
  rw [in_iff, in_iff]
  constructor
  · rintro ⟨x, hx, hd⟩; exact ⟨x, p.mem_iff.1 hx, hd⟩
  · rintro ⟨x, hx, hd⟩; exact ⟨x, p.mem_iff.2 hx, hd⟩
/-- What a step does to some, beside others. -/
theorem Hold.frame {A' : List Th} (O : Hold h (A ++ B)) (O' : Hold h1 A') (f : Fresh h A A') (K : Keep h.next (Inn A) h h1) : Hold h1 (A' ++ B) ∧ Fresh h (A ++ B) (A' ++ B) ∧ Keep h.next (Inn (A ++ B)) h h1 := by
  obtain ⟨O1, O2, dj⟩ := own_append.1 O
  refine ⟨own_append.2 ⟨O', O2.keep K fun d hd q => dj d q hd, fun d hd hd' => ?_⟩, fun d hd => ?_, K.weak (Nat.le_refl _) fun d _ q => in_append.2 (.inl q)⟩
  · rcases f d hd with z | z
    · exact dj d z hd'
    · have := O2.lt hd'; omega
  · rcases in_append.1 hd with z | z
    · rcases f d z with w | w
      · exact .inl (in_append.2 (.inl w))
      · exact .inr w
    · exact .inl (in_append.2 (.inr z))
/-- A new thing. -/
theorem Hold.cons {v : AV} {o : Ob} (O : Hold h L) (K : Keep h.next nob h h1) (H : Holds h1 v o) (Fr : ∀ d, Has v d → h.next ≤ d) : Hold h1 ((v, o) :: L) ∧ Fresh h L ((v, o) :: L) := by
  have O1 := O.ext K
  refine ⟨(own_append (A := [(v, o)])).2 ⟨⟨fun x hx => by rw [List.mem_singleton.1 hx]; exact H, ?_⟩, O1, fun d hd hd' => ?_⟩, fun d hd => ?_⟩
  · unfold Apart
    rw [List.map_cons, List.map_nil, blks_cons, blks_nil, List.append_nil]
    split <;> simp
  · rcases in_cons.1 hd with z | z
    · have := Fr d z; have := O.lt hd'; omega
    · exact in_nil z
  · rcases in_cons.1 hd with z | z
    · exact .inr (Fr d z)
    · exact .inl z
theorem Hold.tail {x : Th} (O : Hold h (x :: L)) : Hold h L := (own_append (A := [x]).1 O).2.1
theorem Fresh.refl (h : Heap) (L : List Th) : Fresh h L L := fun _ q => .inl q
theorem Fresh.trans {h2 : Heap} {L' L'' : List Th} (f : Fresh h L L') (g : Fresh h2 L' L'') (hn : h.next ≤ h2.next) : Fresh h L L'' := fun d hd => by
  rcases g d hd with z | z
  · exact f d z
  · exact .inr (Nat.le_trans hn z)
/-- Two steps. -/
theorem keep_two {h2 : Heap} {L' : List Th} (K : Keep h.next (Inn L) h h1) (f : Fresh h L L') (K2 : Keep h1.next (Inn L') h1 h2) : Keep h.next (Inn L) h h2 :=
  ⟨Nat.le_trans K.1 K2.1, fun d hd hn => by
    rw [K2.2 d (Nat.lt_of_lt_of_le hd K.1) (fun q => by
      rcases f d q with z | z
      · exact hn z
      · omega), K.2 d hd hn]⟩
theorem Keep.in (K : Keep h.next nob h h1) : Keep h.next (Inn L) h h1 := K.weak (Nat.le_refl _) fun _ _ q => q.elim
end
/-- Two of them are written anew. -/
theorem Hold.upd2 {h h1 : Heap} {L : List Th} (O : Hold h L) {i j : Nat} {v v' w w' : AV} {o o' p p' : Ob} (hi : L[i]? = some (v, o)) (hj : L[j]? = some (w, p)) (hij : i ≠ j) (K : Keep h.next (fun d => Has v d ∨ Has w d) h h1) (H1 : Holds h1 v' o') (H2 : Holds h1 w' p') (F1 : From h v v') (F2 : From h w w') (dj : ∀ d, Has v' d → ¬ Has w' d) :
    Hold h1 ((L.set i (v', o')).set j (w', p')) ∧ Fresh h L ((L.set i (v', o')).set j (w', p')) ∧ Keep h.next (Inn L) h h1 := by
  have hil := (List.getElem?_eq_some_iff.1 hi).1
  have hjl := (List.getElem?_eq_some_iff.1 hj).1
  have hin : ∀ d, Has v d → Inn L d := fun d hd => in_iff.2 ⟨(v, o), List.mem_of_getElem? hi, hd⟩
  have hjn : ∀ d, Has w d → Inn L d := fun d hd => in_iff.2 ⟨(w, p), List.mem_of_getElem? hj, hd⟩
  have fr : ∀ (k : Nat) (x : Th), ((L.set i (v', o')).set j (w', p'))[k]? = some x → (k = i ∧ x = (v', o')) ∨ (k = j ∧ x = (w', p')) ∨ (k ≠ i ∧ k ≠ j ∧ L[k]? = some x) := fun k x hx => by
    by_cases hkj : j = k
    · subst hkj
      rw [List.getElem?_set_self (by simpa using hjl)] at hx
      cases hx
      exact .inr (.inl ⟨rfl, rfl⟩)
    · rw [List.getElem?_set_ne hkj] at hx
      by_cases hki : i = k
      · subst hki
        rw [List.getElem?_set_self hil] at hx
        cases hx
        exact .inl ⟨rfl, rfl⟩
      · rw [List.getElem?_set_ne hki] at hx
        exact .inr (.inr ⟨Ne.symm hki, Ne.symm hkj, hx⟩)
  have hj1 : (L.set i (v', o'))[j]? = some (w, p) := by rw [List.getElem?_set_ne hij]; exact hj
  refine ⟨⟨fun x hx => ?_, ?_⟩, fun d hd => ?_, K.weak (Nat.le_refl _) fun d _ hd => hd.elim (hin d) (hjn d)⟩
  · obtain ⟨k, hk⟩ := List.getElem?_of_mem hx
    rcases fr k x hk with ⟨_, rfl⟩ | ⟨_, rfl⟩ | ⟨n1, n2, hk⟩
    · exact H1
    · exact H2
    · refine (O.get (i := k) (v := x.1) (o := x.2) hk).keep K fun d hd q => ?_
      rcases q with q | q
      · exact O.ne (i := k) (j := i) (v := x.1) (o := x.2) hk hi n1 hd q
      · exact O.ne (i := k) (j := j) (v := x.1) (o := x.2) hk hj n2 hd q
  · rw [List.map_set, List.map_set]
    have A1 : Apart ((L.map (·.1)).set i v') := O.apart.set (i := i) (v := v) (by rw [List.getElem?_map, hi]; rfl) fun d hd => by
      rcases F1 d hd with z | z
      · exact .inl z
      · exact .inr fun q => by have := O.lt q; omega
    refine A1.set (i := j) (v := w) (by rw [List.getElem?_set_ne hij, List.getElem?_map, hj]; rfl) fun d hd => ?_
    rcases F2 d hd with z | z
    · exact .inl z
    · refine .inr fun q => ?_
      rcases blks_set q with y | y
      · exact dj d y hd
      · have := O.lt y; omega
  · obtain ⟨x, hx, hv⟩ := in_iff.1 hd
    obtain ⟨k, hk⟩ := List.getElem?_of_mem hx
    rcases fr k x hk with ⟨_, rfl⟩ | ⟨_, rfl⟩ | ⟨n1, n2, hk⟩
    · rcases F1 d hv with z | z
      · exact .inl (hin d z)
      · exact .inr z
    · rcases F2 d hv with z | z
      · exact .inl (hjn d z)
      · exact .inr z
    · exact .inl (in_iff.2 ⟨x, List.mem_of_getElem? hk, hv⟩)
theorem Hold.snoc {h h1 : Heap} {L : List Th} {v : AV} {o : Ob} (O : Hold h L) (K : Keep h.next nob h h1) (H : Holds h1 v o) (Fr : ∀ d, Has v d → h.next ≤ d) : Hold h1 (L ++ [(v, o)]) ∧ Fresh h L (L ++ [(v, o)]) := by
  obtain ⟨q1, q2⟩ := O.cons K H Fr
  have p : ((v, o) :: L).Perm (L ++ [(v, o)]) := by
    rw [show ((v, o) :: L) = [(v, o)] ++ L from rfl]; exact List.perm_append_comm
  exact ⟨q1.perm p, fun d hd => q2 d ((Inn.perm p).2 hd)⟩
/-- A step from what was had to what is had. -/
structure Stp (h : Heap) (L : List Th) (h' : Heap) (L' : List Th) : Prop where
  own : Hold h' L'
  fr : Fresh h L L'
  k : Keep h.next (Inn L) h h'
section
variable {h h1 h2 : Heap} {L L1 L2 A A' B : List Th}
theorem Stp.refl (O : Hold h L) : Stp h L h L := ⟨O, Fresh.refl _ _, Keep.refl _ _ _⟩
theorem Stp.trans (S : Stp h L h1 L1) (T : Stp h1 L1 h2 L2) : Stp h L h2 L2 := ⟨T.own, S.fr.trans T.fr S.k.1, keep_two S.k S.fr T.k⟩
theorem Stp.ext (S : Stp h L h1 L1) (K : Keep h1.next nob h1 h2) : Stp h L h2 L1 := S.trans ⟨S.own.ext K, Fresh.refl _ _, K.in⟩
theorem Stp.snoc {v : AV} {o : Ob} (S : Stp h L h1 L1) (K : Keep h1.next nob h1 h2) (H : Holds h2 v o) (Fr : ∀ d, Has v d → h1.next ≤ d) : Stp h L h2 (L1 ++ [(v, o)]) := by
  obtain ⟨q1, q2⟩ := S.own.snoc K H Fr
  exact S.trans ⟨q1, q2, K.in⟩
theorem Stp.a (S : Stp h L h1 (A ++ B)) : Hold h1 A := (own_append.1 S.own).1
theorem Stp.b (S : Stp h L h1 (A ++ B)) : Hold h1 B := (own_append.1 S.own).2.1
theorem Stp.op (S : Stp h L h1 (A ++ B)) (T : Stp h1 A h2 A') : Stp h L h2 (A' ++ B) := by
  obtain ⟨q1, q2, q3⟩ := S.own.frame T.own T.fr T.k
  exact S.trans ⟨q1, q2, q3⟩
theorem Stp.opB {B' : List Th} (S : Stp h L h1 (A ++ B)) (T : Stp h1 B h2 B') : Stp h L h2 (A ++ B') := by
  have p : (A ++ B).Perm (B ++ A) := List.perm_append_comm
  obtain ⟨q1, q2, q3⟩ := (S.own.perm p).frame T.own T.fr T.k
  have p' : (B' ++ A).Perm (A ++ B') := List.perm_append_comm
  refine S.trans ⟨q1.perm p', fun d hd => ?_, q3.weak (Nat.le_refl _) fun d _ hd => (Inn.perm p).2 hd⟩
  rcases q2 d ((Inn.perm p').2 hd) with z | z
  · exact .inl ((Inn.perm p).2 z)
  · exact .inr z
theorem Stp.drop (S : Stp h L h1 (A ++ B)) : Stp h L h1 A := ⟨S.a, fun d hd => S.fr d (in_append.2 (.inl hd)), S.k⟩
theorem Stp.upd (S : Stp h L h1 L1) {i : Nat} {v v' : AV} {o o' : Ob} (hi : L1[i]? = some (v, o)) (K : Keep h1.next (Has v) h1 h2) (H : Holds h2 v' o') (Fr : From h1 v v') : Stp h L h2 (L1.set i (v', o')) := by
  obtain ⟨q1, q2, q3⟩ := S.own.upd hi K H Fr
  exact S.trans ⟨q1, q2, q3⟩
end
/-- What one has, since a call was entered. -/
structure Wd (h0 h : Heap) (L : List Th) : Prop where
  own : Hold h L
  kb : Keep h0.next nob h0 h
  nb : ∀ d, Inn L d → h0.next ≤ d
section
variable {h0 h h1 : Heap} {L L' : List Th}
theorem Wd.start (h : Heap) : Wd h h [] := ⟨Hold.nil h, Keep.refl _ _ _, fun d hd => (in_nil hd).elim⟩
theorem Wd.step (W : Wd h0 h L) (O : Hold h1 L') (f : Fresh h L L') (K : Keep h.next (Inn L) h h1) : Wd h0 h1 L' := by
  have hk := W.kb.1
  refine ⟨O, ⟨Nat.le_trans W.kb.1 K.1, fun d hd _ => ?_⟩, fun d hd => ?_⟩
  · rw [K.2 d (Nat.lt_of_lt_of_le hd hk) (fun q => by have := W.nb d q; omega), W.kb.2 d hd id]
  · rcases f d hd with z | z
    · exact W.nb d z
    · omega
theorem Wd.stp (W : Wd h0 h L) (S : Stp h L h1 L') : Wd h0 h1 L' := W.step S.own S.fr S.k
theorem Wd.op {A A' B : List Th} (W : Wd h0 h (A ++ B)) (T : Stp h A h1 A') : Wd h0 h1 (A' ++ B) := W.stp ((Stp.refl W.own).op T)
theorem Wd.opB {A B B' : List Th} (W : Wd h0 h (A ++ B)) (T : Stp h B h1 B') : Wd h0 h1 (A ++ B') := W.stp ((Stp.refl W.own).opB T)
theorem Wd.a {A B : List Th} (W : Wd h0 h (A ++ B)) : Hold h A := (own_append.1 W.own).1
theorem Wd.b {A B : List Th} (W : Wd h0 h (A ++ B)) : Hold h B := (own_append.1 W.own).2.1
theorem Wd.ext (W : Wd h0 h L) (K : Keep h.next nob h h1) : Wd h0 h1 L := W.step (W.own.ext K) (Fresh.refl _ _) K.in
theorem Wd.upd (W : Wd h0 h L) {i : Nat} {v v' : AV} {o o' : Ob} (hi : L[i]? = some (v, o)) (K : Keep h.next (Has v) h h1) (H : Holds h1 v' o') (Fr : From h v v') : Wd h0 h1 (L.set i (v', o')) := by
  obtain ⟨q1, q2, q3⟩ := W.own.upd hi K H Fr
  exact W.step q1 q2 q3
theorem Wd.cons {v : AV} {o : Ob} (W : Wd h0 h L) (K : Keep h.next nob h h1) (H : Holds h1 v o) (Fr : ∀ d, Has v d → h.next ≤ d) : Wd h0 h1 ((v, o) :: L) := by
  obtain ⟨q1, q2⟩ := W.own.cons K H Fr
  exact W.step q1 q2 K.in
theorem Wd.frame {A A' B : List Th} (W : Wd h0 h (A ++ B)) (O' : Hold h1 A') (f : Fresh h A A') (K : Keep h.next (Inn A) h h1) : Wd h0 h1 (A' ++ B) := by
  obtain ⟨q1, q2, q3⟩ := W.own.frame O' f K
  exact W.step q1 q2 q3
theorem Wd.perm (W : Wd h0 h L) (p : L.Perm L') : Wd h0 h L' := ⟨W.own.perm p, W.kb, fun d hd => W.nb d ((Inn.perm p).2 hd)⟩
end
section
variable {h0 h h1 : Heap} {A A' B B' C C' Y : List Th}
theorem Wd.snoc {v : AV} {o : Ob} (W : Wd h0 h A) (K : Keep h.next nob h h1) (H : Holds h1 v o) (Fr : ∀ d, Has v d → h.next ≤ d) : Wd h0 h1 (A ++ [(v, o)]) := W.stp ((Stp.refl W.own).snoc K H Fr)
theorem Wd.join (W : Wd h0 h A) (V : Wd h h1 B) : Wd h0 h1 (A ++ B) := by
  have W1 := W.ext V.kb
  refine ⟨own_append.2 ⟨W1.own, V.own, fun d hd hd' => ?_⟩, W1.kb, fun d hd => ?_⟩
  · have := V.nb d hd'; have := W.own.lt hd; omega
  · rcases in_append.1 hd with z | z
    · exact W.nb d z
    · exact Nat.le_trans W.kb.1 (V.nb d z)
theorem Wd.drop (W : Wd h0 h (A ++ B)) : Wd h0 h A := ⟨W.a, W.kb, fun d hd => W.nb d (in_append.2 (.inl hd))⟩
theorem Wd.op2 (W : Wd h0 h (A ++ (B ++ Y))) (T : Stp h B h1 B') : Wd h0 h1 (A ++ (B' ++ Y)) := W.opB ((Stp.refl W.b).op T)
theorem Wd.op3 (W : Wd h0 h (A ++ (B ++ (C ++ Y)))) (T : Stp h C h1 C') : Wd h0 h1 (A ++ (B ++ (C' ++ Y))) := W.opB ((Stp.refl W.b).opB ((Stp.refl (own_append.1 W.b).2.1).op T))
theorem Wd.a2 (W : Wd h0 h (A ++ (B ++ Y))) : Hold h B := (own_append.1 W.b).1
theorem Wd.a3 (W : Wd h0 h (A ++ (B ++ (C ++ Y)))) : Hold h C := (own_append.1 (own_append.1 W.b).2.1).1
/-- A block of its own, somewhere in the row. -/
theorem Hold.blk {L : List Th} (O : Hold h L) {b : Nat} {c : List AV} (hm : (.ptr b 0, .blk c) ∈ L) : h.get b = some (.cells c false) ∧ b < h.next := by
  obtain ⟨b', e, h1, h2⟩ := O.each _ hm
  cases e
  exact ⟨h2, h1⟩
theorem hold_new (h : Heap) (c : List AV) : Holds (h.new (.cells c false)) (.ptr h.next 0) (.blk c) := ⟨h.next, rfl, Nat.lt_succ_self _, get_new_self _ _⟩
theorem fresh_new (h : Heap) : ∀ d, Has (.ptr h.next 0) d → h.next ≤ d := fun d hd => by cases hd; exact Nat.le_refl _
end
/-! Rows of rows. -/
section
variable {α β : Type} {f : α → List β} {sz : Nat}
def gcat (f : α → List β) (L : List α) : List β := (L.map f).flatten
theorem gcat_nil : gcat f [] = [] := rfl
theorem gcat_cons (x : α) (L : List α) : gcat f (x :: L) = f x ++ gcat f L := by simp [gcat]
theorem gcat_append (L M : List α) : gcat f (L ++ M) = gcat f L ++ gcat f M := by simp [gcat]
theorem gcat_one (x : α) : gcat f [x] = f x := by simp [gcat]
theorem gcat_len (hf : ∀ x, (f x).length = sz) : ∀ L : List α, (gcat f L).length = L.length * sz
  | [] => by simp [gcat]
  | x :: L => by rw [gcat_cons, List.length_append, hf, gcat_len hf L, List.length_cons, Nat.add_mul, Nat.one_mul, Nat.add_comm]
theorem gcat_get (hf : ∀ x, (f x).length = sz) : ∀ {L : List α} {j : Nat} {x : α}, L[j]? = some x → ∀ {o : Nat}, o < sz → (gcat f L)[j * sz + o]? = (f x)[o]?
  | [], j, x, h, o, ho => by simp at h
  | y :: L, 0, x, h, o, ho => by
    simp at h; subst h
    rw [gcat_cons, Nat.zero_mul, Nat.zero_add, List.getElem?_append_left (by rw [hf]; exact ho)]
  | y :: L, j + 1, x, h, o, ho => by
    rw [gcat_cons, List.getElem?_append_right (by rw [hf, Nat.add_mul, Nat.one_mul]; omega), hf, show (j + 1) * sz + o - sz = j * sz + o by rw [Nat.add_mul, Nat.one_mul]; omega]
    exact gcat_get hf (by simpa using h) ho
theorem gcat_set (hf : ∀ x, (f x).length = sz) : ∀ {L : List α} {j : Nat} {x y : α}, L[j]? = some x → ∀ {o : Nat}, o < sz → ∀ {a : β}, (f x).set o a = f y → (gcat f L).set (j * sz + o) a = gcat f (L.set j y)
  | [], j, x, y, h, o, ho, a, e => by simp at h
  | z :: L, 0, x, y, h, o, ho, a, e => by
    simp at h; subst h
    rw [gcat_cons, Nat.zero_mul, Nat.zero_add, List.set_cons_zero, gcat_cons, ← e, List.set_append_left _ _ (by rw [hf]; exact ho)]
  | z :: L, j + 1, x, y, h, o, ho, a, e => by
    rw [gcat_cons, List.set_cons_succ, gcat_cons, List.set_append_right _ _ (by rw [hf, Nat.add_mul, Nat.one_mul]; omega), hf, show (j + 1) * sz + o - sz = j * sz + o by rw [Nat.add_mul, Nat.one_mul]; omega]
    rw [gcat_set hf (by simpa using h) ho e]
end
end Go.YtelnkdgpghndgaaAbs
/- Stepping: maps. -/
namespace Go.YtelnkdgpghndgaaAbs
open Go Go.RowKit
set_option linter.unusedSimpArgs false
set_option linter.unusedVariables false

/-- What is put under a key. -/
def mapPut (P : Program) (ty : TypeId) (h : Heap) (m k v : AV) : Option (AV × Heap) := match P.underlying ty, m with
  | some (.map kt _), .mp b => if akey P kt k then match h.get b with
    | some (.map es cl) => match amput es cl k v with
      | some o => some (.tup [], h.set b o)
      | none => none
    | _ => none else none
  | _, _ => none
/-- What stands under a key. -/
def mapGet (P : Program) (ty : TypeId) (h : Heap) (m k : AV) (ok : Bool) : Option AV := match P.underlying ty with
  | some (.map kt et) => match akey P kt k, azerov P et with
    | true, some z => match (match m with
        | .nilm => some []
        | .mp b => match h.get b with
          | some (.map es _) => some es
          | _ => none
        | _ => none) with
      | none => none
      | some es => match afind k es 0 with
        | none => none
        | some (some (_, v, _)) => some (if ok then .tup [v, .bool true] else v)
        | some none => some (if ok then .tup [z, .bool false] else z)
    | _, _ => none
  | _ => none
/-- What stands under a key is taken out. -/
def mapDel (P : Program) (ty : TypeId) (h : Heap) (m k : AV) : Option (AV × Heap) := match P.underlying ty with
  | some (.map kt _) => if akey P kt k then match m with
    | .mp b => match h.get b with
      | some (.map es cl) => match afind k es 0 with
        | some (some (i, _, _)) => some (.tup [], h.set b (.map (es.eraseIdx i) cl))
        | some none => some (.tup [], h)
        | none => none
      | _ => none
    | .nilm => some (.tup [], h)
    | _ => none else none
  | _ => none
section
variable {P : Program} {call : CallO} {t : Tr AV} {h : Heap} {d : Option Tmp} {ty : TypeId} {pos : String} {af : Array Edge} {g : Option (Nat × Bool)}
@[simp] theorem aop_makeMap (u : TypeId) : aop P call t h ⟨d, .makeMap u none, ty, pos, af, g⟩ = some (.mp h.next, h.new (.map [] 0)) := rfl
@[simp] theorem aop_mapUpdate (u : TypeId) (x k v : Operand) : aop P call t h ⟨d, .mapUpdate u x k v, ty, pos, af, g⟩ = mapPut P u h (ev t x) (ev t k) (ev t v) := rfl
@[simp] theorem aop_lookup (u : TypeId) (x k : Operand) (ok : Bool) : aop P call t h ⟨d, .lookup u x k ok, ty, pos, af, g⟩ = (mapGet P u h (ev t x) (ev t k) ok).map fun a => (a, h) := by
  show (match mapGet P u h (ev t x) (ev t k) ok with
    | some a => some (a, h)
    | none => none) = _
  cases mapGet P u h (ev t x) (ev t k) ok <;> rfl
@[simp] theorem aop_delete (x k : Operand) (st kt : TypeId) : aop P call t h ⟨d, .call ⟨.builtin .delete, List.toArray [x, k], List.toArray [st, kt]⟩, ty, pos, af, g⟩ = mapDel P st h (ev t x) (ev t k) := by
  show (match (some x : Option Operand), (some k : Option Operand), P.underlying st with
    | some x, some k, some (.map kt _) => (if akey P kt (ev t k) then match ev t x with
        | .mp b => match h.get b with
          | some (.map es cl) => match afind (ev t k) es 0 with
            | some (some (i, _, _)) => some (AV.tup [], h.set b (.map (es.eraseIdx i) cl))
            | some none => some (AV.tup [], h)
            | none => none
          | _ => none
        | .nilm => some (AV.tup [], h)
        | _ => none else none : Option (AV × Heap))
      | _, _, _ => none) = _
  unfold mapDel
  cases P.underlying st with
  | none => rfl
  | some u => cases u <;> rfl
end
end Go.YtelnkdgpghndgaaAbs
