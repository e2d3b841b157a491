/- What becomes of the relation of heaps when a block is made or written. -/
import Derived.Test.YtcgafaecdjbmiaaAbsC
namespace Go.YtcgafaecdjbmiaaAbs
open Go Go.RowKit

def Mp.put (m : Mp) (b : Nat) (x : MB) : Mp := fun c => if c = b then some x else m c
theorem Mp.put_same (m : Mp) (b : Nat) (x : MB) : m.put b x b = some x := by simp [Mp.put]
theorem Mp.put_ne (m : Mp) {b c : Nat} (x : MB) (h : c ≠ b) : m.put b x c = m c := by simp [Mp.put, h]
theorem Mp.le_put {m : Mp} {b : Nat} (x : MB) (h : m b = none) : Le m (m.put b x) := fun c y e => by
  by_cases k : c = b
  · subst k; rw [h] at e; cases e
  · rw [Mp.put_ne m x k]; exact e

theorem below_setCells {F : Env} {b : Nat} {a : World} (hb : ¬ F.keep b) : ∀ (vs : List Value) (o : Nat) (w : World), Kept F a w → Kept F a (w.setCells b o vs)
  | [], _, _, h => h
  | v :: r, o, _, h => below_setCells hb r (o + 1) _ (h.setCell (p := ⟨b, o, none⟩) hb v)
theorem size_setCells (b : Nat) : ∀ (vs : List Value) (o : Nat) (w : World), (w.setCells b o vs).heap.size = w.heap.size
  | [], _, _ => rfl
  | v :: r, o, w => by rw [World.setCells, size_setCells b r (o + 1)]; simp
theorem heap_setCells {b k : Nat} (hk : k ≠ b) : ∀ (vs : List Value) (o : Nat) (w : World), (w.setCells b o vs).heap[k]? = w.heap[k]?
  | [], _, _ => rfl
  | v :: r, o, w => by rw [World.setCells, heap_setCells hk r (o + 1)]; exact Below.heap_setCell _ _ _ _ hk

theorem HR.drew {F : Env} {w0 : World} {m : Mp} {h : Heap} {w : World} (H : HR F w0 m h w) : HR F w0 m h w.drew :=
  ⟨H.below.drew, H.dom, H.cells, H.maps, H.inj, H.fresh, H.res⟩

theorem Wr.new {h : Heap} {o : AO} {b : Nat} (k : Wr (h.new o) b) : b = h.next ∨ Wr h b := by
  obtain ⟨o', e, q⟩ := k
  rw [Heap.get_new] at e
  by_cases hb : h.next = b
  · exact .inl hb.symm
  · rw [if_neg hb] at e; exact .inr ⟨o', e, q⟩

theorem HR.lt {F : Env} {w0 : World} {m : Mp} {h : Heap} {w : World} (H : HR F w0 m h w) {b : Nat} {x : MB} (k : Wr h b) (e : m b = some x) : x.B < w.heap.size ∧ ¬ F.keep x.B := by
  obtain ⟨o, ho, q⟩ := k
  cases o with
  | cells c ro =>
    cases ro with
    | true => exact absurd rfl (q c)
    | false =>
      obtain ⟨y, e', h1, _, _, _, h2⟩ := H.cells b c false ho
      rw [e] at e'; cases e'
      exact ⟨h1, (h2 rfl).1⟩
  | map es cl =>
    obtain ⟨y, vs, e', h1, h2, _⟩ := H.maps b es cl ho
    rw [e] at e'; cases e'
    exact ⟨(Array.getElem?_eq_some_iff.1 h2).1, h1⟩

/-- A new block of cells. -/
theorem HR.new {F : Env} {w0 : World} {m : Mp} {h : Heap} {w : World} (H : HR F w0 m h w) (l : List AV) (C : Array Value) (e : TypeId) (fr : Nat × Nat) (ext : Nat)
    (hl : l.length ≤ ext) (hext : ext ≤ C.size) (hv : VRs m l (C.toList.take l.length)) (hfr : ∀ i, i < ext → (decide (fr.1 ≤ i) && decide (i < fr.2)) = false) :
    HR F w0 (m.put h.next ⟨w.heap.size, 0, ext⟩) (h.new (.cells l false)) (w.alloc (.cells C e fr)) := by
  have hnx := H.fresh h.next (Nat.le_refl _)
  have hle : Le m (m.put h.next ⟨w.heap.size, 0, ext⟩) := Mp.le_put _ hnx.2
  have hh : (w.alloc (.cells C e fr)).heap[w.heap.size]? = some (.cells C e fr) := by
    show (w.heap.push _)[_]? = _
    simp
  have hcell : ∀ i, (w.alloc (.cells C e fr)).cell? ⟨w.heap.size, i, none⟩ = C[i]? := fun i => by
    simp only [World.cell?, hh]; rfl
  have hfrz : ∀ i, (w.alloc (.cells C e fr)).frozen? ⟨w.heap.size, i, none⟩ = (decide (fr.1 ≤ i) && decide (i < fr.2)) := fun i => by
    simp only [World.frozen?, hh]
  refine ⟨H.below.alloc H.dom _, fun k hk => by have := H.dom k hk; simp; omega, ?_, ?_, ?_, ?_, ?_⟩
  · intro b c ro hb
    rw [Heap.get_new] at hb
    by_cases k : h.next = b
    · subst k
      rw [if_pos rfl] at hb
      simp only [Option.some.injEq, AO.cells.injEq] at hb
      obtain ⟨rfl, rfl⟩ := hb
      refine ⟨_, Mp.put_same _ _ _, by simp, hl, fun i a hi => ?_, fun q => (Bool.noConfusion q), fun _ => ⟨fun q => Nat.lt_irrefl _ (H.dom _ q), fun i hi => ⟨?_, ?_⟩⟩⟩
      · obtain ⟨v, h1, h2⟩ := hv.get i a hi
        refine ⟨v, ?_, h2.mono hle⟩
        have hil : i < l.length := (List.getElem?_eq_some_iff.1 hi).1
        rw [List.getElem?_take, if_pos hil] at h1
        simp only [Nat.zero_add]
        rw [hcell]; simpa using h1
      · simp only [Nat.zero_add]; rw [hfrz]; exact hfr i hi
      · simp only [Nat.zero_add]; rw [hcell]
        have hi : i < ext := hi
        have : i < C.size := by omega
        simp [this]
    · rw [if_neg k] at hb
      obtain ⟨x, h1, h2, h3, h4, h5, h6⟩ := H.cells b c ro hb
      refine ⟨x, hle _ _ h1, by simp; omega, h3, fun i a hi => ?_, h5, fun q => ⟨(h6 q).1, fun i hi => ?_⟩⟩
      · obtain ⟨v, q1, q2⟩ := h4 i a hi
        exact ⟨v, by rw [World.cell?_alloc_lt _ _ _ (by simpa using h2)]; exact q1, q2.mono hle⟩
      · rw [World.cell?_alloc_lt _ _ _ (by simpa using h2), World.frozen?_alloc_old _ _ _ (by simp; omega)]
        exact (h6 q).2 i hi
  · intro b es cl hb
    rw [Heap.get_new] at hb
    by_cases k : h.next = b
    · rw [if_pos k] at hb; cases hb
    · rw [if_neg k] at hb
      obtain ⟨x, vs, h1, h2, h3, h4⟩ := H.maps b es cl hb
      refine ⟨x, vs, hle _ _ h1, h2, ?_, ERs.mono hle _ _ h4⟩
      rw [Below.heap_alloc _ _ _ (Array.getElem?_eq_some_iff.1 h3).1]; exact h3
  · intro b b' x x' hb hb' hx hx' hB
    have side : ∀ {b : Nat} {x : MB}, Wr (h.new (.cells l false)) b → (m.put h.next ⟨w.heap.size, 0, ext⟩) b = some x → (b = h.next ∧ x.B = w.heap.size) ∨ (Wr h b ∧ m b = some x ∧ x.B < w.heap.size) := by
      intro b x hb hx
      by_cases k : b = h.next
      · subst k; rw [Mp.put_same] at hx; cases hx; exact .inl ⟨rfl, rfl⟩
      · rw [Mp.put_ne _ _ k] at hx
        rcases hb.new with q | q
        · exact absurd q k
        · exact .inr ⟨q, hx, (H.lt q hx).1⟩
    rcases side hb hx with ⟨e1, q1⟩ | ⟨w1, m1, q1⟩ <;> rcases side hb' hx' with ⟨e2, q2⟩ | ⟨w2, m2, q2⟩
    · rw [e1, e2]
    · omega
    · omega
    · exact H.inj b b' x x' w1 w2 m1 m2 hB
  · intro b hb
    have hb' : h.next + 1 ≤ b := hb
    rw [Heap.get_new, if_neg (by omega), Mp.put_ne _ _ (by omega)]
    exact H.fresh b (by omega)
  · intro b hb
    obtain ⟨q1, q2, q3⟩ := H.res b hb
    rw [Heap.get_new, if_neg (by omega), Mp.put_ne _ _ (by omega)]
    exact ⟨Nat.lt_succ_of_lt q1, q2, q3⟩

/-- A new map. -/
theorem HR.newMap {F : Env} {w0 : World} {m : Mp} {h : Heap} {w : World} (H : HR F w0 m h w) :
    HR F w0 (m.put h.next ⟨w.heap.size, 0, 0⟩) (h.new (.map [] 0)) (w.alloc (.map #[] 0)) := by
  have hnx := H.fresh h.next (Nat.le_refl _)
  have hle : Le m (m.put h.next ⟨w.heap.size, 0, 0⟩) := Mp.le_put _ hnx.2
  refine ⟨H.below.alloc H.dom _, fun k hk => by have := H.dom k hk; simp; omega, ?_, ?_, ?_, ?_, ?_⟩
  · intro b c ro hb
    rw [Heap.get_new] at hb
    by_cases k : h.next = b
    · rw [if_pos k] at hb; cases hb
    · rw [if_neg k] at hb
      obtain ⟨x, h1, h2, h3, h4, h5, h6⟩ := H.cells b c ro hb
      refine ⟨x, hle _ _ h1, by simp; omega, h3, fun i a hi => ?_, h5, fun q => ⟨(h6 q).1, fun i hi => ?_⟩⟩
      · obtain ⟨v, q1, q2⟩ := h4 i a hi
        exact ⟨v, by rw [World.cell?_alloc_lt _ _ _ (by simpa using h2)]; exact q1, q2.mono hle⟩
      · rw [World.cell?_alloc_lt _ _ _ (by simpa using h2), World.frozen?_alloc_old _ _ _ (by simp; omega)]
        exact (h6 q).2 i hi
  · intro b es cl hb
    rw [Heap.get_new] at hb
    by_cases k : h.next = b
    · subst k
      rw [if_pos rfl] at hb
      simp only [Option.some.injEq, AO.map.injEq] at hb
      obtain ⟨rfl, rfl⟩ := hb
      exact ⟨_, #[], Mp.put_same _ _ _, fun q => Nat.lt_irrefl _ (H.dom _ q), by show (w.heap.push _)[_]? = _; simp, rfl⟩
    · rw [if_neg k] at hb
      obtain ⟨x, vs, h1, h2, h3, h4⟩ := H.maps b es cl hb
      refine ⟨x, vs, hle _ _ h1, h2, ?_, ERs.mono hle _ _ h4⟩
      rw [Below.heap_alloc _ _ _ (Array.getElem?_eq_some_iff.1 h3).1]; exact h3
  · intro b b' x x' hb hb' hx hx' hB
    have side : ∀ {b : Nat} {x : MB}, Wr (h.new (.map [] 0)) b → (m.put h.next ⟨w.heap.size, 0, 0⟩) b = some x → (b = h.next ∧ x.B = w.heap.size) ∨ (Wr h b ∧ m b = some x ∧ x.B < w.heap.size) := by
      intro b x hb hx
      by_cases k : b = h.next
      · subst k; rw [Mp.put_same] at hx; cases hx; exact .inl ⟨rfl, rfl⟩
      · rw [Mp.put_ne _ _ k] at hx
        rcases hb.new with q | q
        · exact absurd q k
        · exact .inr ⟨q, hx, (H.lt q hx).1⟩
    rcases side hb hx with ⟨e1, q1⟩ | ⟨w1, m1, q1⟩ <;> rcases side hb' hx' with ⟨e2, q2⟩ | ⟨w2, m2, q2⟩
    · rw [e1, e2]
    · omega
    · omega
    · exact H.inj b b' x x' w1 w2 m1 m2 hB
  · intro b hb
    have hb' : h.next + 1 ≤ b := hb
    rw [Heap.get_new, if_neg (by omega), Mp.put_ne _ _ (by omega)]
    exact H.fresh b (by omega)
  · intro b hb
    obtain ⟨q1, q2, q3⟩ := H.res b hb
    rw [Heap.get_new, if_neg (by omega), Mp.put_ne _ _ (by omega)]
    exact ⟨Nat.lt_succ_of_lt q1, q2, q3⟩

theorem layOver_eq : ∀ (c vs r : List AV), layOver vs c = some r → vs.length ≤ c.length ∧ r = vs ++ c.drop vs.length
  | c, [], r, h => by
    rw [layOver_nil] at h
    cases h; simp
  | [], _ :: _, r, h => by rw [layOver_cons_nil] at h; cases h
  | _ :: c, v :: vs, r, h => by
    rw [layOver_cons] at h
    split at h
    · rename_i r' hr
      simp only [Option.some.injEq] at h; subst h
      obtain ⟨h1, h2⟩ := layOver_eq c vs r' hr
      exact ⟨by simp only [List.length_cons]; omega, by simp [h2]⟩
    · cases h
theorem layAt_eq : ∀ (c : List AV) (i : Nat) (vs r : List AV), layAt c i vs = some r → i + vs.length ≤ c.length ∧ r = c.take i ++ vs ++ c.drop (i + vs.length)
  | c, 0, vs, r, h => by
    rw [layAt_zero] at h
    obtain ⟨h1, h2⟩ := layOver_eq c vs r h
    exact ⟨by omega, by simp [h2]⟩
  | [], i + 1, vs, r, h => by rw [layAt_nil] at h; cases h
  | x :: c, i + 1, vs, r, h => by
    rw [layAt_cons] at h
    split at h
    · rename_i r' hr
      simp only [Option.some.injEq] at h; subst h
      obtain ⟨h1, h2⟩ := layAt_eq c i vs r' hr
      refine ⟨by simp only [List.length_cons]; omega, ?_⟩
      rw [show i + 1 + vs.length = (i + vs.length) + 1 by omega]
      simp [h2]
    · cases h

theorem Wr.set {h : Heap} {b c : Nat} {o : AO} (k : Wr (h.set b o) c) (hb : Wr h b) : Wr h c := by
  obtain ⟨o', e, q⟩ := k
  rw [Heap.get_set] at e
  by_cases hc : b = c
  · subst hc; exact hb
  · rw [if_neg hc] at e; exact ⟨o', e, q⟩

/-- Cells of a block are written. -/
theorem HR.lay {F : Env} {w0 : World} {m : Mp} {h h' : Heap} {w : World} (H : HR F w0 m h w) {b i : Nat} {vs : List AV} {us : List Value} (e : alay h b i vs = some h') (hv : VRs m vs us) :
    ∃ x, m b = some x ∧ (∀ j, j < us.length → (w.cell? ⟨x.B, x.δ + i + j, none⟩).isSome = true) ∧ (∀ j, j < us.length → w.frozen? ⟨x.B, x.δ + i + j, none⟩ = false) ∧
      HR F w0 m h' (w.setCells x.B (x.δ + i) us) := by
  unfold alay at e
  split at e
  · rename_i c hb
    split at e
    · rename_i c1 hc1
      obtain ⟨hfit, rfl⟩ := layAt_eq _ _ _ _ hc1
      simp only [Option.some.injEq] at e; subst e
      have hwb : Wr h b := ⟨_, hb, fun c' q => by cases q⟩
      obtain ⟨x, h1, h2, h3, h4, h5, h6⟩ := H.cells b c false hb
      have hlen := hv.length
      have hb0 := (h6 rfl).1
      have h7 := (h6 rfl).2
      have hin : ∀ j, j < us.length → (w.cell? ⟨x.B, x.δ + i + j, none⟩).isSome = true := fun j hj => by
        rw [Nat.add_assoc]; exact (h7 (i + j) (by omega)).2
      refine ⟨x, h1, hin, fun j hj => by rw [Nat.add_assoc]; exact (h7 (i + j) (by omega)).1, ?_⟩
      have hsome : ∀ k, k < x.ext → ((w.setCells x.B (x.δ + i) us).cell? ⟨x.B, x.δ + k, none⟩).isSome = true := by
        intro k hk
        by_cases q : i ≤ k ∧ k < i + us.length
        · have := World.cell?_setCells_in x.B us (x.δ + i) w hin (k - i) (by omega)
          rw [show x.δ + i + (k - i) = x.δ + k by omega] at this
          rw [this]; rfl
        · rw [World.cell?_setCells_out x.B us (x.δ + i) w _ (fun _ _ => by simp only; omega)]
          exact (h7 k hk).2
      refine ⟨below_setCells hb0 _ _ _ H.below, fun k hk => by rw [size_setCells]; exact H.dom k hk, ?_, ?_, ?_, ?_, ?_⟩
      · intro b' c' ro hb'
        rw [Heap.get_set] at hb'
        by_cases k : b = b'
        · subst k
          rw [if_pos rfl] at hb'
          simp only [Option.some.injEq, AO.cells.injEq] at hb'
          obtain ⟨rfl, rfl⟩ := hb'
          refine ⟨x, h1, by rw [size_setCells]; exact h2, by simp only [List.length_append, List.length_take, List.length_drop]; omega, fun k a hk => ?_, fun q => (Bool.noConfusion q), fun _ => ⟨hb0, fun k hk => ⟨?_, hsome k hk⟩⟩⟩
          · by_cases q1 : k < i
            · have hk' : c[k]? = some a := by
                rw [List.append_assoc, List.getElem?_append_left (by simp only [List.length_take]; omega), List.getElem?_take, if_pos q1] at hk
                exact hk
              obtain ⟨v, r1, r2⟩ := h4 k a hk'
              refine ⟨v, ?_, r2⟩
              rw [World.cell?_setCells_out x.B us (x.δ + i) w _ (fun _ _ => by simp only; omega)]
              exact r1
            · by_cases q2 : k < i + vs.length
              · have hk' : vs[k - i]? = some a := by
                  rw [List.getElem?_append_left (by simp only [List.length_append, List.length_take]; omega), List.getElem?_append_right (by simp only [List.length_take]; omega)] at hk
                  rw [show k - (c.take i).length = k - i by simp only [List.length_take]; omega] at hk
                  exact hk
                obtain ⟨v, r1, r2⟩ := hv.get _ _ hk'
                refine ⟨v, ?_, r2⟩
                have := World.cell?_setCells_in x.B us (x.δ + i) w hin (k - i) (by omega)
                rw [show x.δ + i + (k - i) = x.δ + k by omega] at this
                rw [this, ← r1, List.getElem?_eq_getElem (by omega)]
              · have hk' : c[k]? = some a := by
                  rw [List.getElem?_append_right (by simp only [List.length_append, List.length_take]; omega), List.getElem?_drop] at hk
                  rw [show i + vs.length + (k - (c.take i ++ vs).length) = k by simp only [List.length_append, List.length_take]; omega] at hk
                  exact hk
                obtain ⟨v, r1, r2⟩ := h4 k a hk'
                refine ⟨v, ?_, r2⟩
                rw [World.cell?_setCells_out x.B us (x.δ + i) w _ (fun _ _ => by simp only; omega)]
                exact r1
          · rw [World.frozen?_setCells]; exact (h7 k hk).1
        · rw [if_neg k] at hb'
          obtain ⟨y, g1, g2, g3, g4, g5, g6⟩ := H.cells b' c' ro hb'
          have hne : y.B ≠ x.B := by
            intro q
            cases ro with
            | true => exact hb0 (q ▸ F.rk _ (g5 rfl))
            | false => exact k (H.inj b b' x y hwb ⟨_, hb', fun c' q => by cases q⟩ h1 g1 q.symm)
          refine ⟨y, g1, by rw [size_setCells]; exact g2, g3, fun j a hj => ?_, g5, fun q => ⟨(g6 q).1, fun j hj => ?_⟩⟩
          · obtain ⟨v, r1, r2⟩ := g4 j a hj
            exact ⟨v, by rw [World.cell?_setCells_out _ _ _ _ _ (fun q => absurd q hne)]; exact r1, r2⟩
          · rw [World.cell?_setCells_out _ _ _ _ _ (fun q => absurd q hne), World.frozen?_setCells]
            exact (g6 q).2 j hj
      · intro b' es cl hb'
        rw [Heap.get_set] at hb'
        by_cases k : b = b'
        · rw [if_pos k] at hb'; cases hb'
        · rw [if_neg k] at hb'
          obtain ⟨y, ws, g1, g2, g3, g4⟩ := H.maps b' es cl hb'
          have hne : y.B ≠ x.B := fun q => k (H.inj b b' x y hwb ⟨_, hb', fun c' q => by cases q⟩ h1 g1 q.symm)
          exact ⟨y, ws, g1, g2, by rw [heap_setCells hne]; exact g3, g4⟩
      · intro c1 c2 x1 x2 hc1 hc2
        exact H.inj c1 c2 x1 x2 (hc1.set hwb) (hc2.set hwb)
      · intro c' hc'
        have hc' : h.next ≤ c' := hc'
        have := H.fresh c' hc'
        refine ⟨?_, this.2⟩
        rw [Heap.get_set]
        by_cases k : b = c'
        · subst k; rw [hb] at this; cases this.1
        · rw [if_neg k]; exact this.1
      · intro c' hc'
        obtain ⟨q1, q2, q3⟩ := H.res c' hc'
        refine ⟨q1, ?_, q3⟩
        rw [Heap.get_set]
        by_cases k : b = c'
        · subst k; rw [hb] at q2; cases q2
        · rw [if_neg k]; exact q2
    · cases e
  · cases e

/-- A map is set. -/
theorem HR.setMap {F : Env} {w0 : World} {m : Mp} {h : Heap} {w : World} (H : HR F w0 m h w) {b : Nat} {es es' : List (AV × AV × Nat)} {cl cl' : Nat} (hb : h.get b = some (.map es cl))
    {x : MB} (hx : m b = some x) {vs : Array MapEntry} (hv : ERs m es' vs.toList) : HR F w0 m (h.set b (.map es' cl')) { w with heap := w.heap.setIfInBounds x.B (.map vs cl') } := by
  have hwb : Wr h b := ⟨_, hb, fun c' q => by cases q⟩
  obtain ⟨x', ws, h1, h2, h3, h4⟩ := H.maps b es cl hb
  rw [hx] at h1; cases h1
  have hlt := (Array.getElem?_eq_some_iff.1 h3).1
  have hblk : ∀ k, k ≠ x.B → ({ w with heap := w.heap.setIfInBounds x.B (.map vs cl') } : World).heap[k]? = w.heap[k]? := fun k hk => by
    simp only [Array.getElem?_setIfInBounds]; rw [if_neg (Ne.symm hk)]
  refine ⟨H.below.trans ⟨rfl, rfl, rfl, by simp, fun k hk => hblk k (fun q => h2 (q ▸ hk))⟩, fun k hk => by simpa using H.dom k hk, ?_, ?_, ?_, ?_, ?_⟩
  · intro b' c' ro hb'
    rw [Heap.get_set] at hb'
    by_cases k : b = b'
    · rw [if_pos k] at hb'; cases hb'
    · rw [if_neg k] at hb'
      obtain ⟨y, g1, g2, g3, g4, g5, g6⟩ := H.cells b' c' ro hb'
      have hne : y.B ≠ x.B := by
        intro q
        cases ro with
        | true => exact h2 (q ▸ F.rk _ (g5 rfl))
        | false => exact k (H.inj b b' x y hwb ⟨_, hb', fun c' q => by cases q⟩ hx g1 q.symm)
      have hc : ∀ a : Addr, a.block = y.B → ({ w with heap := w.heap.setIfInBounds x.B (.map vs cl') } : World).cell? a = w.cell? a := fun a ha => World.cell?_of_block (w := w) (by rw [ha]; exact hblk _ hne)
      have hf : ∀ a : Addr, a.block = y.B → ({ w with heap := w.heap.setIfInBounds x.B (.map vs cl') } : World).frozen? a = w.frozen? a := fun a ha => World.frozen?_of_block (w := w) (by rw [ha]; exact hblk _ hne)
      refine ⟨y, g1, by simpa using g2, g3, fun j a hj => ?_, g5, fun q => ⟨(g6 q).1, fun j hj => ?_⟩⟩
      · obtain ⟨v, r1, r2⟩ := g4 j a hj
        exact ⟨v, by rw [hc _ rfl]; exact r1, r2⟩
      · rw [hc _ rfl, hf _ rfl]; exact (g6 q).2 j hj
  · intro b' es1 cl1 hb'
    rw [Heap.get_set] at hb'
    by_cases k : b = b'
    · subst k
      rw [if_pos rfl] at hb'
      simp only [Option.some.injEq, AO.map.injEq] at hb'
      obtain ⟨rfl, rfl⟩ := hb'
      exact ⟨x, vs, hx, h2, by simp [hlt], hv⟩
    · rw [if_neg k] at hb'
      obtain ⟨y, ws', g1, g2, g3, g4⟩ := H.maps b' es1 cl1 hb'
      have hne : y.B ≠ x.B := fun q => k (H.inj b b' x y hwb ⟨_, hb', fun c' q => by cases q⟩ hx g1 q.symm)
      exact ⟨y, ws', g1, g2, by rw [hblk _ hne]; exact g3, g4⟩
  · intro c1 c2 x1 x2 hc1 hc2
    exact H.inj c1 c2 x1 x2 (hc1.set hwb) (hc2.set hwb)
  · intro c' hc'
    have hc' : h.next ≤ c' := hc'
    have := H.fresh c' hc'
    refine ⟨?_, this.2⟩
    rw [Heap.get_set]
    by_cases k : b = c'
    · subst k; rw [hb] at this; cases this.1
    · rw [if_neg k]; exact this.1
  · intro c' hc'
    obtain ⟨q1, q2, q3⟩ := H.res c' hc'
    refine ⟨q1, ?_, q3⟩
    rw [Heap.get_set]
    by_cases k : b = c'
    · subst k; rw [hb] at q2; cases q2
    · rw [if_neg k]; exact q2

theorem Wr.kill {h : Heap} {b c : Nat} (k : Wr (h.kill b) c) : Wr h c ∧ c ≠ b := by
  obtain ⟨o, e, q⟩ := k
  rw [Heap.get_kill] at e
  by_cases hc : b = c
  · rw [if_pos hc] at e; cases e
  · rw [if_neg hc] at e; exact ⟨⟨o, e, q⟩, Ne.symm hc⟩

theorem HR.kill {F : Env} {w0 : World} {m : Mp} {h : Heap} {w : World} (H : HR F w0 m h w) (b : Nat) : HR F w0 m (h.kill b) w := by
  refine ⟨H.below, H.dom, fun c l ro hc => ?_, fun c es cl hc => ?_, fun c1 c2 x1 x2 hc1 hc2 => H.inj c1 c2 x1 x2 hc1.kill.1 hc2.kill.1, fun c hc => ⟨?_, (H.fresh c hc).2⟩, fun c hc => ⟨(H.res c hc).1, ?_, (H.res c hc).2.2⟩⟩
  · rw [Heap.get_kill] at hc
    split at hc
    · cases hc
    · exact H.cells c l ro hc
  · rw [Heap.get_kill] at hc
    split at hc
    · cases hc
    · exact H.maps c es cl hc
  · rw [Heap.get_kill]; split
    · rfl
    · exact (H.fresh c hc).1
  · rw [Heap.get_kill]; split
    · rfl
    · exact (H.res c hc).2.1

/-- A block goes, and a new one stands in its place, from cell i on: what an append that has room does. -/
theorem HR.regrow {F : Env} {w0 : World} {m : Mp} {h : Heap} {w : World} (H : HR F w0 m h w) {b i k : Nat} {c : List AV} (hb : h.get b = some (.cells c false)) {x : MB} (hx : m b = some x)
    {vs : List AV} {us : List Value} (hv : VRs m vs us) (hk : i + k ≤ c.length) (hfit : i + k + vs.length ≤ x.ext) :
    (∀ j, j < us.length → (w.cell? ⟨x.B, x.δ + i + k + j, none⟩).isSome = true) ∧ (∀ j, j < us.length → w.frozen? ⟨x.B, x.δ + i + k + j, none⟩ = false) ∧
    HR F w0 (m.put h.next ⟨x.B, x.δ + i, x.ext - i⟩) ((h.kill b).new (.cells ((c.drop i).take k ++ vs) false)) (w.setCells x.B (x.δ + i + k) us) := by
  have hwb : Wr h b := ⟨_, hb, fun c' q => by cases q⟩
  obtain ⟨x', h1, h2, h3, h4, h5, h6⟩ := H.cells b c false hb
  rw [hx] at h1; cases h1
  have hlen := hv.length
  have hb0 := (h6 rfl).1
  have h7 := (h6 rfl).2
  have hnx := H.fresh h.next (Nat.le_refl _)
  have hle : Le m (m.put h.next ⟨x.B, x.δ + i, x.ext - i⟩) := Mp.le_put _ hnx.2
  have hin : ∀ j, j < us.length → (w.cell? ⟨x.B, x.δ + i + k + j, none⟩).isSome = true := fun j hj => by
    rw [show x.δ + i + k + j = x.δ + (i + k + j) by omega]; exact (h7 (i + k + j) (by omega)).2
  refine ⟨hin, fun j hj => by rw [show x.δ + i + k + j = x.δ + (i + k + j) by omega]; exact (h7 (i + k + j) (by omega)).1, ?_⟩
  have hold : ∀ j, j < i + k → (w.setCells x.B (x.δ + i + k) us).cell? ⟨x.B, x.δ + j, none⟩ = w.cell? ⟨x.B, x.δ + j, none⟩ := fun j hj =>
    World.cell?_setCells_out x.B us _ w _ (fun _ _ => by simp only; omega)
  have hsome : ∀ q, q < x.ext → ((w.setCells x.B (x.δ + i + k) us).cell? ⟨x.B, x.δ + q, none⟩).isSome = true := by
    intro q hq
    by_cases r : i + k ≤ q ∧ q < i + k + us.length
    · have := World.cell?_setCells_in x.B us (x.δ + i + k) w hin (q - (i + k)) (by omega)
      rw [show x.δ + i + k + (q - (i + k)) = x.δ + q by omega] at this
      rw [this]; rfl
    · rw [World.cell?_setCells_out x.B us _ w _ (fun _ _ => by simp only; omega)]
      exact (h7 q hq).2
  have hother : ∀ b' y, b' ≠ h.next → Wr (h.kill b) b' → m b' = some y → y.B ≠ x.B := fun b' y _ hw hy q =>
    hw.kill.2 (H.inj b' b y x hw.kill.1 hwb hy hx q)
  have hget : ∀ b', ((h.kill b).new (.cells ((c.drop i).take k ++ vs) false)).get b' = if h.next = b' then some (.cells ((c.drop i).take k ++ vs) false) else (h.kill b).get b' := fun b' => Heap.get_new (h.kill b) b' _
  have hnew : ∀ {b'}, Wr ((h.kill b).new (.cells ((c.drop i).take k ++ vs) false)) b' → b' = h.next ∨ Wr (h.kill b) b' := fun q => q.new
  refine ⟨below_setCells hb0 _ _ _ H.below, fun k hk => by rw [size_setCells]; exact H.dom k hk, ?_, ?_, ?_, ?_, ?_⟩
  · intro b' c' ro hb'
    rw [hget] at hb'
    by_cases q : h.next = b'
    · subst q
      rw [if_pos rfl] at hb'
      simp only [Option.some.injEq, AO.cells.injEq] at hb'
      obtain ⟨rfl, rfl⟩ := hb'
      refine ⟨_, Mp.put_same _ _ _, by rw [size_setCells]; exact h2, by simp only [List.length_append, List.length_take, List.length_drop]; omega, fun j a hj => ?_, fun q => (Bool.noConfusion q), fun _ => ⟨hb0, fun j hj => ⟨?_, ?_⟩⟩⟩
      · by_cases r : j < k
        · have hj' : c[i + j]? = some a := by
            rw [List.getElem?_append_left (by simp only [List.length_take, List.length_drop]; omega), List.getElem?_take, if_pos r, List.getElem?_drop] at hj
            exact hj
          obtain ⟨v, r1, r2⟩ := h4 _ a hj'
          refine ⟨v, ?_, r2.mono hle⟩
          simp only
          rw [show x.δ + i + j = x.δ + (i + j) by omega, hold _ (by omega)]
          exact r1
        · have hj' : vs[j - k]? = some a := by
            rw [List.getElem?_append_right (by simp only [List.length_take, List.length_drop]; omega)] at hj
            rw [show j - ((c.drop i).take k).length = j - k by simp only [List.length_take, List.length_drop]; omega] at hj
            exact hj
          have hlt : j - k < vs.length := (List.getElem?_eq_some_iff.1 hj').1
          obtain ⟨v, r1, r2⟩ := hv.get _ _ hj'
          refine ⟨v, ?_, r2.mono hle⟩
          have := World.cell?_setCells_in x.B us (x.δ + i + k) w hin (j - k) (by omega)
          rw [show x.δ + i + k + (j - k) = x.δ + i + j by omega] at this
          simp only
          rw [this, ← r1, List.getElem?_eq_getElem (by omega)]
      · simp only at hj ⊢
        rw [World.frozen?_setCells, show x.δ + i + j = x.δ + (i + j) by omega]; exact (h7 _ (by omega)).1
      · simp only at hj ⊢
        rw [show x.δ + i + j = x.δ + (i + j) by omega]; exact hsome _ (by omega)
    · rw [if_neg q] at hb'
      obtain ⟨y, g1, g2, g3, g4, g5, g6⟩ := (H.kill b).cells b' c' ro hb'
      have hne : y.B ≠ x.B := by
        cases ro with
        | true => exact fun q => hb0 (q ▸ F.rk _ (g5 rfl))
        | false => exact hother b' y (Ne.symm q) ⟨_, hb', fun c' q => by cases q⟩ g1
      refine ⟨y, hle _ _ g1, by rw [size_setCells]; exact g2, g3, fun j a hj => ?_, g5, fun q => ⟨(g6 q).1, fun j hj => ?_⟩⟩
      · obtain ⟨v, r1, r2⟩ := g4 j a hj
        exact ⟨v, by rw [World.cell?_setCells_out _ _ _ _ _ (fun q => absurd q hne)]; exact r1, r2.mono hle⟩
      · rw [World.cell?_setCells_out _ _ _ _ _ (fun q => absurd q hne), World.frozen?_setCells]
        exact (g6 q).2 j hj
  · intro b' es cl hb'
    rw [hget] at hb'
    by_cases q : h.next = b'
    · rw [if_pos q] at hb'; cases hb'
    · rw [if_neg q] at hb'
      obtain ⟨y, ws, g1, g2, g3, g4⟩ := (H.kill b).maps b' es cl hb'
      have hne : y.B ≠ x.B := hother b' y (Ne.symm q) ⟨_, hb', fun c' q => by cases q⟩ g1
      exact ⟨y, ws, hle _ _ g1, g2, by rw [heap_setCells hne]; exact g3, ERs.mono hle _ _ g4⟩
  · intro b1 b2 x1 x2 hb1 hb2 hx1 hx2 hB
    have side : ∀ {b' : Nat} {y : MB}, Wr ((h.kill b).new (.cells ((c.drop i).take k ++ vs) false)) b' → (m.put h.next ⟨x.B, x.δ + i, x.ext - i⟩) b' = some y → (b' = h.next ∧ y.B = x.B) ∨ (Wr h b' ∧ m b' = some y ∧ y.B ≠ x.B) := by
      intro b' y hb' hy
      by_cases q : b' = h.next
      · subst q; rw [Mp.put_same] at hy; cases hy; exact .inl ⟨rfl, rfl⟩
      · rw [Mp.put_ne _ _ q] at hy
        rcases hnew hb' with r | r
        · exact absurd r q
        · exact .inr ⟨r.kill.1, hy, hother _ _ q r hy⟩
    rcases side hb1 hx1 with ⟨e1, q1⟩ | ⟨w1, m1, q1⟩ <;> rcases side hb2 hx2 with ⟨e2, q2⟩ | ⟨w2, m2, q2⟩
    · rw [e1, e2]
    · exact absurd (hB ▸ q1) q2
    · exact absurd (hB.symm ▸ q2) q1
    · exact H.inj b1 b2 x1 x2 w1 w2 m1 m2 hB
  · intro b' hb'
    have hb' : h.next + 1 ≤ b' := hb'
    rw [hget, if_neg (by omega), Mp.put_ne _ _ (by omega)]
    exact (H.kill b).fresh b' (by show h.next ≤ b'; omega)
  · intro b' hb'
    obtain ⟨q1, q2, q3⟩ := (H.kill b).res b' hb'
    have q1' : b' < h.next := q1
    rw [hget, if_neg (by omega), Mp.put_ne _ _ (by omega)]
    exact ⟨Nat.lt_succ_of_lt q1', q2, q3⟩


/-- A block with a number of its own choice. -/
def Heap.at_ (h : Heap) (b : Nat) (o : AO) : Heap := ⟨h.next, h.tab.set b (some o)⟩
theorem Heap.get_at (h : Heap) (b c : Nat) (o : AO) : (h.at_ b o).get c = if b = c then some o else h.get c := Tr.get_set _ _ _ _

/-- A block of the model that no block of the heap stands for yet. -/
structure Flt (F : Env) (m : Mp) (h : Heap) (w : World) (b : Nat) (c : List AV) (x : MB) : Prop where
  at_ : m b = some x
  lt : x.B < w.heap.size
  keep : ¬ F.keep x.B
  len : c.length ≤ x.ext
  cells : ∀ i a, c[i]? = some a → ∃ v, w.cell? ⟨x.B, x.δ + i, none⟩ = some v ∧ VR m a v
  room : ∀ i, i < x.ext → w.frozen? ⟨x.B, x.δ + i, none⟩ = false ∧ (w.cell? ⟨x.B, x.δ + i, none⟩).isSome = true
  apart : ∀ d y, Wr h d → m d = some y → y.B ≠ x.B

/-- It is taken into the heap. -/
theorem HR.adopt {F : Env} {w0 : World} {m : Mp} {h : Heap} {w : World} (H : HR F w0 m h w) {b : Nat} {c : List AV} {x : MB} (f : Flt F m h w b c x) (hb : b < h.next) (hg : h.get b = none) : HR F w0 m (h.at_ b (.cells c false)) w := by
  refine ⟨H.below, H.dom, fun d l ro hd => ?_, fun d es cl hd => ?_, fun d1 d2 x1 x2 h1 h2 e1 e2 hB => ?_, fun d hd => ?_, fun d hd => ?_⟩
  · rw [Heap.get_at] at hd
    by_cases k : b = d
    · subst k
      rw [if_pos rfl] at hd
      simp only [Option.some.injEq, AO.cells.injEq] at hd
      obtain ⟨rfl, rfl⟩ := hd
      exact ⟨x, f.at_, f.lt, f.len, f.cells, fun q => Bool.noConfusion q, fun _ => ⟨f.keep, f.room⟩⟩
    · rw [if_neg k] at hd; exact H.cells d l ro hd
  · rw [Heap.get_at] at hd
    by_cases k : b = d
    · rw [if_pos k] at hd; cases hd
    · rw [if_neg k] at hd; exact H.maps d es cl hd
  · have side : ∀ {d : Nat}, Wr (h.at_ b (.cells c false)) d → d = b ∨ (d ≠ b ∧ Wr h d) := by
      intro d hd
      obtain ⟨o, q1, q2⟩ := hd
      rw [Heap.get_at] at q1
      by_cases k : b = d
      · exact .inl k.symm
      · rw [if_neg k] at q1; exact .inr ⟨Ne.symm k, o, q1, q2⟩
    rcases side h1 with r1 | ⟨r1, s1⟩ <;> rcases side h2 with r2 | ⟨r2, s2⟩
    · rw [r1, r2]
    · subst r1; rw [f.at_] at e1; cases e1; exact absurd hB.symm (f.apart d2 x2 s2 e2)
    · subst r2; rw [f.at_] at e2; cases e2; exact absurd hB (f.apart d1 x1 s1 e1)
    · exact H.inj d1 d2 x1 x2 s1 s2 e1 e2 hB
  · have hd : h.next ≤ d := hd
    rw [Heap.get_at, if_neg (by omega)]
    exact H.fresh d hd
  · obtain ⟨q1, q2, q3⟩ := H.res d hd
    have : b ≠ d := fun q => by subst q; rw [f.at_] at q3; cases q3
    rw [Heap.get_at, if_neg this]
    exact ⟨q1, q2, q3⟩

/-- A block is made that the heap doesn't know yet. -/
theorem HR.float {F : Env} {w0 : World} {m : Mp} {h : Heap} {w : World} (H : HR F w0 m h w) {b : Nat} (l : List AV) (C : Array Value) (e : TypeId) (hl : l.length ≤ C.size) (hv : VRs m l (C.toList.take l.length))
    (hb : b < h.next) (hg : h.get b = none) (hm : m b = none) (hr : ¬ F.res b) :
    Le m (m.put b ⟨w.heap.size, 0, C.size⟩) ∧ HR F w0 (m.put b ⟨w.heap.size, 0, C.size⟩) h (w.alloc (.cells C e)) ∧ Flt F (m.put b ⟨w.heap.size, 0, C.size⟩) h (w.alloc (.cells C e)) b l ⟨w.heap.size, 0, C.size⟩ := by
  have hle : Le m (m.put b ⟨w.heap.size, 0, C.size⟩) := Mp.le_put _ hm
  have hh : (w.alloc (.cells C e)).heap[w.heap.size]? = some (.cells C e (0, 0)) := by
    show (w.heap.push _)[_]? = _
    simp
  have hcell : ∀ i, (w.alloc (.cells C e)).cell? ⟨w.heap.size, i, none⟩ = C[i]? := fun i => by
    simp only [World.cell?, hh]; rfl
  have hfrz : ∀ i, (w.alloc (.cells C e)).frozen? ⟨w.heap.size, i, none⟩ = false := fun i => by
    simp only [World.frozen?, hh]; simp
  have hne : ∀ d, h.get d ≠ none → d ≠ b := fun d hd q => hd (q ▸ hg)
  refine ⟨hle, ⟨H.below.alloc H.dom _, fun k hk => by have := H.dom k hk; simp; omega, fun d c ro hd => ?_, fun d es cl hd => ?_, fun d1 d2 x1 x2 h1 h2 e1 e2 hB => ?_, fun d hd => ?_, fun d hd => ?_⟩,
    ⟨Mp.put_same _ _ _, by simp, fun q => Nat.lt_irrefl _ (H.dom _ q), hl, fun i a hi => ?_, fun i hi => ?_, fun d y hd hy => ?_⟩⟩
  · obtain ⟨x, h1, h2, h3, h4, h5, h6⟩ := H.cells d c ro hd
    refine ⟨x, hle _ _ h1, by simp; omega, h3, fun i a hi => ?_, h5, fun q => ⟨(h6 q).1, fun i hi => ?_⟩⟩
    · obtain ⟨v, q1, q2⟩ := h4 i a hi
      exact ⟨v, by rw [World.cell?_alloc_lt _ _ _ (by simpa using h2)]; exact q1, q2.mono hle⟩
    · rw [World.cell?_alloc_lt _ _ _ (by simpa using h2), World.frozen?_alloc_old _ _ _ (by simp; omega)]
      exact (h6 q).2 i hi
  · obtain ⟨x, vs, h1, h2, h3, h4⟩ := H.maps d es cl hd
    refine ⟨x, vs, hle _ _ h1, h2, ?_, ERs.mono hle _ _ h4⟩
    rw [Below.heap_alloc _ _ _ (Array.getElem?_eq_some_iff.1 h3).1]; exact h3
  · obtain ⟨o1, q1, r1⟩ := h1
    obtain ⟨o2, q2, r2⟩ := h2
    rw [Mp.put_ne _ _ (hne d1 (by rw [q1]; simp))] at e1
    rw [Mp.put_ne _ _ (hne d2 (by rw [q2]; simp))] at e2
    exact H.inj d1 d2 x1 x2 ⟨o1, q1, r1⟩ ⟨o2, q2, r2⟩ e1 e2 hB
  · rw [Mp.put_ne _ _ (by omega)]
    exact H.fresh d hd
  · obtain ⟨q1, q2, q3⟩ := H.res d hd
    rw [Mp.put_ne _ _ (fun q : d = b => hr (by rw [← q]; exact hd))]
    exact ⟨q1, q2, q3⟩
  · obtain ⟨v, h1, h2⟩ := hv.get i a hi
    refine ⟨v, ?_, h2.mono hle⟩
    have hil : i < l.length := (List.getElem?_eq_some_iff.1 hi).1
    rw [List.getElem?_take, if_pos hil] at h1
    simp only [Nat.zero_add]
    rw [hcell]; simpa using h1
  · have hi : i < C.size := hi
    simp only [Nat.zero_add]
    exact ⟨hfrz i, by rw [hcell]; simp [hi]⟩
  · obtain ⟨o1, q1, r1⟩ := hd
    rw [Mp.put_ne _ _ (hne d (by rw [q1]; simp))] at hy
    have := (H.lt ⟨o1, q1, r1⟩ hy).1
    simp only; omega

/-- It stays such a block while another one is made. -/
theorem Flt.alloc {F : Env} {m m' : Mp} {h : Heap} {w : World} {b : Nat} {c : List AV} {x : MB} (f : Flt F m h w b c x) (hm : Le m m') (hw : ∀ d y, Wr h d → m' d = some y → m d = some y) (o : Obj) : Flt F m' h (w.alloc o) b c x := by
  refine ⟨hm _ _ f.at_, by have := f.lt; simp; omega, f.keep, f.len, fun i a hi => ?_, fun i hi => ?_, fun d y hd hy => f.apart d y hd (hw d y hd hy)⟩
  · obtain ⟨v, q1, q2⟩ := f.cells i a hi
    exact ⟨v, by rw [World.cell?_alloc_lt _ _ _ (by simpa using f.lt)]; exact q1, q2.mono hm⟩
  · rw [World.cell?_alloc_lt _ _ _ (by simpa using f.lt), World.frozen?_alloc_old _ _ _ (by have := f.lt; simp; omega)]
    exact f.room i hi

/-- .. while the heap is turned by what leaves it alone. -/
theorem Flt.kept {F G : Env} {m m' : Mp} {h h' : Heap} {w w' w0 : World} {b : Nat} {c : List AV} {x : MB} (f : Flt F m h w b c x) (hm : Le m m') (hG : G.keep x.B) (hk : Kept G w w') (H : HR G w0 m' h' w') : Flt F m' h' w' b c x := by
  have hb := hk.block _ hG
  refine ⟨hm _ _ f.at_, Nat.lt_of_lt_of_le f.lt hk.size, f.keep, f.len, fun i a hi => ?_, fun i hi => ?_, fun d y hd hy q => (H.lt hd hy).2 (q ▸ hG)⟩
  · obtain ⟨v, q1, q2⟩ := f.cells i a hi
    exact ⟨v, by rw [World.cell?_of_block (w := w) hb]; exact q1, q2.mono hm⟩
  · rw [World.cell?_of_block (w := w) hb, World.frozen?_of_block (w := w) hb]
    exact f.room i hi

/-- Another environment. -/
theorem HR.env {F G : Env} {w0 w1 : World} {m : Mp} {h : Heap} {w : World} (H : HR F w0 m h w) (hb : Kept G w1 w) (hd : ∀ k, G.keep k → k < w.heap.size) (hro : ∀ k, F.rob k → G.rob k)
    (hk : ∀ d y, Wr h d → m d = some y → ¬ G.keep y.B) (hr : ∀ b, G.res b → b < h.next ∧ h.get b = none ∧ m b = none) : HR G w1 m h w := by
  refine ⟨hb, hd, fun d c ro hg => ?_, fun d es cl hg => ?_, H.inj, H.fresh, hr⟩
  · obtain ⟨x, h1, h2, h3, h4, h5, h6⟩ := H.cells d c ro hg
    exact ⟨x, h1, h2, h3, h4, fun q => hro _ (h5 q), fun q => ⟨hk d x ⟨_, hg, fun c' r => by cases r; cases q⟩ h1, (h6 q).2⟩⟩
  · obtain ⟨x, vs, h1, h2, h3, h4⟩ := H.maps d es cl hg
    exact ⟨x, vs, h1, hk d x ⟨_, hg, fun c' r => by cases r⟩ h1, h3, h4⟩

end Go.YtcgafaecdjbmiaaAbs
