/- chain.Chain: a row is written anew; step. -/
import Derived.Test.YtdnjhipgfbhecaaChain
namespace Go.Proofs.Ytdnjhipgfbhecaa
open Go Go.YtdnjhipgfbhecaaAbs
set_option linter.unusedSimpArgs false
set_option linter.unusedVariables false
set_option maxRecDepth 4000

section
variable {h h1 : Heap} {b : Nat} {c : Ch} {vn vo : AV} {rn ro : List AV}
theorem ChO.inFp (s : Bool) {j : Nat} {r : AV} (hr : (pick2 s ro rn)[j]? = some r) {d : Nat} (hd : Has r d) : d ∈ fpC b vn vo rn ro := by
  refine mem_blks.2 ⟨r, ?_, hd⟩
  have := List.mem_of_getElem? hr
  cases s <;> simp only [pick2, if_true, if_false, Bool.false_eq_true] at this <;> simp [this]
theorem ChO.inFpV (s : Bool) {d : Nat} (hd : Has (pick2 s vo vn) d) : d ∈ fpC b vn vo rn ro := by
  refine mem_blks.2 ⟨pick2 s vo vn, ?_, hd⟩
  cases s <;> simp [pick2]
theorem ChO.atB (rn ro : List AV) (vn vo : AV) : b ∈ fpC b vn vo rn ro := mem_blks.2 ⟨.ptr b 0, by simp, rfl⟩
/-- What else stands: apart from the row and from the slice of rows. -/
theorem ChO.rest (O : ChO h b c vn vo rn ro) (s : Bool) {j : Nat} {r : AV} (hr : (pick2 s ro rn)[j]? = some r) :
    (∀ d, Has r d → d ≠ b ∧ d ∉ blks (pick2 (!s) vo vn :: pick2 (!s) ro rn)) ∧ (∀ d, Has (pick2 s vo vn) d → d ≠ b ∧ d ∉ blks (pick2 (!s) vo vn :: pick2 (!s) ro rn)) := by
  have A := O.apart
  have hb : (AV.ptr b 0 :: vn :: vo :: (rn ++ ro))[0]? = some (.ptr b 0) := rfl
  have key : ∀ {k : Nat} {u : AV} {d : Nat}, (AV.ptr b 0 :: vn :: vo :: (rn ++ ro))[k]? = some u → Has u d → ∀ {k' : Nat} {u' : AV}, (AV.ptr b 0 :: vn :: vo :: (rn ++ ro))[k']? = some u' → Has u' d → k = k' := fun h1 h2 _ _ h3 h4 => A.get h1 h3 h2 h4
  cases s with
  | false =>
    simp only [pick2, Bool.not_false, if_true, if_false, Bool.false_eq_true] at hr ⊢
    have hjl := (List.getElem?_eq_some_iff.1 hr).1
    have ir : (AV.ptr b 0 :: vn :: vo :: (rn ++ ro))[j + 3]? = some r := by
      simp only [List.getElem?_cons_succ]; rw [List.getElem?_append_left hjl]; exact hr
    have io : ∀ u, u ∈ vo :: ro → ∃ k, (AV.ptr b 0 :: vn :: vo :: (rn ++ ro))[k]? = some u ∧ (k = 2 ∨ rn.length + 3 ≤ k) := fun u hu => by
      rcases List.mem_cons.1 hu with rfl | hu
      · exact ⟨2, rfl, .inl rfl⟩
      · obtain ⟨i, hi⟩ := List.getElem?_of_mem hu
        exact ⟨rn.length + i + 3, by simp only [List.getElem?_cons_succ]; rw [List.getElem?_append_right (by omega), Nat.add_sub_cancel_left]; exact hi, .inr (by omega)⟩
    refine ⟨fun d hd => ⟨fun q => ?_, fun q => ?_⟩, fun d hd => ⟨fun q => ?_, fun q => ?_⟩⟩
    · have := key ir hd hb (by rw [q]; rfl); omega
    · obtain ⟨u, hu, hu'⟩ := mem_blks.1 q
      obtain ⟨k, k1, k2⟩ := io u hu
      have := key ir hd k1 hu'; omega
    · have := key (k := 1) rfl hd hb (by rw [q]; rfl); omega
    · obtain ⟨u, hu, hu'⟩ := mem_blks.1 q
      obtain ⟨k, k1, k2⟩ := io u hu
      have := key (k := 1) rfl hd k1 hu'; omega
  | true =>
    simp only [pick2, Bool.not_true, if_true, if_false, Bool.false_eq_true] at hr ⊢
    have hjl := (List.getElem?_eq_some_iff.1 hr).1
    have ir : (AV.ptr b 0 :: vn :: vo :: (rn ++ ro))[rn.length + j + 3]? = some r := by
      simp only [List.getElem?_cons_succ]; rw [List.getElem?_append_right (by omega), Nat.add_sub_cancel_left]; exact hr
    have io : ∀ u, u ∈ vn :: rn → ∃ k, (AV.ptr b 0 :: vn :: vo :: (rn ++ ro))[k]? = some u ∧ (k = 1 ∨ (3 ≤ k ∧ k < rn.length + 3)) := fun u hu => by
      rcases List.mem_cons.1 hu with rfl | hu
      · exact ⟨1, rfl, .inl rfl⟩
      · obtain ⟨i, hi⟩ := List.getElem?_of_mem hu
        have := (List.getElem?_eq_some_iff.1 hi).1
        exact ⟨i + 3, by simp only [List.getElem?_cons_succ]; rw [List.getElem?_append_left (by omega)]; exact hi, .inr (by omega)⟩
    refine ⟨fun d hd => ⟨fun q => ?_, fun q => ?_⟩, fun d hd => ⟨fun q => ?_, fun q => ?_⟩⟩
    · have := key ir hd hb (by rw [q]; rfl); omega
    · obtain ⟨u, hu, hu'⟩ := mem_blks.1 q
      obtain ⟨k, k1, k2⟩ := io u hu
      have := key ir hd k1 hu'; omega
    · have := key (k := 2) rfl hd hb (by rw [q]; rfl); omega
    · obtain ⟨u, hu, hu'⟩ := mem_blks.1 q
      obtain ⟨k, k1, k2⟩ := io u hu
      have := key (k := 2) rfl hd k1 hu'; omega
/-- A row is written anew and put into its place. -/
theorem ChO.upd (O : ChO h b c vn vo rn ro) (s : Bool) {j : Nat} {r r' : AV} {L' : List Ent} (hr : (pick2 s ro rn)[j]? = some r) (K1 : Keep h.next (Has r) h h1) (M : Mine 2 L'.length h1 r' (cat ec L')) (Fr : From h r r') :
    ∃ h2 rn' ro', alay h1 (pick2 s vo vn).blk ((pick2 s vo vn).off + j) [r'] = some h2 ∧ ChO h2 b (c.setRow (s, j) L') vn vo rn' ro' ∧ (∀ d, d ∈ fpC b vn vo rn' ro' → (d ∈ fpC b vn vo rn ro ∧ (Has r d → Has r' d)) ∨ h.next ≤ d) ∧ Keep h.next (fun d => d ∈ fpC b vn vo rn ro) h h2 ∧ Keep h1.next (Has (pick2 s vo vn)) h1 h2 := by
  obtain ⟨R, A⟩ := O.sub s
  obtain ⟨h2, a1, a2, a3, a4, a5⟩ := R.set A hr K1 M Fr
  obtain ⟨x1, x2⟩ := O.rest s hr
  have K2 : Keep h.next (fun d => d ∈ fpC b vn vo rn ro) h h2 := a3.weak (Nat.le_refl _) fun d _ hd => hd.elim (fun q => ChO.inFp s hr q) (fun q => ChO.inFpV s q)
  have str : h2.get b = some (.cells [vn, vo, .int .i64 (c.moved : Nat), .int .i64 (c.len : Nat)] false) := by
    rw [a3.2 b O.lt (fun q => q.elim (fun q => (x1 b q).1 rfl) (fun q => (x2 b q).1 rfl))]
    exact O.str
  have other : RowsO ec 2 h2 (pick2 (!s) vo vn) (pick2 (!s) ro rn) (c.rows (!s)) := (O.sub (!s)).1.keep a3 fun d hd q => q.elim (fun q => (x1 d q).2 hd) (fun q => (x2 d q).2 hd)
  have fresh : ∀ d, Has r' d → Has r d ∨ d ∉ fpC b vn vo rn ro := fun d hd => (Fr d hd).elim .inl fun q => .inr fun z => by have := O.fp_lt z; omega
  cases s with
  | false =>
    simp only [pick2, if_false, Bool.false_eq_true, Bool.not_false, if_true, Ch.rows] at *
    have hjl := (List.getElem?_eq_some_iff.1 hr).1
    have e : (AV.ptr b 0 :: vn :: vo :: (rn ++ ro)).set (j + 3) r' = .ptr b 0 :: vn :: vo :: (rn.set j r' ++ ro) := by
      simp only [List.set_cons_succ]
      rw [List.set_append_left _ _ hjl]
    have ir : (AV.ptr b 0 :: vn :: vo :: (rn ++ ro))[j + 3]? = some r := by
      simp only [List.getElem?_cons_succ]; rw [List.getElem?_append_left hjl]; exact hr
    refine ⟨h2, rn.set j r', ro, a1, ⟨str, Nat.lt_of_lt_of_le O.lt a3.1, a2, other, ?_⟩, fun d hd => ?_, K2, a5⟩
    · rw [← e]
      exact O.apart.set ir fresh
    · unfold fpC at hd
      rw [← e] at hd
      rcases blks_set' hd with q | ⟨k, u, q1, q2, q3⟩
      · rcases Fr d q with q' | q'
        · exact .inl ⟨ChO.inFp false hr q', fun _ => q⟩
        · exact .inr q'
      · exact .inl ⟨mem_blks.2 ⟨u, List.mem_of_getElem? q2, q3⟩, fun z => absurd (O.apart.get q2 ir q3 z) q1⟩
  | true =>
    simp only [pick2, if_false, Bool.false_eq_true, Bool.not_true, if_true, Ch.rows] at *
    have e : (AV.ptr b 0 :: vn :: vo :: (rn ++ ro)).set (rn.length + j + 3) r' = .ptr b 0 :: vn :: vo :: (rn ++ ro.set j r') := by
      simp only [List.set_cons_succ]
      rw [List.set_append_right _ _ (by omega), Nat.add_sub_cancel_left]
    have ir : (AV.ptr b 0 :: vn :: vo :: (rn ++ ro))[rn.length + j + 3]? = some r := by
      simp only [List.getElem?_cons_succ]; rw [List.getElem?_append_right (by omega), Nat.add_sub_cancel_left]; exact hr
    refine ⟨h2, rn, ro.set j r', a1, ⟨str, Nat.lt_of_lt_of_le O.lt a3.1, other, a2, ?_⟩, fun d hd => ?_, K2, a5⟩
    · rw [← e]
      exact O.apart.set ir fresh
    · unfold fpC at hd
      rw [← e] at hd
      rcases blks_set' hd with q | ⟨k, u, q1, q2, q3⟩
      · rcases Fr d q with q' | q'
        · exact .inl ⟨ChO.inFp true hr q', fun _ => q⟩
        · exact .inr q'
      · exact .inl ⟨mem_blks.2 ⟨u, List.mem_of_getElem? q2, q3⟩, fun z => absurd (O.apart.get q2 ir q3 z) q1⟩
theorem set_same {α : Type} {l : List α} {j : Nat} {x : α} (h : l[j]? = some x) : l.set j x = l := by
  refine List.ext_getElem? fun i => ?_
  have hj := (List.getElem?_eq_some_iff.1 h).1
  by_cases hij : j = i
  · subst hij; rw [List.getElem?_set_self hj, h]
  · rw [List.getElem?_set_ne hij]
/-- A row is written where it stands. -/
theorem ChO.upd0 (O : ChO h b c vn vo rn ro) (s : Bool) {j : Nat} {r : AV} {L' : List Ent} (hr : (pick2 s ro rn)[j]? = some r) (K1 : Keep h.next (Has r) h h1) (M : Mine 2 L'.length h1 r (cat ec L')) :
    ChO h1 b (c.setRow (s, j) L') vn vo rn ro ∧ Keep h.next (fun d => d ∈ fpC b vn vo rn ro) h h1 := by
  obtain ⟨R, A⟩ := O.sub s
  obtain ⟨x1, x2⟩ := O.rest s hr
  have hjl := (List.getElem?_eq_some_iff.1 hr).1
  have K2 : Keep h.next (fun d => d ∈ fpC b vn vo rn ro) h h1 := K1.weak (Nat.le_refl _) fun d _ hd => ChO.inFp s hr hd
  have str : h1.get b = some (.cells [vn, vo, .int .i64 (c.moved : Nat), .int .i64 (c.len : Nat)] false) := by
    rw [K1.2 b O.lt (fun q => (x1 b q).1 rfl)]
    exact O.str
  have other : RowsO ec 2 h1 (pick2 (!s) vo vn) (pick2 (!s) ro rn) (c.rows (!s)) := (O.sub (!s)).1.keep K1 fun d hd q => (x1 d q).2 hd
  have nvr : ∀ {k : Nat} {u : AV} {d : Nat}, (pick2 s vo vn :: pick2 s ro rn)[k]? = some u → k ≠ j + 1 → Has u d → ¬ Has r d := fun {k u d} hk hkj hu hv => by
    have := A.get (i := k) (j := j + 1) (v := u) (w := r) hk (by simpa using hr) hu hv
    exact hkj this
  have this_ : RowsO ec 2 h1 (pick2 s vo vn) (pick2 s ro rn) ((c.rows s).set j L') := by
    refine ⟨R.own.keep K1 fun d hd q => nvr (k := 0) rfl (by omega) hd q, by rw [List.length_set]; exact R.len, fun i u L hu hL => ?_⟩
    by_cases hij : i = j
    · subst hij
      rw [hr] at hu
      cases hu
      rw [List.getElem?_set_self (by rw [← R.len]; exact hjl)] at hL
      cases hL
      exact M
    · rw [List.getElem?_set_ne (Ne.symm hij)] at hL
      exact (R.each i u L hu hL).keep K1 fun d hd q => nvr (k := i + 1) (by simpa using hu) (by omega) hd q
  cases s with
  | false => exact ⟨⟨str, Nat.lt_of_lt_of_le O.lt K1.1, this_, other, O.apart⟩, K2⟩
  | true => exact ⟨⟨str, Nat.lt_of_lt_of_le O.lt K1.1, other, this_, O.apart⟩, K2⟩
/-- Its own block is written: the rows stay. -/
theorem ChO.setStr (O : ChO h b c vn vo rn ro) (o : AO) : RowsO ec 2 (h.set b o) vn rn c.now ∧ RowsO ec 2 (h.set b o) vo ro c.old := by
  have A := O.apart
  have nb : ∀ {d : Nat}, d ∈ blks (vn :: vo :: (rn ++ ro)) → d ≠ b := fun {d} hd q => by
    unfold Apart at A
    rw [blks_cons, List.nodup_append] at A
    exact A.2.2 b (by simp) d hd q.symm
  have K : Keep h.next (fun d => d = b) h (h.set b o) := Keep.set (F := fun d => d = b) (.inl rfl) _
  refine ⟨O.now.keep K fun d hd => nb ?_, O.old.keep K fun d hd => nb ?_⟩
  · obtain ⟨u, hu, hu'⟩ := mem_blks.1 hd
    exact mem_blks.2 ⟨u, by rcases List.mem_cons.1 hu with rfl | hu <;> simp [*], hu'⟩
  · obtain ⟨u, hu, hu'⟩ := mem_blks.1 hd
    exact mem_blks.2 ⟨u, by rcases List.mem_cons.1 hu with rfl | hu <;> simp [*], hu'⟩
theorem ChO.put2 (O : ChO h b c vn vo rn ro) (m : Nat) : ∃ h1, alay h b 2 [.int .i64 (m : Nat)] = some h1 ∧ ChO h1 b { c with moved := m } vn vo rn ro ∧ Keep h.next (fun d => d = b) h h1 ∧ h1.next = h.next := by
  obtain ⟨r1, r2⟩ := O.setStr (.cells [vn, vo, .int .i64 (m : Nat), .int .i64 (c.len : Nat)] false)
  exact ⟨_, by unfold alay; rw [O.str]; rfl, ⟨get_set_self _ _ _, O.lt, r1, r2, O.apart⟩, Keep.set (F := fun d => d = b) (.inl rfl) _, rfl⟩
theorem ChO.put3 (O : ChO h b c vn vo rn ro) (m : Nat) : ∃ h1, alay h b 3 [.int .i64 (m : Nat)] = some h1 ∧ ChO h1 b { c with len := m } vn vo rn ro ∧ Keep h.next (fun d => d = b) h h1 ∧ h1.next = h.next := by
  obtain ⟨r1, r2⟩ := O.setStr (.cells [vn, vo, .int .i64 (c.moved : Nat), .int .i64 (m : Nat)] false)
  exact ⟨_, by unfold alay; rw [O.str]; rfl, ⟨get_set_self _ _ _, O.lt, r1, r2, O.apart⟩, Keep.set (F := fun d => d = b) (.inl rfl) _, rfl⟩
/-- An entry is appended to a row. -/
theorem ChO.app (O : ChO h b c vn vo rn ro) (s : Bool) {j : Nat} {L : List Ent} (hL : (c.rows s)[j]? = some L) (hl : L.length < 1000000) (e : Ent) {st el : TypeId} {by_ : Nat} (E : Elem Try.prog st el 2 by_) :
    ∃ r r' h1 h2 rn' ro', (pick2 s ro rn)[j]? = some r ∧ Sl 2 L.length h r (cat ec L) ∧ aappend Try.prog (h.new (.cells (ec e) false)) st st r (.sl h.next 0 1 1 2 true) = some (r', h1) ∧ r'.one = true ∧ alay h1 (pick2 s vo vn).blk ((pick2 s vo vn).off + j) [r'] = some h2 ∧
      ChO h2 b (c.setRow (s, j) (L ++ [e])) vn vo rn' ro' ∧ (∀ d, d ∈ fpC b vn vo rn' ro' → d ∈ fpC b vn vo rn ro ∨ h.next ≤ d) ∧ Keep h.next (fun d => d ∈ fpC b vn vo rn ro) h h2 := by
  obtain ⟨R, A⟩ := O.sub s
  obtain ⟨r, hr, Mr⟩ := R.row hL
  obtain ⟨r', h1, a1, a2, a3, a4⟩ := Mr.push E (a := ec e) (ex := true) rfl rfl (by omega)
  rw [← cat_one (f := ec), ← cat_append] at a2
  have a2 : Mine 2 (L ++ [e]).length h1 r' (cat ec (L ++ [e])) := by rw [List.length_append]; exact a2
  obtain ⟨h2, rn', ro', b1, b2, b3, b4, b5⟩ := O.upd s hr a4 a2 a3
  exact ⟨r, r', h1, h2, rn', ro', hr, Mr.sl, a1, a2.oneV, b1, b2, fun d hd => (b3 d hd).imp (fun q => q.1) id, b4⟩
end
end Go.Proofs.Ytdnjhipgfbhecaa
