/- slab and depotref5.Slab beside each other: what is asked of both. -/
import Derived.Test.YtmoigchjmmjljaaRefW
namespace Go.Proofs.Ytmoigchjmmjljaa
open Go Go.YtmoigchjmmjljaaAbs
set_option linter.unusedSimpArgs false
set_option linter.unusedVariables false
set_option maxRecDepth 4000

def Cl.th (c : Cl) : List Th := [(c.fv, .vec 1 c.free.length (c.free.map nn)), (.mp c.mb, .mp (c.live.map me) c.cl)]
theorem Cl.th_len (c : Cl) : c.th.length = 2 := rfl
def Sb.th (s : Sb) (b : Nat) (vc : AV) : List Th := (.ptr b 0, .blk [.int .i64 (s.page : Nat), .int .i64 (s.left : Nat), .int .i64 (s.used : Nat), vc]) :: (vc, .vec 4 s.cls.length (cat Cl.c s.cls)) :: gcat Cl.th s.cls
section
variable {h h' : Heap} {b : Nat} {s s' : Sb} {vc : AV}
theorem th_map (L : List Cl) : (gcat Cl.th L).map (·.1) = cat Cl.at L := by
  induction L with
  | nil => rfl
  | cons c L ih => rw [gcat_cons, List.map_append, ih, cat_cons]; rfl
theorem sb_inn {d : Nat} : Inn (s.th b vc) d ↔ d ∈ fpS b s vc := by
  unfold Inn fpS Sb.th
  rw [List.map_cons, List.map_cons, th_map]
theorem slo_hold : SlO h b s vc ↔ Hold h (s.th b vc) := by
  constructor
  · intro O
    refine ⟨fun x hx => ?_, ?_⟩
    · unfold Sb.th at hx
      simp only [List.mem_cons] at hx
      rcases hx with rfl | rfl | hx
      · exact ⟨b, rfl, O.lt, O.str⟩
      · exact O.own
      · unfold gcat at hx
        obtain ⟨l, hl, hx⟩ := List.mem_flatten.1 hx
        obtain ⟨c, hc, rfl⟩ := List.mem_map.1 hl
        simp [Cl.th] at hx
        rcases hx with rfl | rfl
        · exact O.free c hc
        · exact ⟨c.mb, rfl, (O.live c hc).2, (O.live c hc).1⟩
    · unfold Sb.th
      rw [List.map_cons, List.map_cons, th_map]
      exact O.apart
  · intro O
    have mem : ∀ c, c ∈ s.cls → ∀ x, x ∈ c.th → Holds h x.1 x.2 := fun c hc x hx => O.each x (by
      unfold Sb.th
      simp only [List.mem_cons]
      exact .inr (.inr (List.mem_flatten.2 ⟨c.th, List.mem_map.2 ⟨c, hc, rfl⟩, hx⟩)))
    obtain ⟨b', e, h1, h2⟩ := O.get (i := 0) (v := .ptr b 0) rfl
    cases e
    refine ⟨h2, h1, O.get (i := 1) (v := vc) rfl, fun c hc => mem c hc _ (List.mem_cons_self ..), fun c hc => ?_, ?_⟩
    · obtain ⟨b', e, h1, h2⟩ := mem c hc (.mp c.mb, .mp (c.live.map me) c.cl) (by simp [Cl.th])
      cases e
      exact ⟨h2, h1⟩
    · have := O.apart
      unfold Sb.th at this
      rw [List.map_cons, List.map_cons, th_map] at this
      exact this
theorem slo_stp (O : SlO h' b s' vc) (f : ∀ e, e ∈ fpS b s' vc → e ∈ fpS b s vc ∨ h.next ≤ e) (K : Keep h.next (fun e => e ∈ fpS b s vc) h h') : Stp h (s.th b vc) h' (s'.th b vc) :=
  ⟨slo_hold.1 O, fun d hd => by rw [sb_inn] at hd ⊢; exact f d hd, K.weak (Nat.le_refl _) fun d _ hd => sb_inn.2 hd⟩
end
/-- Both, as they stand to each other. -/
structure Bth (P Q : Nat) (s : Sb) (r : Rb) (live : Nat) : Prop where
  rel : RelS s r
  inv : ∃ pgs, SbI P Q s pgs
  live : liveN s.cls = live
section
variable {P Q : Nat} {s : Sb} {r : Rb} {live : Nat}
theorem liveN_set {i : Nat} {c c2 : Cl} (hi : s.cls[i]? = some c) : liveN (s.cls.set i c2) + c.live.length = liveN s.cls + c2.live.length := mapsum_set (f := fun c => c.live.length) hi
/-- A text is put into both. -/
theorem both_alloc (B : Bth P Q s r live) (hP : P ≤ 64) (hQ : 64 ≤ Q ∧ Q ≤ 65536) (k : Nat) (hk : 70000 < k) (d : ByteArray) (hd : d.size ≤ 1000000) (h : Heap) (b : Nat) (vc : AV) (O : SlO h b s vc) :
    ∃ (ci K er : Nat) (s' : Sb) (h' : Heap), acall Try.prog (k + 2) 13 [.ptr b 0, .str d] h = some (.tup [.agg [.int .i64 (ci : Nat), .int .i64 (K : Nat)], .int .i64 (er : Nat)], h') ∧ Stp h (s.th b vc) h' (s'.th b vc) ∧
      s'.cls.map (·.size) = s.cls.map (·.size) ∧ s'.cls.length = s.cls.length ∧
      ∀ (h2 : Heap) (rb : Nat) (rv : AV), RO h2 rb r rv → ∃ h3 r', acall Try.prog (k + 2) 19 [.ptr rb 0, .str d] h2 = some (.tup [.agg [.int .i64 (ci : Nat), .int .i64 (K : Nat)], .int .i64 (er : Nat)], h3) ∧ Stp h2 (r.th rb rv) h3 (r'.th rb rv) ∧
        Bth P Q s' r' (if er = 0 then live + 1 else live) ∧ r'.cls.length = r.cls.length := by
  obtain ⟨R, ⟨pgs, I⟩, hlive⟩ := B
  have hlen := I.l2
  have hRlen : r.cls.length ≤ 20 := by rw [R.len]; omega
  have htot := I.tot
  have hpage := I.page
  have RB := R.rbi I hP hQ.2
  have hmx : d.size ≤ maxLen := by have : maxLen = 9223372036854775807 := rfl; omega
  cases hc : clsE (d.size : Nat) s.cls with
  | none =>
    obtain ⟨_, h5, E5, rfl, k5⟩ := alloc_long k hk h b s vc O (by omega) d hc
    refine ⟨0, 0, 2, s, h5, E5, ⟨slo_hold.1 (O.ext k5), Fresh.refl _ _, k5.in⟩, rfl, rfl, fun h2 rb rv O2 => ?_⟩
    obtain ⟨_, h3, E3, rfl, k3⟩ := ralloc_no k hk h2 rb r rv O2 hRlen d 2 (.inl ⟨by rw [R.sizes, ← clsE_S]; exact hc, rfl⟩)
    exact ⟨h3, r, E3, ⟨Hold.ext O2 k3, Fresh.refl _ _, k3.in⟩, ⟨R, ⟨_, I⟩, hlive⟩, rfl⟩
  | some ci =>
    obtain ⟨⟨c, hci, hle⟩, _⟩ := clsE_some' hc
    have hcS : clsS (d.size : Nat) (r.cls.map (·.size)) = some ci := by rw [R.sizes, ← clsE_S]; exact hc
    obtain ⟨q, hq, C⟩ := R.at hci
    obtain ⟨z1, z2, z3⟩ := I.small hP hQ.2 hci
    have hsz := I.size hci
    have hcil := (List.getElem?_eq_some_iff.1 hci).1
    by_cases hroom : c.free ≠ [] ∨ s.left ≠ 0
    · obtain ⟨_, h5, E5, c2, F, cnt, left, used, K, e1, e2, e3, e4, hK, rfl, y1, y2, y3, y4, O5, f5, k5⟩ := alloc_ok k hk h b s vc O (by omega) d hmx hc hci (by omega) (by omega) (by omega) (by omega) (by omega) hroom
      obtain ⟨fr, hl, hcl, pgs5, I5⟩ := I.alloc hci hroom e1 e2 e3 e4 hK y1 y2 y3 y4
      obtain ⟨pg, hpg, J, _⟩ := I.pg hci
      have hFm := List.mem_of_getElem? hK
      have hKc : K < cnt := by
        rw [e1] at hFm
        rw [e2]
        split at hFm
        · rename_i q0
          rw [if_pos q0]
          exact (fl_mem (Nat.le_refl _) hFm).2
        · rename_i q0
          rw [if_neg q0]
          exact J.lt K (List.mem_append.2 (.inl hFm))
      have hcc : c.count ≤ cnt := by
        rw [e2]; split
        · exact Nat.le_add_right _ _
        · exact Nat.le_refl _
      refine ⟨ci, K, 0, _, h5, E5, slo_stp O5 f5 k5, ?_, by simp, fun h2 rb rv O2 => ?_⟩
      · simp only [List.map_set]
        rw [y1, set_same' (by rw [List.getElem?_map, hci]; rfl)]
      obtain ⟨_, h3, E3, q2, F', cnt', left', K', g1, g2, g3, gK, rfl, x1, x2, x3, x4, x5, T⟩ := ralloc_ok k hk h2 rb r rv O2 RB hRlen d hcS hq (by rw [R.page]; omega) (by rw [R.left]; omega) (by rw [C.size, R.page]; omega) (fun x hx => by rw [C.free] at hx; rw [C.count]; exact J.lt x (List.mem_append.2 (.inl hx))) (by rw [C.free, R.left]; exact hroom)
      rw [C.free, C.size, C.count, R.page, ← e1] at g1
      rw [C.free, C.size, C.count, R.page, ← e2] at g2
      rw [C.free, R.left, ← e3] at g3
      subst g1 g2 g3
      rw [hK] at gK
      cases gK
      have hl1 : c2.live.length = c.live.length + 1 := by rw [hl, List.length_append, List.length_singleton]
      have hls := liveN_set (c2 := c2) hci
      refine ⟨h3, _, E3, T, ⟨?_, ⟨_, I5⟩, ?_⟩, by simp⟩
      · exact R.set (RelC.alloc C (fun x hx => J.lt x (List.mem_append.2 (.inr hx))) fr hKc hcc y1 y2 y3 hl x1 x2 x3 x4 x5)
      · simp only [if_true]; omega
    · have hf : c.free = [] := Classical.byContradiction fun z => hroom (.inl z)
      have h0 : s.left = 0 := Classical.byContradiction fun z => hroom (.inr z)
      obtain ⟨_, h5, E5, rfl, k5⟩ := alloc_full k h b s vc hk O (by omega) d hmx hc hci hf h0
      refine ⟨0, 0, 6, s, h5, E5, ⟨slo_hold.1 (O.ext k5), Fresh.refl _ _, k5.in⟩, rfl, rfl, fun h2 rb rv O2 => ?_⟩
      obtain ⟨_, h3, E3, rfl, k3⟩ := ralloc_no k hk h2 rb r rv O2 hRlen d 6 (.inr ⟨ci, q, hcS, hq, by rw [C.free]; exact hf, by rw [R.left]; exact h0, rfl⟩)
      exact ⟨h3, r, E3, ⟨Hold.ext O2 k3, Fresh.refl _ _, k3.in⟩, ⟨R, ⟨_, I⟩, hlive⟩, rfl⟩
/-- A handle is freed in both: first in the document's. -/
theorem both_free (B : Bth P Q s r live) (hP : P ≤ 64) (hQ : 64 ≤ Q ∧ Q ≤ 65536) (k : Nat) (hk : 70000 < k) (ci ch : Int) (h2 : Heap) (rb : Nat) (rv : AV) (O2 : RO h2 rb r rv) :
    ∃ (ok : Bool) (h3 : Heap) (r' : Rb), acall Try.prog (k + 2) 21 [.ptr rb 0, .agg [.int .i64 ci, .int .i64 ch]] h2 = some (.bool ok, h3) ∧ Stp h2 (r.th rb rv) h3 (r'.th rb rv) ∧ r'.cls.length = r.cls.length ∧ (ok = true → 1 ≤ live) ∧
      ∀ (h : Heap) (b : Nat) (vc : AV), SlO h b s vc → ∃ (s' : Sb) (h' : Heap), acall Try.prog (k + 2) 14 [.ptr b 0, .agg [.int .i64 ci, .int .i64 ch]] h = some (.bool ok, h') ∧ Stp h (s.th b vc) h' (s'.th b vc) ∧
        Bth P Q s' r' (if ok = true then live - 1 else live) ∧ s'.cls.length = s.cls.length := by
  obtain ⟨R, ⟨pgs, I⟩, hlive⟩ := B
  have hlen := I.l2
  have RB := R.rbi I hP hQ.2
  obtain ⟨t1, t2⟩ := R.there I ci ch
  cases hr : readS s ci ch with
  | none =>
    rw [hr] at t1
    obtain ⟨_, h3, E3, rfl, k3⟩ := rfree_no k h2 rb r rv O2 RB ci ch t1
    refine ⟨false, h3, r, E3, ⟨Hold.ext O2 k3, Fresh.refl _ _, k3.in⟩, rfl, by simp, fun h b vc O => ?_⟩
    obtain ⟨_, h5, E5, rfl, k5⟩ := free_no k hk h b s vc O (by omega) ci ch hr
    exact ⟨s, h5, E5, ⟨slo_hold.1 (O.ext k5), Fresh.refl _ _, k5.in⟩, ⟨R, ⟨_, I⟩, by simpa using hlive⟩, rfl⟩
  | some y =>
    rw [hr] at t1
    obtain ⟨i, K, q, rfl, rfl, hq, hB⟩ := there_at t1
    obtain ⟨c, hc, C⟩ := R.at' hq
    have hcl := (List.getElem?_eq_some_iff.1 hc).1
    have hy : lk K c.live = some y := by
      unfold readS at hr
      rw [if_neg (by omega), Int.toNat_natCast, hc] at hr
      simp only at hr
      unfold lkI at hr
      rw [if_pos (by omega), Int.toNat_natCast] at hr
      exact hr
    obtain ⟨st, hst⟩ := lk_some hy
    have hyl := (List.getElem?_eq_some_iff.1 hst).1
    obtain ⟨z1, z2, z3⟩ := I.small hP hQ.2 hc
    obtain ⟨_, h3, E3, rfl, q2, x1, x2, x3, x4, x5, T⟩ := rfree_ok k h2 rb r rv O2 RB i K q hq hB
    have hlv := liveN_set (c2 := c) hc
    have hl0 : 1 ≤ live := by
      rw [← hlive]
      have : c.live.length ≤ liveN s.cls := mem_le_sum (List.mem_map.2 ⟨c, List.mem_of_getElem? hc, rfl⟩)
      omega
    refine ⟨true, h3, _, E3, T, by simp, fun _ => hl0, fun h b vc O => ?_⟩
    obtain ⟨_, h5, E5, rfl, c2, y1, y2, y3, y4, y5, O5, f5, k5⟩ := free_ok k hk h b s vc O (by omega) hc hy (by omega)
    obtain ⟨pgs', I5⟩ := I.free hc hy y1 y2 y3 y4
    obtain ⟨pg, hpg, J, _⟩ := I.pg hc
    have hls := liveN_set (c2 := c2) hc
    have e2 : c2.live.length + 1 = c.live.length := by rw [y4, List.length_eraseIdx, if_pos hyl]; omega
    refine ⟨_, h5, E5, slo_stp O5 f5 k5, ⟨?_, ⟨_, I5⟩, ?_⟩, by simp⟩
    · have hC := RelC.freed C hy (List.nodup_append.1 J.nd).2.1 y1 y2 y3 y4 x1 x3 x2 x4 x5
      have := R.set (i := i) hC (left := s.left) (used := s.used)
      rw [show r.left = s.left from R.left] at *
      exact this
    · simp only [if_true]; omega
/-- .. is read. -/
theorem both_read (B : Bth P Q s r live) (hP : P ≤ 64) (hQ : 64 ≤ Q ∧ Q ≤ 65536) (k : Nat) (hk : 70000 < k) (ci ch : Int) : ∃ (d : ByteArray) (ok : Bool), (∀ (h : Heap) (b : Nat) (vc : AV), SlO h b s vc → ∃ h', acall Try.prog (k + 2) 22 [.ptr b 0, .agg [.int .i64 ci, .int .i64 ch]] h = some (.tup [.str d, .bool ok], h') ∧ Keep h.next nob h h') ∧
    (∀ (h : Heap) (rb : Nat) (rv : AV), RO h rb r rv → ∃ h', acall Try.prog (k + 2) 23 [.ptr rb 0, .agg [.int .i64 ci, .int .i64 ch]] h = some (.tup [.str d, .bool ok], h') ∧ Keep h.next nob h h') := by
  obtain ⟨R, ⟨pgs, I⟩, hlive⟩ := B
  have hlen := I.l2
  have RB := R.rbi I hP hQ.2
  obtain ⟨t1, t2⟩ := R.there I ci ch
  refine ⟨((readS s ci ch).map (·.2.1)).getD .empty, (readS s ci ch).isSome, fun h b vc O => ?_, fun h rb rv O => ?_⟩
  · obtain ⟨_, h', E, rfl, k'⟩ := read_ok (k + 1) h b s vc (by omega) O (by omega) ci ch
    exact ⟨h', E, k'⟩
  · obtain ⟨_, h', E, rfl, k'⟩ := rread_ok k h rb r rv O (fun j c hc => ⟨(RB j c hc).ll, (RB j c hc).dl⟩) ci ch
    rw [t2, Option.isSome_map] at E
    exact ⟨h', E, k'⟩
end
end Go.Proofs.Ytmoigchjmmjljaa
