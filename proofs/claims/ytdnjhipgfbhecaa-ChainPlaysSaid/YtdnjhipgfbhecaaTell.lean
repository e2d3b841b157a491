/- depotlaw6: what is told a table. -/
import Derived.Test.YtdnjhipgfbhecaaChainP
import Derived.Test.YtdnjhipgfbhecaaShort
namespace Go.Proofs.Ytdnjhipgfbhecaa
open Go Go.YtdnjhipgfbhecaaAbs
set_option linter.unusedSimpArgs false
set_option linter.unusedVariables false
set_option maxRecDepth 4000
abbrev It := Int × (Int × (ByteArray × Unit))
abbrev kIt : Kind It := kPair (kInt .i64) (kPair (kInt .i64) (kPair kStr kNil))
def itC (x : It) : List AV := [.int .i64 x.1, .int .i64 x.2.1, .str x.2.2.1]
theorem itC_len (x : It) : (itC x).length = 3 := rfl
theorem sla_its {h : Heap} {v : AV} {xs : List It} (r : SlA kIt h v xs) : Sl 3 xs.length h v (cat itC xs) ∧ ∀ x, x ∈ xs → (-9223372036854775808 ≤ x.2.1 ∧ x.2.1 ≤ 9223372036854775807) ∧ x.2.2.1.size ≤ maxLen := by
  obtain ⟨c, c1, c2⟩ := r.sl
  have key : ∀ j x, xs[j]? = some x → (c.drop (j * 3)).take 3 = itC x ∧ (-9223372036854775808 ≤ x.2.1 ∧ x.2.1 ≤ 9223372036854775807) ∧ x.2.2.1.size ≤ maxLen := fun j x hx => by
    have c1l := c2.1
    have hj := (List.getElem?_eq_some_iff.1 hx).1
    obtain ⟨⟨a1, a2⟩, ⟨b1, b2⟩, ⟨e1, e2⟩, d⟩ := c2.2 j x hx
    have a1 : ((c.drop (j * 3)).take 3).take 1 = [.int .i64 x.1] := a1
    have b1 : (((c.drop (j * 3)).take 3).drop 1).take 1 = [.int .i64 x.2.1] := b1
    have e1 : ((((c.drop (j * 3)).take 3).drop 1).drop 1).take 1 = [.str x.2.2.1] := e1
    have ln : ((c.drop (j * 3)).take 3).length ≤ 3 := by rw [List.length_take]; omega
    generalize (c.drop (j * 3)).take 3 = m at *
    refine ⟨?_, wf64 b2, e2⟩
    match m, a1, b1, e1, ln with
    | [x0, x1, x2], a1, b1, e1, _ => simp at a1 b1 e1; simp [itC, a1, b1, e1]
    | [], a1, _, _, _ => simp at a1
    | [x0], _, b1, _, _ => simp at b1
    | [x0, x1], _, _, e1, _ => simp at e1
    | x0 :: x1 :: x2 :: x3 :: r, _, _, _, ln => simp at ln
  have hc : c = cat itC xs := by
    have cl : c.length = xs.length * 3 := c2.1
    refine List.ext_getElem? fun i => ?_
    by_cases hi : i < xs.length * 3
    · have hj : i / 3 < xs.length := by omega
      have hx : xs[i / 3]? = some xs[i / 3] := by simp [hj]
      have e1 := (key _ _ hx).1
      have e2 := cat_at itC_len hx
      have e3 : i = i / 3 * 3 + i % 3 := by omega
      have g : ∀ l : List AV, l[i]? = ((l.drop (i / 3 * 3)).take 3)[i % 3]? := fun l => by
        rw [List.getElem?_take, if_pos (Nat.mod_lt _ (by omega)), List.getElem?_drop, ← e3]
      rw [g c, g (cat itC xs), e1, e2]
    · rw [List.getElem?_eq_none (by omega), List.getElem?_eq_none (by rw [cat_len itC_len]; omega)]
  refine ⟨by rw [← hc]; exact c1, fun x hx => ?_⟩
  obtain ⟨j, hj⟩ := List.getElem?_of_mem hx
  exact (key j x hj).2

/-- A table, and what is told it. -/
def tellC (c : Ch) (x : It) : (Int × Bool) × Ch :=
  if x.1 = 1 then ((0, (c.put (short x.2.2.1) x.2.1).1), (c.put (short x.2.2.1) x.2.1).2)
  else if x.1 = 2 then (((c.get (short x.2.2.1)).getD 0, (c.get (short x.2.2.1)).isSome), c)
  else if x.1 = 3 then ((0, (c.drop (short x.2.2.1)).1), (c.drop (short x.2.2.1)).2) else ((0, false), c)
theorem ChI.tell {N : Nat} {c : Ch} (I : ChI N c) (x : It) : ChI (N + 1) (tellC c x).2 := by
  have hs := short_le x.2.2.1
  unfold tellC
  split
  · exact I.put (by omega) _
  · split
    · exact I.mono (Nat.le_succ _)
    · split
      · exact (I.drop _).mono (Nat.le_succ _)
      · exact I.mono (Nat.le_succ _)

theorem tell_ok (k : Nat) (hk : 200000 < k) (h : Heap) (b : Nat) (c : Ch) (vn vo : AV) (rn ro : List AV) (O : ChO h b c vn vo rn ro) {N : Nat} (I : ChI N c) (hN : N ≤ 90000) (x : It) :
    ∃ v' h', acall Try.prog (k + 4) 24 [.ptr b 0, .agg (itC x)] h = some (v', h') ∧ v' = .tup [.int .i64 (tellC c x).1.1, .bool (tellC c x).1.2] ∧
      (∃ vn' vo' rn' ro', ChO h' b (tellC c x).2 vn' vo' rn' ro' ∧ ∀ d, d ∈ fpC b vn' vo' rn' ro' → d ∈ fpC b vn vo rn ro ∨ h.next ≤ d) ∧ Keep h.next (fun d => d ∈ fpC b vn vo rn ro) h h' := by
  have hs := short_le x.2.2.1
  have C := I.ok (by omega)
  have C1 := I.step.ok (by omega)
  have g1 : (h.new (.cells (itC x) false)).get h.next = some (.cells (itC x) false) := get_new_self _ _
  have k1 : Keep h.next nob h (h.new (.cells (itC x) false)) := Keep.new (Nat.le_refl _) _
  have n1 : h.next < (h.new (.cells (itC x) false)).next := Nat.lt_succ_self _
  have rw1 : (AV.agg (itC x)).row1 = some (itC x) := rfl
  have O1 := O.ext k1
  have sh := fun hx => short_ok (k + 2) x.2.2.1 hx
  have l0 := ldc (P := Try.prog) (ty := 3) g1 ta3 (i := 0) (x := .int .i64 x.1) rfl
  have l1 := ldc (P := Try.prog) (ty := 3) g1 ta3 (i := 1) (x := .int .i64 x.2.1) rfl
  have l2 := ldc (P := Try.prog) (ty := 9) g1 ta9 (i := 2) (x := .str x.2.2.1) rfl
  have en : (h.new (.cells (itC x) false)).next = h.next + 1 := rfl
  have kk : ∀ {F : Nat → Prop} {h' : Heap}, Keep (h.new (.cells (itC x) false)).next F (h.new (.cells (itC x) false)) h' → Keep h.next F h h' := fun K => ⟨Nat.le_trans (Nat.le_succ _) K.1, fun d hd hn => by rw [K.2 d (by omega) hn, k1.2 d hd id]⟩
  unfold tellC
  have start : ∀ Post : AV → Heap → Prop, (∃ v h', afuncT Try.prog [3] (acall Try.prog (k + 3)) (k + 3) Try.f24 [.ptr b 0, .agg (itC x)] h = some (v, h') ∧ Post v h') → ∃ v' h', acall Try.prog (k + 4) 24 [.ptr b 0, .agg (itC x)] h = some (v', h') ∧ Post v' h' := fun Post q => by
    rw [acall_text [3] Try.func24 (by kernel_rfl)]
    exact q
  by_cases c1 : x.1 = 1
  · obtain ⟨v2, h2, e2, e3, ⟨vn2, vo2, rn2, ro2, O2, f2⟩, K2⟩ := put_ok k hk _ b c vn vo rn ro O1 C C1 (short x.2.2.1) (by omega) x.2.1
    subst e3
    rw [if_pos c1]
    refine start _ (afuncT_ex rfl (by simp [Try.f24]) ?_)
    rw [c1] at l0
    simp [Try.f24, rw1]
    generalize (h.new (.cells (itC x) false)) = h1 at *
    simp [l0]
    refine W_split 6 h1.next (by rfl) (by kernel_rfl) (by rfl) ?_
    dsimp only [List.take, List.drop]
    have ag : Agree h1.next h1 h1 := fun _ _ => rfl
    simp [obl, mayEff, mayRead, sameAV, l1, l2, n1, sh, ag, e2]
    refine ⟨⟨vn2, vo2, rn2, ro2, O2, fun d hd => ?_⟩, kk K2⟩
    rcases f2 d hd with z | z
    · exact .inl z
    · exact .inr (by omega)
  · rw [if_neg c1]
    by_cases c2 : x.1 = 2
    · obtain ⟨v2, h2, e2, e3, k2⟩ := get_ok k hk _ b c vn vo rn ro O1 C (short x.2.2.1) (by omega)
      subst e3
      rw [if_pos c2]
      refine start _ (afuncT_ex rfl (by simp [Try.f24]) ?_)
      rw [c2] at l0
      simp [Try.f24, rw1]
      generalize (h.new (.cells (itC x) false)) = h1 at *
      simp [l0, l1, l2, sh, e2]
      exact ⟨⟨vn, vo, rn, ro, O1.ext k2, fun d hd => .inl hd⟩, kk (k2.weak (Nat.le_refl _) fun _ _ q => q.elim)⟩
    · rw [if_neg c2]
      by_cases c3 : x.1 = 3
      · obtain ⟨v2, h2, e2, e3, ⟨vn2, vo2, rn2, ro2, O2, f2⟩, K2⟩ := drop_ok k hk _ b c vn vo rn ro O1 C C1 (short x.2.2.1) (by omega) (fun i hi => (found_pos I.step hi).2)
        subst e3
        rw [if_pos c3]
        refine start _ (afuncT_ex rfl (by simp [Try.f24]) ?_)
        rw [c3] at l0
        simp [Try.f24, rw1]
        generalize (h.new (.cells (itC x) false)) = h1 at *
        simp [l0, l1, l2, sh, e2]
        refine ⟨⟨vn2, vo2, rn2, ro2, O2, fun d hd => ?_⟩, kk K2⟩
        rcases f2 d hd with z | z
        · exact .inl z
        · exact .inr (by omega)
      · rw [if_neg c3]
        refine start _ (afuncT_ex rfl (by simp [Try.f24]) ?_)
        simp [Try.f24, rw1]
        generalize (h.new (.cells (itC x) false)) = h1 at *
        simp [l0, c1, c2, c3]
        exact ⟨⟨vn, vo, rn, ro, O1, fun d hd => .inl hd⟩, kk ⟨Nat.le_refl _, fun _ _ _ => rfl⟩⟩
end Go.Proofs.Ytdnjhipgfbhecaa
