/- Operations that look at no memory: the abstract machine's step is the model's. -/
import Derived.Test.YtcgafaecdjbmiaaAbsE
namespace Go.YtcgafaecdjbmiaaAbs
open Go Go.RowKit

variable {P : Program} {m : Mp} {t : Tr AV} {ρ : Operand → Value}

theorem gives_value {u : AV} {v : Value} {s : Sem Value} (h : VR m u v) (k : ∀ w, s.run P w = .ok v w) : Gives P m u (do pure (Next.value (← s))) :=
  ⟨v, h, fun w => by simp [k w]⟩

theorem asub3_sound {b i len cap sz : Nat} {lo : Option AV} {hi mx u : AV} (h : asub3 b i cap sz lo hi mx = some u) {x : MB} {c : Nat} (hx : m b = some x)
    (hc : cap ≤ c) (hfit : i + c * sz ≤ x.ext) {vlo : Option Value} {vhi vmx : Value} (hlo : ∀ a, lo = some a → ∃ v, vlo = some v ∧ VR m a v) (hlo' : lo = none → vlo = none)
    (hhi : VR m hi vhi) (hmx : VR m mx vmx) :
    ∃ l hh k, (∀ w, (Instr.sliceBounds true len c vlo (some vhi) (some vmx)).run P w = .ok (l, hh, k) w) ∧
      VR m u (.slice (some (if k = l then (⟨x.B, x.δ + i, none⟩ : Addr) else (⟨x.B, x.δ + i, none⟩ : Addr).add (l * sz))) (hh - l) (k - l)) := by
  unfold asub3 at h
  split at h
  · cases h
  rename_i k hk
  split at h
  · cases h
  rename_i hh hhh
  split at h
  · cases h
  rename_i l hll
  have h0 := fun code w => sliceBound_ok (P := P) hk hmx c hc code w
  have h1 := fun code w => sliceBound_ok (P := P) hhh hhi k (Nat.le_refl _) code w
  have h2 : l ≤ hh ∧ ∀ w, ((match vlo with
    | some v => Instr.sliceBound v hh .slice3C
    | none => pure 0 : Sem Nat)).run P w = .ok l w := by
    cases lo with
    | none =>
      rw [hlo' rfl]
      simp only [Option.some.injEq] at hll; subst hll
      exact ⟨Nat.zero_le _, fun w => rfl⟩
    | some a =>
      obtain ⟨v, rfl, hv⟩ := hlo a rfl
      simp only at hll
      exact ⟨(sliceBound_ok (P := P) hll hv hh (Nat.le_refl _) .index (default : World)).2.2, fun w => (sliceBound_ok hll hv hh (Nat.le_refl _) _ w).1⟩
  refine ⟨l, hh, k, fun w => ?_, ?_⟩
  · have a2 := h2.2 w
    have b0 := (h0 .slice3Acap w).1
    have b1 := (h1 .slice3B w).1
    cases vlo <;> simp [Instr.sliceBounds] at b0 b1 a2 ⊢ <;> simp [b0, b1, a2]
  · simp only [Option.some.injEq] at h; subst h
    have hkc : k ≤ cap := (h0 .index (default : World)).2.2
    have hhk : hh ≤ k := (h1 .index (default : World)).2.2
    have hadd : ∀ q, (⟨x.B, x.δ + i, none⟩ : Addr).add q = ⟨x.B, x.δ + (i + q), none⟩ := fun q => by
      unfold Addr.add; split
      · rename_i hk; subst hk; rfl
      · simp [Nat.add_assoc]
    simp only [VR]
    by_cases e : k = l
    · rw [if_pos e, if_pos e]
      refine ⟨x, k - l, hx, rfl, Nat.le_refl _, by omega, fun _ => rfl, ?_⟩
      have : (k - l) * sz ≤ c * sz := Nat.mul_le_mul_right _ (by omega)
      omega
    · rw [if_neg e, if_neg e, hadd]
      refine ⟨x, k - l, hx, rfl, Nat.le_refl _, by omega, fun _ => rfl, ?_⟩
      have h5 : (k - l) * sz + l * sz = k * sz := by rw [← Nat.add_mul]; congr 1; have := h2.1; omega
      have : k * sz ≤ c * sz := Nat.mul_le_mul_right _ (by omega)
      omega

theorem map_OR {lo : Option Operand} (h : ∀ x, lo = some x → VR m (ev t x) (ρ x)) : (∀ a, lo.map (ev t) = some a → ∃ v, lo.map ρ = some v ∧ VR m a v) ∧ (lo.map (ev t) = none → lo.map ρ = none) := by
  cases lo with
  | none => exact ⟨fun a ha => (by cases ha), fun _ => rfl⟩
  | some x => exact ⟨fun a ha => (by cases ha; exact ⟨_, rfl, h x rfl⟩), fun ha => (by cases ha)⟩

theorem aslice_sound {ty : TypeId} {a : AV} {x : Value} {lo hi mx : Option AV} {u : AV} (h : aslice P ty a lo hi mx = some u) (hx : VR m a x) {vlo vhi vmx : Option Value}
    (hlo : (∀ a, lo = some a → ∃ v, vlo = some v ∧ VR m a v) ∧ (lo = none → vlo = none)) (hhi : (∀ a, hi = some a → ∃ v, vhi = some v ∧ VR m a v) ∧ (hi = none → vhi = none))
    (hmx : (∀ a, mx = some a → ∃ v, vmx = some v ∧ VR m a v) ∧ (mx = none → vmx = none)) :
    ∃ v, VR m u v ∧ ∀ w, (Instr.sliceAt ty x vlo vhi vmx).run P w = .ok v w := by
  unfold aslice at h
  split at h
  · rename_i e b i len cap sz ex hty
    split at h
    · rename_i n hn
      split at h
      · rename_i hsz
        subst hsz
        simp only [VR] at hx
        obtain ⟨xx, c, h1, rfl, h2, h3, h4, h5⟩ := hx
        rw [hmx.2 rfl]
        obtain ⟨l, hh, q1, q2⟩ := asub_sound (P := P) h h1 h2 h3 h4 h5 hlo hhi true
        refine ⟨_, q2, fun w => ?_⟩
        simp only [Instr.sliceAt, Instr.slice, Sem.run_bind, run_underlying hty, Result.andThen_ok, q1 w, run_sizeOf hn, Sem.run_pure]
        congr 2
        split <;> rfl
      · cases h
    · cases h
  · rename_i e b i len cap sz ex mx hty
    split at h
    · rename_i n hi' hn
      split at h
      · rename_i hsz
        subst hsz
        simp only [VR] at hx
        obtain ⟨xx, c, h1, rfl, h2, h3, h4, h5⟩ := hx
        obtain ⟨vm, rfl, hvm⟩ := hmx.1 _ rfl
        obtain ⟨vh, rfl, hvh⟩ := hhi.1 _ rfl
        obtain ⟨l, hh, k, q1, q2⟩ := asub3_sound (P := P) (len := len) h h1 h2 h5 hlo.1 hlo.2 hvh hvm
        refine ⟨_, q2, fun w => ?_⟩
        simp only [Instr.sliceAt, Instr.slice, Sem.run_bind, run_underlying hty, Result.andThen_ok, q1 w, run_sizeOf hn, Sem.run_pure]
        congr 2
        split <;> rfl
      · cases h
    · cases h
  · rename_i e hty
    split at h
    · rename_i n hn
      split at h
      · rename_i lh hb
        obtain ⟨l, hh⟩ := lh
        simp only [Option.some.injEq] at h; subst h
        simp only [VR] at hx; subst hx
        rw [hmx.2 rfl]
        obtain ⟨q1, q2, q3⟩ := abnds_sound (P := P) (c := 0) hb (Nat.le_refl _) (Nat.le_refl _) hlo hhi true
        refine ⟨.slice none 0 0, by simp only [VR], fun w => ?_⟩
        simp only [Instr.sliceAt, Instr.slice, Sem.run_bind, run_underlying hty, Result.andThen_ok, q1 w, run_sizeOf hn, Sem.run_pure]
        rw [show hh - l = 0 by omega, show 0 - l = 0 by omega]
        congr 2
        split <;> simp
      · cases h
    · cases h
  · rename_i e hty
    split at h
    · rename_i n hn
      split at h
      · rename_i lh hb
        obtain ⟨l, hh⟩ := lh
        simp only [Option.some.injEq] at h; subst h
        simp only [VR] at hx
        obtain ⟨ad, c, rfl⟩ := hx
        rw [hmx.2 rfl]
        obtain ⟨q1, q2, q3⟩ := abnds_sound (P := P) (c := c) hb (Nat.zero_le _) (Nat.le_refl _) hlo hhi true
        refine ⟨.slice (some ad) 0 c, by simp only [VR]; exact ⟨_, _, rfl⟩, fun w => ?_⟩
        simp only [Instr.sliceAt, Instr.slice, Sem.run_bind, run_underlying hty, Result.andThen_ok, q1 w, run_sizeOf hn, Sem.run_pure]
        have e1 : l = 0 := by omega
        have e2 : hh = 0 := by omega
        subst e1; subst e2
        simp [Addr.add]
      · cases h
    · cases h
  · rename_i st hty
    split at h
    · rename_i l hh hb
      simp only [Option.some.injEq] at h; subst h
      simp only [VR] at hx; subst hx
      rw [hmx.2 rfl]
      obtain ⟨q1, _, _⟩ := abnds_sound (P := P) hb (Nat.le_refl _) (Nat.le_refl _) hlo hhi false
      refine ⟨.string (st.extract l hh), by simp only [VR], fun w => ?_⟩
      simp only [Instr.sliceAt, Instr.slice, Sem.run_bind, run_underlying hty, Result.andThen_ok, Option.isSome_none, Bool.false_eq_true, if_false, q1 w, Sem.run_pure]
    · cases h
  · cases h


theorem afield_sound {s : TypeId} {f off : Nat} {ty : TypeId} (h : afield P s f = some (off, ty)) : ∃ fs x, P.underlying s = some (.struct fs) ∧ fs[f]? = some x ∧ x.offset = off ∧ x.type = ty := by
  unfold afield at h
  split at h
  · rename_i fs hs
    simp only [Option.map_eq_some_iff, Prod.mk.injEq] at h
    obtain ⟨x, h1, h2, h3⟩ := h
    exact ⟨fs, x, hs, h1, h2, h3⟩
  · cases h

theorem aindex_sound {ty : TypeId} {a k : AV} {x ix : Value} {u : AV} (h : aindex P ty a k = some u) (hx : VR m a x) (hk : VR m k ix) :
    ∃ v, VR m u v ∧ ∀ w, (Instr.indexAt ty x ix).run P w = .ok v w := by
  unfold aindex at h
  split at h
  · rename_i kd n
    rw [asInt_int hk]
    split at h
    · rename_i len e b i hty
      split at h
      · rename_i sz hn
        split at h
        · rename_i hb
          simp only [Option.some.injEq] at h; subst h
          simp only [VR] at hx
          obtain ⟨xx, h1, rfl⟩ := hx
          refine ⟨_, by simp only [VR]; exact ⟨xx, h1, rfl⟩, fun w => ?_⟩
          simp only [Instr.indexAt, Sem.run_bind, asIntOf, Sem.run_pure, Result.andThen_ok, run_underlying hty, Instr.sureAddr, Sem.run_ite, if_pos hb, run_sizeOf hn, addr_add]
        · cases h
      · cases h
    · rename_i e b i len _ _ _ hty
      split at h
      · rename_i sz hn
        split at h
        · rename_i hb
          simp only [Option.some.injEq] at h; subst h
          simp only [VR] at hx
          obtain ⟨xx, c, h1, rfl, _⟩ := hx
          refine ⟨_, by simp only [VR]; exact ⟨xx, h1, rfl⟩, fun w => ?_⟩
          simp only [Instr.indexAt, Sem.run_bind, asIntOf, Sem.run_pure, Result.andThen_ok, run_underlying hty, Sem.run_ite, if_pos hb, run_sizeOf hn, addr_add]
        · cases h
      · cases h
    · cases h
  · cases h

theorem aeql_sound {ty : TypeId} {a b : AV} {x y : Value} {r : Bool} (h : aeql P ty a b = some r) (hx : VR m a x) (hy : VR m b y) :
    (∀ w, (Op.equal ty x y).run P w = .ok r w) ∧ (∀ p q w, (eqGuard .eql ty p q x y).run P w = .ok () w) ∧ (∀ p q w, (eqGuard .neq ty p q x y).run P w = .ok () w) ∧
      binOp .eql ty x y = (do pure (.bool (← Op.equal ty x y))) ∧ binOp .neq ty x y = (do pure (.bool (!(← Op.equal ty x y)))) := by
  unfold aeql at h
  split at h <;> first | (cases h; done) | (rename_i hty
                                            simp only [Option.some.injEq] at h; subst h
                                            simp only [VR] at hx hy
                                            (try obtain ⟨_, _, rfl⟩ := hx)
                                            (try obtain ⟨_, _, _, rfl, _⟩ := hx)
                                            (try obtain ⟨_, _, rfl⟩ := hy)
                                            (try obtain ⟨_, _, _, rfl, _⟩ := hy)
                                            (try obtain ⟨_, rfl, _⟩ := hx)
                                            (try obtain ⟨_, rfl, _⟩ := hy)
                                            (try subst hx)
                                            (try subst hy)
                                            refine ⟨fun w => ?_, fun _ _ _ => rfl, fun _ _ _ => rfl, rfl, rfl⟩
                                            show (Op.equalIn (9999 + 1) ty _ _).run P w = _
                                            rw [Op.equalIn]
                                            simp only [Sem.run_bind, run_underlying hty, Result.andThen_ok]
                                            rfl)

end Go.YtcgafaecdjbmiaaAbs
