/- Each operation that looks at no memory, or only looks: what the abstract machine reckons is what the model does. -/
import Derived.Test.YtcgafaecdjbmiaaAbsD
namespace Go.YtcgafaecdjbmiaaAbs
open Go Go.RowKit

/-- The operands of an operation are what the abstract machine takes them for. -/
def OR (m : Mp) (t : Tr AV) (ρ : Operand → Value) (o : Oper) : Prop := ∀ x ∈ o.op.operands, VR m (ev t x) (ρ x)

def Gives (P : Program) (m : Mp) (u : AV) (s : Sem Next) : Prop := ∃ v, VR m u v ∧ ∀ w, s.run P w = .ok (.value v) w

theorem aback_sound {P : Program} {m : Mp} {t : Tr AV} {ρ : Operand → Value} {o : Oper} (hE : OR m t ρ o) {u : AV} (e : aback P t o = some u) : Gives P m u (execOp ρ o) := by
  unfold aback at e
  have hsel : ∀ cs b, o.op ≠ .select cs b := by
    intro cs b h
    rw [h] at e; cases e
  split at e
  · cases e
  split at e
  · cases e
  rename_i hall
  split at e
  · rename_i v hv
    simp only [Option.some.injEq] at e; subst e
    refine ⟨v, VR.ofV m v, fun w => ?_⟩
    have hc : execOp ρ o = execOp (fun x => ((ev t x).val?).getD undef) o := by
      refine execOp_congr o hsel fun x hx => ?_
      have h1 : ((ev t x).val?).isSome = true := by
        rw [Array.all_eq_true'] at hall
        exact hall x hx
      obtain ⟨z, hz⟩ := Option.isSome_iff_exists.1 h1
      simp only [hz, Option.getD_some]
      exact (hE x hx).val _ _ _ hz
    rw [hc]
    exact semPure_run P _ _ hv w
  · cases e

theorem run_sizeOf {P : Program} {t : TypeId} {n : Nat} (h : tsize P t = some n) (w : World) : (sizeOf t).run P w = .ok n w := by
  unfold tsize at h
  simp only [Option.map_eq_some_iff] at h
  obtain ⟨i, h1, rfl⟩ := h
  simp [sizeOf, typeInfo, h1]
theorem run_typeInfo {P : Program} {t : TypeId} {i : TypeInfo} (h : P.info? t = some i) (w : World) : (typeInfo t).run P w = .ok i w := by
  simp [typeInfo, h]
theorem run_isAgg {P : Program} {t : TypeId} {b : Bool} (h : tagg P t = some b) (w : World) : (isAgg t).run P w = .ok b w := by
  unfold tagg at h
  simp only [Option.map_eq_some_iff] at h
  obtain ⟨d, h1, h2⟩ := h
  simp only [isAgg, Sem.run_bind, run_underlying h1, Result.andThen_ok]
  cases d <;> simp_all
theorem run_zeroValue {P : Program} {t : TypeId} {l : List AV} (h : azero P t = some l) : ∃ v, l = (ofV v).row ∧ ∀ w, (zeroValue t).run P w = .ok v w := by
  unfold azero at h
  split at h
  · rename_i i hi
    split at h
    · rename_i v hv
      simp only [Option.some.injEq] at h; subst h
      exact ⟨v, rfl, fun w => by simp [zeroValue, run_typeInfo hi, hv]⟩
    · cases h
  · cases h

/-- The cells of a constant. -/
theorem ofV_row (m : Mp) (v : Value) (h : (ofV v).row.all AV.one = true) : VRs m (ofV v).row v.cells.toList := (VR.ofV m v).row' h

theorem apart_sound {P : Program} {m : Mp} {t : TypeId} {cs : List AV} {off : Nat} {u : AV} (h : apart P t cs off = some u) {vs : List Value} (hv : VRs m cs vs) :
    ∃ v, VR m u v ∧ ∀ w, (part t ⟨vs⟩ off).run P w = .ok v w := by
  unfold apart at h
  split at h
  · rename_i ht
    split at h
    · rename_i n hn
      simp only [Option.some.injEq] at h; subst h
      refine ⟨.agg ⟨(vs.drop off).take n⟩, by simp only [VR]; exact ⟨_, rfl, (hv.drop off).take n⟩, fun w => ?_⟩
      simp only [part, Sem.run_bind, run_isAgg ht, Result.andThen_ok, if_true, run_sizeOf hn, Sem.run_pure]
      congr 2
      simp [List.extract_eq_take_drop]
    · cases h
  · rename_i ht
    obtain ⟨v, h1, h2⟩ := hv.get off u h
    refine ⟨v, h2, fun w => ?_⟩
    simp only [part, Sem.run_bind, run_isAgg ht, Result.andThen_ok]
    simp [h1]
  · cases h

theorem asInt_int {m : Mp} {k : IntKind} {n : Int} {v : Value} (h : VR m (.int k n) v) : v = .int k n := by simpa [VR] using h

theorem sliceBound_ok {P : Program} {m : Mp} {a : AV} {lo hi n : Nat} (h : abound a lo hi = some n) {v : Value} (hv : VR m a v) (y : Nat) (hy : hi ≤ y) (code : BoundsCode) (w : World) :
    (Instr.sliceBound v y code).run P w = .ok n w ∧ lo ≤ n ∧ n ≤ hi := by
  unfold abound at h
  split at h
  · split at h
    · rename_i k z hz
      simp only [Option.some.injEq] at h; subst h
      rw [asInt_int hv]
      refine ⟨?_, by omega, by omega⟩
      simp only [Instr.sliceBound, asIntOf, Sem.run_bind, Sem.run_pure, Result.andThen_ok, Sem.run_ite]
      rw [if_pos (by omega)]
    · cases h
  · cases h

theorem abnds_sound {P : Program} {m : Mp} {len cap : Nat} {lo hi : Option AV} {l hh : Nat} (h : abnds len cap lo hi = some (l, hh)) {c : Nat}
    (hc : cap ≤ c) (hl : len ≤ cap) {vlo vhi : Option Value} (hlo : (∀ a, lo = some a → ∃ v, vlo = some v ∧ VR m a v) ∧ (lo = none → vlo = none))
    (hhi : (∀ a, hi = some a → ∃ v, vhi = some v ∧ VR m a v) ∧ (hi = none → vhi = none)) (isS : Bool) :
    (∀ w, (Instr.sliceBounds isS len c vlo vhi none).run P w = .ok (l, hh, c) w) ∧ l ≤ hh ∧ hh ≤ cap := by
  obtain ⟨hlo, hlo'⟩ := hlo
  obtain ⟨hhi, hhi'⟩ := hhi
  unfold abnds at h
  split at h
  · cases h
  rename_i hh1 hhh
  split at h
  · cases h
  rename_i l1 hll
  simp only [Option.some.injEq, Prod.mk.injEq] at h
  obtain ⟨rfl, rfl⟩ := h
  have h1 : hh1 ≤ cap ∧ ∀ w, ((match vhi, (none : Option Value) with
    | some v, some _ => Instr.sliceBound v c .slice3B
    | some v, none => Instr.sliceBound v c (if isS then .sliceAcap else .sliceAlen)
    | none, none => pure len
    | none, some _ => stuck "Slice: max without high" : Sem Nat)).run P w = .ok hh1 w := by
    cases hi with
    | none =>
      rw [hhi' rfl]
      simp only [Option.some.injEq] at hhh; subst hhh
      exact ⟨hl, fun w => rfl⟩
    | some a =>
      obtain ⟨v, rfl, hv⟩ := hhi a rfl
      simp only at hhh
      exact ⟨(sliceBound_ok (P := P) hhh hv c hc .index (default : World)).2.2, fun w => (sliceBound_ok hhh hv c hc _ w).1⟩
  have h2 : l1 ≤ hh1 ∧ ∀ w, ((match vlo with
    | some v => Instr.sliceBound v hh1 (if (none : Option Value).isSome then .slice3C else .sliceB)
    | none => pure 0 : Sem Nat)).run P w = .ok l1 w := by
    cases lo with
    | none =>
      rw [hlo' rfl]
      simp only [Option.some.injEq] at hll; subst hll
      exact ⟨Nat.zero_le _, fun w => rfl⟩
    | some a =>
      obtain ⟨v, rfl, hv⟩ := hlo a rfl
      simp only at hll
      exact ⟨(sliceBound_ok (P := P) hll hv hh1 (Nat.le_refl _) .index (default : World)).2.2, fun w => (sliceBound_ok hll hv hh1 (Nat.le_refl _) _ w).1⟩
  refine ⟨fun w => ?_, h2.1, h1.1⟩
  have a1 := h1.2 w
  have a2 := h2.2 w
  clear hhh hll h1 h2 hlo hlo' hhi hhi'
  cases vhi <;> cases vlo <;> simp [Instr.sliceBounds] at a1 a2 ⊢ <;> simp [a1, a2]

theorem addr_add (x : MB) (i k : Nat) : (⟨x.B, x.δ + i, none⟩ : Addr).add k = ⟨x.B, x.δ + (i + k), none⟩ := by
  unfold Addr.add; split
  · rename_i hk; subst hk; rfl
  · simp [Nat.add_assoc]

theorem asub_sound {P : Program} {m : Mp} {b i len cap sz : Nat} {ex : Bool} {lo hi : Option AV} {u : AV} (h : asub b i len cap sz ex lo hi = some u) {x : MB} {c : Nat} (hx : m b = some x)
    (hc : cap ≤ c) (hl : len ≤ cap) (he : ex = true → c = cap) (hfit : i + c * sz ≤ x.ext) {vlo vhi : Option Value} (hlo : (∀ a, lo = some a → ∃ v, vlo = some v ∧ VR m a v) ∧ (lo = none → vlo = none))
    (hhi : (∀ a, hi = some a → ∃ v, vhi = some v ∧ VR m a v) ∧ (hi = none → vhi = none)) (isS : Bool) :
    ∃ l hh, (∀ w, (Instr.sliceBounds isS len c vlo vhi none).run P w = .ok (l, hh, c) w) ∧
      VR m u (.slice (some (if c = l then (⟨x.B, x.δ + i, none⟩ : Addr) else (⟨x.B, x.δ + i, none⟩ : Addr).add (l * sz))) (hh - l) (c - l)) := by
  unfold asub at h
  split at h
  · cases h
  rename_i l hh hb
  obtain ⟨q1, q2, q3⟩ := abnds_sound (P := P) hb hc hl hlo hhi isS
  refine ⟨l, hh, q1, ?_⟩
  have hmul : ∀ {p q : Nat}, p ≤ q → p * sz ≤ q * sz := fun hpq => Nat.mul_le_mul_right _ hpq
  by_cases hl0 : l = 0
  · rw [if_pos hl0] at h
    simp only [Option.some.injEq] at h; subst h; subst hl0
    simp only [VR]
    refine ⟨x, c, hx, ?_, hc, by omega, he, hfit⟩
    rw [Nat.zero_mul, addr_add x i 0]
    simp
  · rw [if_neg hl0] at h
    split at h
    · rename_i hlc
      simp only [Option.some.injEq] at h; subst h
      rw [if_neg (by omega), addr_add]
      simp only [VR]
      refine ⟨x, c - l, hx, rfl, by omega, by omega, fun q => by rw [he q], ?_⟩
      have h5 : (c - l) * sz + l * sz = c * sz := by rw [← Nat.add_mul]; congr 1; omega
      omega
    · split at h
      · rename_i hx2
        simp only [Option.some.injEq] at h; subst h
        have hcc := he hx2
        rw [if_pos (by omega)]
        simp only [VR]
        refine ⟨x, c - l, hx, rfl, by omega, by omega, fun q => by omega, ?_⟩
        have := hmul (show c - l ≤ c by omega)
        omega
      · simp only [Option.some.injEq] at h; subst h
        simp only [VR]
        exact ⟨_, c - l, by rw [show hh - l = 0 by omega]⟩

end Go.YtcgafaecdjbmiaaAbs
