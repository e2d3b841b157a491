/- Operations that look at no memory, whole. -/
import Derived.Test.YtcgafaecdjbmiaaAbsF
import Derived.IntWalk
namespace Go.YtcgafaecdjbmiaaAbs
open Go Go.RowKit

theorem run_mapM {α β : Type} {P : Program} {w : World} (g : α → Sem β) (k : α → β) : ∀ l : List α, (∀ x ∈ l, (g x).run P w = .ok (k x) w) → (l.mapM g).run P w = .ok (l.map k) w
  | [], _ => rfl
  | x :: l, h => by
    rw [List.mapM_cons]
    simp only [Sem.run_bind, h x (by simp), Result.andThen_ok, run_mapM g k l (fun y hy => h y (by simp [hy])), Sem.run_pure, List.map_cons]
theorem run_mapMA {α β : Type} {P : Program} {w : World} (g : α → Sem β) (k : α → β) (l : Array α) (h : ∀ x ∈ l.toList, (g x).run P w = .ok (k x) w) : (l.mapM g).run P w = .ok (l.map k) w := by
  rw [Array.mapM_eq_mapM_toList]
  simp only [Sem.run_map, run_mapM g k l.toList h, Result.andThen_ok]
  congr 1
  rw [← Array.toList_map]

theorem lay_foldl (off : Nat) : ∀ (vs : List Value) (k : Nat) (cs : Array Value), off + k + vs.length ≤ cs.size →
    ((vs.zipIdx k).foldl (fun (cs : Array Value) (x : Value × Nat) => cs.setIfInBounds (off + x.2) x.1) cs).toList = cs.toList.take (off + k) ++ vs ++ cs.toList.drop (off + k + vs.length)
  | [], k, cs, h => by simp
  | v :: r, k, cs, h => by
    simp only [List.length_cons] at h
    simp only [List.zipIdx_cons, List.foldl_cons, List.length_cons]
    rw [lay_foldl off r (k + 1) _ (by simp; omega)]
    have hlt : off + k < cs.toList.length := by simp; omega
    have e1 : (cs.setIfInBounds (off + k) v).toList = cs.toList.take (off + k) ++ v :: cs.toList.drop (off + k + 1) := by
      rw [Array.toList_setIfInBounds, List.set_eq_take_append_cons_drop, if_pos hlt]
    have hl : (cs.toList.take (off + k)).length = off + k := by rw [List.length_take]; omega
    rw [e1, show off + (k + 1) = off + k + 1 by omega, List.take_append, List.drop_append, hl]
    rw [List.take_of_length_le (l := cs.toList.take (off + k)) (by omega), List.drop_eq_nil_of_le (as := cs.toList.take (off + k)) (by omega)]
    rw [show off + k + 1 - (off + k) = 1 by omega, show off + k + 1 + r.length - (off + k) = r.length + 1 by omega]
    simp only [List.take_succ_cons, List.take_zero, List.drop_succ_cons, List.nil_append, List.append_assoc, List.cons_append, List.drop_drop]
    congr 4
    omega

theorem fill_sound {P : Program} {m : Mp} {t : Tr AV} {ρ : Operand → Value} (place : Nat → Option (Nat × Nat)) : ∀ (ps : List (Nat × Operand)) (cs cs' : List AV) (vs : List Value),
    afill place (ps.map fun p => (p.1, ev t p.2)) cs = some cs' → VRs m cs vs → (∀ p ∈ ps, VR m (ev t p.2) (ρ p.2)) →
    ∃ vs', VRs m cs' vs' ∧ Instr.fill place ⟨vs⟩ (ps.map fun p => (p.1, ρ p.2)) = some ⟨vs'⟩
  | [], cs, cs', vs, h, hv, _ => by
    simp only [List.map_nil, afill, Option.some.injEq] at h; subst h
    exact ⟨vs, hv, rfl⟩
  | p :: r, cs, cs', vs, h, hv, hp => by
    simp only [List.map_cons, afill] at h
    split at h
    · rename_i off size l hpl hl
      split at h
      · rename_i hc
        have hr := (hp p (by simp)).row hl
        have hlen := hr.1.length
        have hvl := hv.length
        have hsz : (ρ p.2).cells.size = size := by rw [← Array.length_toList, hlen]; exact hc.1
        obtain ⟨vs', q1, q2⟩ := fill_sound (P := P) place r _ cs' (vs.take off ++ (ρ p.2).cells.toList ++ vs.drop (off + size)) h (((hv.take off).append hr.1).append (hv.drop _)) (fun q hq => hp q (by simp [hq]))
        refine ⟨vs', q1, ?_⟩
        simp only [List.map_cons, Instr.fill, hpl]
        have h9 := hc.2
        rw [if_neg (by simp [hsz]; omega)]
        rw [← q2]
        congr 1
        apply Array.ext'
        rw [← Array.foldl_toList, Array.toList_zipIdx]
        have := lay_foldl off (ρ p.2).cells.toList 0 ⟨vs⟩ (by simp only [Array.length_toList, hsz, List.size_toArray]; omega)
        simp only [Nat.add_zero, Array.length_toList, hsz] at this
        exact this
      · cases h
    · cases h


theorem run_len_sl {ty : TypeId} {P : Program} {e : TypeId} (h : P.underlying ty = some (.slice e)) (a : Option Addr) (n c : Nat) (at_ : Array TypeId) (rt : TypeId) (xs : Array Value) (h0 : at_[0]? = some ty) (h1 : xs[0]? = some (.slice a n c)) (w : World) :
    (Builtin.len_ at_ rt xs).run P w = .ok (.int .i64 n) w := by
  simp only [Builtin.len_, h0, h1, Sem.run_bind, run_underlying h, Result.andThen_ok, goInt]
  rfl

theorem ieq_eq : ∀ a b : Int, ieq a b = (a == b)
  | .ofNat a, .ofNat b => by
    rw [Bool.eq_iff_iff]
    simp only [ieq, Nat.beq_eq, beq_iff_eq]
    exact ⟨fun h => by rw [h], fun h => Int.ofNat.inj h⟩
  | .negSucc a, .negSucc b => by
    rw [Bool.eq_iff_iff]
    simp only [ieq, Nat.beq_eq, beq_iff_eq]
    exact ⟨fun h => by rw [h], fun h => Int.negSucc.inj h⟩
  | .ofNat a, .negSucc b => by simp [ieq]
  | .negSucc a, .ofNat b => by simp [ieq]
theorem ile_eq : ∀ a b : Int, ile a b = decide (a ≤ b)
  | .ofNat a, .ofNat b => by
    rw [Bool.eq_iff_iff]
    simp [ile]
  | .negSucc a, .negSucc b => by
    rw [Bool.eq_iff_iff]
    simp only [ile, Nat.ble_eq, decide_eq_true_eq]; omega
  | .ofNat a, .negSucc b => by
    rw [Bool.eq_iff_iff]
    simp only [ile, decide_eq_true_eq, Bool.false_eq_true, false_iff, Int.ofNat_eq_natCast]; omega
  | .negSucc a, .ofNat b => by
    rw [Bool.eq_iff_iff]
    simp only [ile, decide_eq_true_eq, true_iff, Int.ofNat_eq_natCast]; omega
theorem fwrap_eq (k : IntKind) (n : Int) : fwrap k n = k.wrap n := by
  cases n with
  | negSucc n => cases k <;> rfl
  | ofNat n =>
    cases k <;> first
      | rfl
      | (simp only [fwrap]
         split
         · rename_i h
           have h := Nat.le_of_ble_eq_true h
           exact (IntWalk.i64_in _ (by simp only [Int.ofNat_eq_natCast]; omega)).symm
         · rfl)
      | (simp only [fwrap, IntKind.wrap, IntKind.bits, IntKind.signed, Bool.false_and, Bool.false_eq_true, if_false, Int.ofNat_eq_natCast]
         omega)
theorem modulus_eq (k : IntKind) : modulus k = 2 ^ k.bits := by cases k <;> rfl
theorem bits_toNat (k : IntKind) (x : Nat) : (BitVec.ofInt k.bits (.ofNat x)).toNat = x % modulus k := by
  rw [modulus_eq, BitVec.toNat_ofInt]
  simp only [Int.ofNat_eq_natCast]
  norm_cast

theorem sameKind_eq {j k : IntKind} (h : sameKind j k = true) : j = k := by cases j <;> cases k <;> first | rfl | cases h

theorem binOp_same (op : BinOp) (ty : TypeId) (k : IntKind) (a b : Int) (h1 : op ≠ .shl) (h2 : op ≠ .shr) : binOp op ty (.int k a) (.int k b) = (match op with
    | .add | .sub | .mul => Op.intArith op k a b
    | .quo | .rem => Op.intDiv op k a b
    | .and | .or | .xor | .andNot => Op.intBits op k a b
    | _ => Op.intCmp op a b) := by
  cases op <;> first
    | exact absurd rfl h1
    | exact absurd rfl h2
    | simp only [binOp, ne_eq, not_true_eq_false, if_false]

theorem fbin_sound {op : BinOp} {k : IntKind} {a b : Int} {u : AV} (e : fbin op k a b = some u) (ty : TypeId) : ∃ v, (∀ m, VR m u v) ∧ binOp op ty (.int k a) (.int k b) = pure v := by
  have arith : ∀ n : Int, u = .int k (fwrap k n) → ∀ s : Sem Value, s = pure (.int k (k.wrap n)) → ∃ v, (∀ m, VR m u v) ∧ s = pure v := fun n hu s hs =>
    ⟨_, fun m => by rw [hu]; simp only [VR]; rfl, by rw [hs, fwrap_eq]⟩
  have cmp : ∀ c d : Bool, u = .bool c → c = d → ∀ s : Sem Value, s = pure (.bool d) → ∃ v, (∀ m, VR m u v) ∧ s = pure v := fun c d hu hc s hs =>
    ⟨.bool c, fun m => by rw [hu]; simp only [VR], by rw [hs, hc]⟩
  have bits : ∀ (x y : Nat) (f : Nat → Nat → Nat) (g : BitVec k.bits → BitVec k.bits → BitVec k.bits), (∀ p q, (g p q).toNat = f p.toNat q.toNat) → u = .int k (fwrap k (.ofNat (f (x % modulus k) (y % modulus k)))) → ∀ s : Sem Value,
      s = pure (.int k (k.wrap (g (BitVec.ofInt k.bits (.ofNat x)) (BitVec.ofInt k.bits (.ofNat y))).toNat)) → ∃ v, (∀ m, VR m u v) ∧ s = pure v := fun x y f g hg hu s hs =>
    arith _ hu s (by rw [hs, hg, bits_toNat, bits_toNat]; rfl)
  cases op <;> simp only [fbin] at e
  case add => cases e; exact arith _ rfl _ (by rw [binOp_same _ _ _ _ _ (by decide) (by decide)]; rfl)
  case sub => cases e; exact arith _ rfl _ (by rw [binOp_same _ _ _ _ _ (by decide) (by decide)]; rfl)
  case mul => cases e; exact arith _ rfl _ (by rw [binOp_same _ _ _ _ _ (by decide) (by decide)]; rfl)
  case quo =>
    split at e
    · cases e
    · rename_i hb
      have hb0 : b ≠ 0 := by rw [ieq_eq] at hb; simpa using hb
      cases e
      refine arith _ rfl _ ?_
      rw [binOp_same _ _ _ _ _ (by decide) (by decide)]
      simp only [Op.intDiv, if_neg hb0]
  case rem =>
    split at e
    · cases e
    · rename_i hb
      have hb0 : b ≠ 0 := by rw [ieq_eq] at hb; simpa using hb
      cases e
      refine ⟨.int k (a.tmod b), fun m => by simp only [VR], ?_⟩
      rw [binOp_same _ _ _ _ _ (by decide) (by decide)]
      simp only [Op.intDiv, if_neg hb0]
  case eql => cases e; exact cmp _ _ rfl (ieq_eq a b) _ (by rw [binOp_same _ _ _ _ _ (by decide) (by decide)]; rfl)
  case neq => cases e; exact cmp _ _ rfl (by rw [ieq_eq]) _ (by rw [binOp_same _ _ _ _ _ (by decide) (by decide)]; rfl)
  case lss => cases e; exact cmp _ (decide (a < b)) rfl (by rw [ile_eq]; by_cases h : b ≤ a <;> simp [h] <;> omega) _ (by rw [binOp_same _ _ _ _ _ (by decide) (by decide)]; rfl)
  case leq => cases e; exact cmp _ _ rfl (ile_eq a b) _ (by rw [binOp_same _ _ _ _ _ (by decide) (by decide)]; rfl)
  case gtr => cases e; exact cmp _ (decide (a > b)) rfl (by rw [ile_eq]; by_cases h : a ≤ b <;> simp [h] <;> omega) _ (by rw [binOp_same _ _ _ _ _ (by decide) (by decide)]; rfl)
  case geq => cases e; exact cmp _ (decide (a ≥ b)) rfl (ile_eq b a) _ (by rw [binOp_same _ _ _ _ _ (by decide) (by decide)]; rfl)
  case and =>
    split at e
    · cases e
      exact bits _ _ Nat.land (· &&& ·) (fun p q => BitVec.toNat_and p q) rfl _ (by rw [binOp_same _ _ _ _ _ (by decide) (by decide)]; rfl)
    · cases e
  case or =>
    split at e
    · cases e
      exact bits _ _ Nat.lor (· ||| ·) (fun p q => BitVec.toNat_or p q) rfl _ (by rw [binOp_same _ _ _ _ _ (by decide) (by decide)]; rfl)
    · cases e
  case xor =>
    split at e
    · cases e
      exact bits _ _ Nat.xor (· ^^^ ·) (fun p q => BitVec.toNat_xor p q) rfl _ (by rw [binOp_same _ _ _ _ _ (by decide) (by decide)]; rfl)
    · cases e
  all_goals cases e

theorem fshift_sound {op : BinOp} {k k' : IntKind} {a b : Int} {u : AV} (e : fshift op k a b = some u) (ty : TypeId) : ∃ v, (∀ m, VR m u v) ∧ binOp op ty (.int k a) (.int k' b) = pure v := by
  unfold fshift at e
  split at e
  · rename_i x n
    cases e
    refine ⟨_, fun m => by simp only [VR]; rfl, ?_⟩
    simp only [binOp, Op.shift, Int.ofNat_eq_natCast]
    rw [if_neg (by omega)]
    simp only [fwrap_eq, Int.toNat_natCast, Int.natCast_mul, Int.natCast_pow]
    rfl
  · rename_i x n
    cases e
    refine ⟨_, fun m => by simp only [VR]; rfl, ?_⟩
    simp only [binOp, Op.shift, Int.ofNat_eq_natCast]
    rw [if_neg (by omega)]
    simp only [Int.toNat_natCast]
    rw [show ((2 : Int) ^ (min n k.bits)) = ((2 ^ (min n k.bits) : Nat) : Int) by simp]
    rw [show ((x : Int).fdiv ((2 ^ (min n k.bits) : Nat) : Int)) = ((x / 2 ^ (min n k.bits) : Nat) : Int) by
      rw [Int.fdiv_eq_ediv_of_nonneg _ (Int.natCast_nonneg _)]; simp]
  · cases e

theorem fast_sound {op : BinOp} {x y u : AV} (e : fast op x y = some u) {m : Mp} {v w : Value} (hx : VR m x v) (hy : VR m y w) (ty : TypeId) :
    ∃ z, VR m u z ∧ binOp op ty v w = pure z ∧ ∀ p q, eqGuard op ty p q v w = pure () := by
  unfold fast at e
  split at e
  · rename_i k a k' b
    rw [asInt_int hx, asInt_int hy]
    have hg : ∀ p q, eqGuard op ty p q (.int k a) (.int k' b) = pure () := by
      intro p q
      unfold eqGuard
      split <;> rfl
    split at e
    · obtain ⟨z, h1, h2⟩ := fshift_sound (k' := k') e ty
      exact ⟨z, h1 m, h2, hg⟩
    · obtain ⟨z, h1, h2⟩ := fshift_sound (k' := k') e ty
      exact ⟨z, h1 m, h2, hg⟩
    · split at e
      · rename_i hk
        have := sameKind_eq hk
        subst this
        obtain ⟨z, h1, h2⟩ := fbin_sound e ty
        exact ⟨z, h1 m, h2, hg⟩
      · cases e
  · cases e

theorem apure_sound {P : Program} {m : Mp} {t : Tr AV} {ρ : Operand → Value} {o : Oper} (hE : OR m t ρ o) {u : AV} (e : apure P t o = some u) : Gives P m u (execOp ρ o) := by
  have hE0 := hE
  unfold apure at e
  split at e
  case h_1 x ho =>
    simp only [Option.some.injEq] at e; subst e
    have := hE x (by simp [ho, Op.operands])
    exact ⟨ρ x, this, fun w => by simp [execOp, ho]⟩
  case h_2 x ho =>
    simp only [Option.some.injEq] at e; subst e
    have := hE x (by simp [ho, Op.operands])
    exact ⟨ρ x, this, fun w => by simp [execOp, ho]⟩
  case h_3 c a b ho =>
    have hc := hE c (by simp [ho, Op.operands])
    split at e
    · rename_i hb
      simp only [Option.some.injEq] at e; subst e
      rw [hb] at hc; simp only [VR] at hc
      exact ⟨ρ a, hE a (by simp [ho, Op.operands]), fun w => by simp [execOp, ho, hc, asBool]⟩
    · rename_i hb
      simp only [Option.some.injEq] at e; subst e
      rw [hb] at hc; simp only [VR] at hc
      exact ⟨ρ b, hE b (by simp [ho, Op.operands]), fun w => by simp [execOp, ho, hc, asBool]⟩
    · cases e
  case h_4 x ho =>
    have hx := hE x (by simp [ho, Op.operands])
    split at e
    · rename_i b i hb
      simp only [Option.some.injEq] at e; subst e
      rw [hb] at hx
      have hx' := hx
      simp only [VR] at hx'
      obtain ⟨xx, h1, h2⟩ := hx'
      exact ⟨ρ x, hx, fun w => by simp [execOp, ho, h2]⟩
    · rename_i f cs hb
      simp only [Option.some.injEq] at e; subst e
      rw [hb] at hx
      have hx' := hx
      simp only [VR] at hx'
      obtain ⟨vs, h1, h2⟩ := hx'
      exact ⟨ρ x, hx, fun w => by simp [execOp, ho, h1]⟩
    · cases e
  case h_5 s x f ho =>
    have hx := hE x (by simp [ho, Op.operands])
    split at e
    · rename_i b i off ty hb hf
      obtain ⟨fs, fl, g1, g2, rfl, rfl⟩ := afield_sound hf
      split at e
      · rename_i n hn
        split at e
        · cases e
        · rename_i hn0
          simp only [Option.some.injEq] at e; subst e
          rw [hb] at hx
          simp only [VR] at hx
          obtain ⟨xx, h1, h2⟩ := hx
          refine ⟨.pointer (some ⟨xx.B, xx.δ + (i + fl.offset), none⟩), by simp only [VR]; exact ⟨xx, h1, rfl⟩, fun w => ?_⟩
          simp only [execOp, ho, Instr.fieldAt, Sem.run_bind, run_underlying g1, Result.andThen_ok, g2, h2, Instr.sureAddr, Sem.run_pure, fieldPlace, run_sizeOf hn, if_neg hn0, addr_add]
      · cases e
    · cases e
  case h_6 ty x ix ho =>
    obtain ⟨v, h1, h2⟩ := aindex_sound e (hE x (by simp [ho, Op.operands])) (hE ix (by simp [ho, Op.operands]))
    exact ⟨v, h1, fun w => by simp [execOp, ho, h2 w]⟩
  case h_7 ty x lo hi mx ho =>
    have hx := hE x (by simp [ho, Op.operands])
    obtain ⟨v, h1, h2⟩ := aslice_sound e hx (map_OR (fun y hy => hE y (by simp [ho, Op.operands, hy]))) (map_OR (fun y hy => hE y (by simp [ho, Op.operands, hy]))) (map_OR (fun y hy => hE y (by simp [ho, Op.operands, hy])))
    exact ⟨v, h1, fun w => by simp [execOp, ho, h2 w]⟩
  case h_8 ty x f ho =>
    have hx := hE x (by simp [ho, Op.operands])
    split at e
    · rename_i cs off ty' hb hf
      obtain ⟨fs, fl, g1, g2, rfl, rfl⟩ := afield_sound hf
      rw [hb] at hx
      simp only [VR] at hx
      obtain ⟨vs, h1, h2⟩ := hx
      obtain ⟨v, q1, q2⟩ := apart_sound e h2
      exact ⟨v, q1, fun w => by simp only [execOp, ho, Instr.field, Sem.run_bind, run_underlying g1, Result.andThen_ok, g2, h1, asAgg, Sem.run_pure, q2 w]⟩
    · cases e
  case h_9 ty x ix ho =>
    have hx := hE x (by simp [ho, Op.operands])
    have hix := hE ix (by simp [ho, Op.operands])
    split at e
    · rename_i cs k n len el hb hk hty
      split at e
      · rename_i sz hn
        split at e
        · rename_i hbd
          rw [hb] at hx; rw [hk] at hix
          simp only [VR] at hx
          obtain ⟨vs, h1, h2⟩ := hx
          obtain ⟨v, q1, q2⟩ := apart_sound e h2
          exact ⟨v, q1, fun w => by simp only [execOp, ho, Instr.index, asInt_int hix, asIntOf, h1, Sem.run_bind, Sem.run_pure, Result.andThen_ok, run_underlying hty, Sem.run_ite, if_pos hbd, run_sizeOf hn, q2 w]⟩
        · cases e
      · cases e
    · rename_i s kk n hb hk hty
      split at e
      · rename_i bb hbb
        simp only [Option.some.injEq] at e; subst e
        rw [hb] at hx; rw [hk] at hix
        simp only [VR] at hx
        refine ⟨.int .u8 bb.toNat, by simp only [VR]; rfl, fun w => ?_⟩
        have hlt : n < s.size := by
          have := (List.getElem?_eq_some_iff.1 hbb).1
          exact this
        have hget : s[n]? = some bb := by
          have h2 : s.data[n]? = some bb := by simpa using hbb
          have h3 : s.data[n] = bb := (Array.getElem?_eq_some_iff.1 h2).2
          rw [getElem?_pos s n hlt]
          exact congrArg some h3
        simp only [execOp, ho, Instr.index, asInt_int hix, asIntOf, hx, Sem.run_bind, Sem.run_pure, Result.andThen_ok, run_underlying hty]
        have h0 : (0 : Int) ≤ Int.ofNat n := Int.natCast_nonneg n
        rw [if_pos h0]
        have : (Int.ofNat n).toNat = n := rfl
        rw [this, hget]
        rfl
      · cases e
    · cases e
  case h_10 x k ho =>
    have hx := hE x (by simp [ho, Op.operands])
    split at e
    · rename_i l hb
      rw [hb] at hx
      simp only [VR] at hx
      obtain ⟨vs, h1, h2⟩ := hx
      obtain ⟨v, q1, q2⟩ := h2.get k u e
      exact ⟨v, q2, fun w => by simp [execOp, ho, Instr.extract, h1, q1]⟩
    · cases e
  case h_11 f first captured ho =>
    split at e
    · rename_i h0
      simp only [Option.some.injEq] at e; subst e
      have hfirst : first = #[] := Array.eq_empty_of_size_eq_zero h0
      refine ⟨.func (.func f) #[] ⟨captured.toList.map ρ⟩, ?_, fun w => ?_⟩
      · simp only [VR]
        refine ⟨_, rfl, VRs.of_get (by simp) fun i a v ha hv => ?_⟩
        simp only [List.getElem?_map, Option.map_eq_some_iff] at ha hv
        obtain ⟨x, hx, rfl⟩ := ha
        obtain ⟨y, hy, rfl⟩ := hv
        rw [hx] at hy; cases hy
        exact hE x (by simp only [ho, Op.operands, hfirst]; simp; exact Array.mem_of_getElem? (i := i) (by simpa using hx))
      · subst hfirst
        simp [execOp, ho, Instr.makeFunc]
        rw [← Array.toList_map]
    · cases e
  case h_12 ty parts ho =>
    have hp : ∀ p ∈ parts.toList, VR m (ev t p.2) (ρ p.2) := fun p hp => hE p.2 (by
      simp only [ho, Op.operands, List.mem_toArray, List.mem_map]
      exact ⟨p, hp, rfl⟩)
    split at e
    · cases e
    rename_i z hz
    obtain ⟨zv, hz1, hz2⟩ := run_zeroValue hz
    have hmap : (parts.map fun p => (p.1, ρ p.2)).toList = parts.toList.map fun p => (p.1, ρ p.2) := by simp
    split at e
    · rename_i fs hty
      split at e
      · rename_i hall
        simp only [Bool.and_eq_true] at hall
        split at e
        · rename_i cs hcs
          simp only [Option.some.injEq] at e; subst e
          obtain ⟨vs', q1, q2⟩ := fill_sound (P := P) (ρ := ρ) _ _ z cs zv.cells.toList hcs (hz1 ▸ ofV_row m zv (hz1 ▸ hall.2)) hp
          refine ⟨.agg ⟨vs'⟩, by simp only [VR]; exact ⟨vs', rfl, q1⟩, fun w => ?_⟩
          have hpl : (fs.mapM fun f => do pure (f.offset, ← sizeOf f.type) : Sem (Array (Nat × Nat))).run P w = .ok (fs.map fun f => (f.offset, (tsize P f.type).getD 0)) w := by
            refine run_mapMA _ _ _ fun f hf => ?_
            rw [Array.all_eq_true'] at hall
            obtain ⟨n, hn⟩ := Option.isSome_iff_exists.1 (hall.1 f (by simpa using hf))
            simp only [Sem.run_bind, run_sizeOf hn, Result.andThen_ok, Sem.run_pure, hn, Option.getD_some]
          have hplace : (fun k : Nat => (fs[k]?).map fun f : Field => (f.offset, (tsize P f.type).getD 0)) = ((fs.map fun f : Field => (f.offset, (tsize P f.type).getD 0))[·]?) := by
            funext k; simp
          rw [hplace, ← hmap] at q2
          simp only [execOp, ho, Instr.build, Sem.run_bind, hz2 w, Result.andThen_ok, run_underlying hty, hpl]
          rw [show zv.cells = ⟨zv.cells.toList⟩ from rfl, q2]
          rfl
        · cases e
      · cases e
    · rename_i len el hty
      split at e
      · rename_i n hn
        split at e
        · rename_i hall
          split at e
          · rename_i cs hcs
            simp only [Option.some.injEq] at e; subst e
            obtain ⟨vs', q1, q2⟩ := fill_sound (P := P) (ρ := ρ) _ _ z cs zv.cells.toList hcs (hz1 ▸ ofV_row m zv (hz1 ▸ hall)) hp
            refine ⟨.agg ⟨vs'⟩, by simp only [VR]; exact ⟨vs', rfl, q1⟩, fun w => ?_⟩
            rw [← hmap] at q2
            simp only [execOp, ho, Instr.build, Sem.run_bind, hz2 w, Result.andThen_ok, run_underlying hty, run_sizeOf hn]
            rw [show zv.cells = ⟨zv.cells.toList⟩ from rfl, q2]
            rfl
          · cases e
        · cases e
      · cases e
    · cases e
  case h_13 op ty x y yt ho =>
    have hx := hE x (by simp [ho, Op.operands])
    have hy := hE y (by simp [ho, Op.operands])
    split at e
    · rename_i u' hf
      simp only [Option.some.injEq] at e; subst e
      obtain ⟨z, h1, h2, h3⟩ := fast_sound hf hx hy ty
      refine ⟨z, h1, fun w => ?_⟩
      simp only [execOp, ho, h2, h3, Sem.run_bind, Sem.run_pure, Result.andThen_ok]
    split at e
    · split at e
      · rename_i b hb
        simp only [Option.some.injEq] at e; subst e
        have hq := aeql_sound hb hx hy
        refine ⟨.bool b, by simp [VR], fun w => ?_⟩
        simp only [execOp, ho, Sem.run_bind, hq.2.1, Result.andThen_ok, hq.2.2.2.1, hq.1 w, Sem.run_pure]
      · exact aback_sound hE0 e
    · split at e
      · rename_i b hb
        simp only [Option.some.injEq] at e; subst e
        have hq := aeql_sound hb hx hy
        refine ⟨.bool !b, by simp [VR], fun w => ?_⟩
        simp only [execOp, ho, Sem.run_bind, hq.2.2.1, Result.andThen_ok, hq.2.2.2.2, hq.1 w, Sem.run_pure]
      · exact aback_sound hE0 e
    · exact aback_sound hE0 e
  case h_14 c ho =>
    split at e
    · rename_i hc
      have run : ∀ (v u : Value) (w : World), (c.args.map ρ)[0]? = some v → (Builtin.len_ c.argTypes o.type (c.args.map ρ)).run P w = .ok u w → (execOp ρ o).run P w = .ok (.value u) w := by
        intro v u w _ h
        simp only [execOp, ho, resolve, hc, Sem.run_bind, Sem.run_pure, Result.andThen_ok, invoke, builtin, h]
      have hop : ∀ a, (c.args[0]?).map (ev t) = some a → ∃ v, (c.args.map ρ)[0]? = some v ∧ VR m a v := by
        intro a ha
        simp only [Option.map_eq_some_iff] at ha
        obtain ⟨x, hx, rfl⟩ := ha
        exact ⟨ρ x, by simp [hx], hE x (by simp [ho, Op.operands, Call.operands, hc]; exact Array.mem_of_getElem? hx)⟩
      split at e
      · rename_i b i n cap sz ex e2 ha hty
        simp only [Option.some.injEq] at e; subst e
        obtain ⟨v, h1, h2⟩ := hop _ ha
        simp only [Option.bind_eq_some_iff] at hty
        obtain ⟨ty, h3, h4⟩ := hty
        simp only [VR] at h2
        obtain ⟨xx, k, g1, rfl, _⟩ := h2
        exact ⟨.int .i64 n, by simp [VR], fun w => run _ _ w h1 (by simp only [Builtin.len_, h3, h1, Sem.run_bind, run_underlying h4, Result.andThen_ok, goInt]; rfl)⟩
      · rename_i e2 ha hty
        simp only [Option.some.injEq] at e; subst e
        obtain ⟨v, h1, h2⟩ := hop _ ha
        simp only [Option.bind_eq_some_iff] at hty
        obtain ⟨ty, h3, h4⟩ := hty
        simp only [VR] at h2
        obtain ⟨xx, k, rfl⟩ := h2
        exact ⟨.int .i64 0, by simp [VR], fun w => run _ _ w h1 (by simp only [Builtin.len_, h3, h1, Sem.run_bind, run_underlying h4, Result.andThen_ok, goInt]; rfl)⟩
      · rename_i e2 ha hty
        simp only [Option.some.injEq] at e; subst e
        obtain ⟨v, h1, h2⟩ := hop _ ha
        simp only [Option.bind_eq_some_iff] at hty
        obtain ⟨ty, h3, h4⟩ := hty
        simp only [VR] at h2
        subst h2
        exact ⟨.int .i64 0, by simp [VR], fun w => run _ _ w h1 (by simp only [Builtin.len_, h3, h1, Sem.run_bind, run_underlying h4, Result.andThen_ok, goInt]; rfl)⟩
      · rename_i s ha hty
        simp only [Option.some.injEq] at e; subst e
        obtain ⟨v, h1, h2⟩ := hop _ ha
        simp only [Option.bind_eq_some_iff] at hty
        obtain ⟨ty, h3, h4⟩ := hty
        simp only [VR] at h2
        subst h2
        exact ⟨.int .i64 s.size, by simp [VR], fun w => run _ _ w h1 (by simp only [Builtin.len_, h3, h1, Sem.run_bind, run_underlying h4, Result.andThen_ok, goInt]; rfl)⟩
      · cases e
    · rename_i hc
      have run : ∀ (v u : Value) (w : World), (c.args.map ρ)[0]? = some v → (Builtin.cap_ c.argTypes o.type (c.args.map ρ)).run P w = .ok u w → (execOp ρ o).run P w = .ok (.value u) w := by
        intro v u w _ h
        simp only [execOp, ho, resolve, hc, Sem.run_bind, Sem.run_pure, Result.andThen_ok, invoke, builtin, h]
      have hop : ∀ a, (c.args[0]?).map (ev t) = some a → ∃ v, (c.args.map ρ)[0]? = some v ∧ VR m a v := by
        intro a ha
        simp only [Option.map_eq_some_iff] at ha
        obtain ⟨x, hx, rfl⟩ := ha
        exact ⟨ρ x, by simp [hx], hE x (by simp [ho, Op.operands, Call.operands, hc]; exact Array.mem_of_getElem? hx)⟩
      split at e
      · rename_i b i n cap sz e2 ha hty
        simp only [Option.some.injEq] at e; subst e
        obtain ⟨v, h1, h2⟩ := hop _ ha
        simp only [Option.bind_eq_some_iff] at hty
        obtain ⟨ty, h3, h4⟩ := hty
        simp only [VR] at h2
        obtain ⟨xx, k, g1, rfl, _, _, g2, _⟩ := h2
        rw [g2 trivial] at h1
        exact ⟨.int .i64 cap, by simp [VR], fun w => run _ _ w h1 (by simp only [Builtin.cap_, h3, h1, Sem.run_bind, run_underlying h4, Result.andThen_ok, goInt]; rfl)⟩
      · cases e
    · exact aback_sound hE0 e
    · exact aback_sound hE0 e
    · cases e
  case h_15 op ty x ho =>
    have hx := hE x (by simp [ho, Op.operands])
    split at e
    · rename_i b hb
      simp only [Option.some.injEq] at e; subst e
      rw [hb] at hx
      simp only [VR] at hx
      exact ⟨.bool !b, by simp only [VR], fun w => by simp only [execOp, ho, hx, Op.unary, Sem.run_bind, Sem.run_pure, Result.andThen_ok]⟩
    · exact aback_sound hE0 e
  case h_16 src dst x ho =>
    have hx := hE x (by simp [ho, Op.operands])
    split at e
    · cases e
    · rename_i kk n k hb hd
      split at e
      · rename_i sd hs
        simp only [Option.some.injEq] at e; subst e
        rw [hb] at hx
        refine ⟨.int k (k.wrap n), by simp only [VR, fwrap_eq], fun w => ?_⟩
        simp only [execOp, ho, asInt_int hx, convert, Sem.run_bind, run_underlying hs, run_underlying hd, Result.andThen_ok, Conv.intToInt, Sem.run_pure]
      · cases e
    · exact aback_sound hE0 e
    · exact aback_sound hE0 e
    · cases e
  case h_17 => cases e

end Go.YtcgafaecdjbmiaaAbs
