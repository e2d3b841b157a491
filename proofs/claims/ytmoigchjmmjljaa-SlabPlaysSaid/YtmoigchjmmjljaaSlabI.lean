/- slab: what holds of it whatever is called, in plain words. -/
import Derived.Test.YtmoigchjmmjljaaSlabP
import Derived.Test.YtmoigchjmmjljaaSlabY
namespace Go.Proofs.Ytmoigchjmmjljaa
open Go Go.YtmoigchjmmjljaaAbs
set_option linter.unusedSimpArgs false
set_option linter.unusedVariables false
set_option maxRecDepth 4000

theorem mem_le_sum {l : List Nat} {a : Nat} (h : a ∈ l) : a ≤ l.sum := by
  induction l with
  | nil => cases h
  | cons x l ih =>
    rw [List.sum_cons]
    rcases List.mem_cons.1 h with rfl | h
    · omega
    · have := ih h; omega
theorem eraseIdx_perm {α : Type} : ∀ {l : List α} {i : Nat} {x : α}, l[i]? = some x → (x :: l.eraseIdx i).Perm l
  | [], i, x, h => by simp at h
  | y :: l, 0, x, h => by simp at h; subst h; exact List.Perm.refl _
  | y :: l, i + 1, x, h => by
    have := eraseIdx_perm (l := l) (i := i) (x := x) (by simpa using h)
    exact (List.Perm.swap y x _).trans (this.cons y)
/-- A class of so many pages. -/
structure ClI (Q : Nat) (c : Cl) (pg : Nat) : Prop where
  nd : (c.free ++ c.live.map (·.1)).Nodup
  lt : ∀ x, x ∈ c.free ++ c.live.map (·.1) → x < c.count
  len : c.free.length + c.live.length = c.count
  cnt : c.count = (Q / c.size) * pg
structure SbI (P Q : Nat) (s : Sb) (pgs : List Nat) : Prop where
  page : s.page = Q
  tot : s.used + s.left = P
  sz : ∀ (j : Nat) (c : Cl), s.cls[j]? = some c → c.size = 64 * 2 ^ j
  len : pgs.length = s.cls.length
  l1 : 1 ≤ s.cls.length
  l2 : s.cls.length ≤ 11
  l3 : 64 * 2 ^ (s.cls.length - 1) ≤ Q
  each : ∀ (j : Nat) (c : Cl) (pg : Nat), s.cls[j]? = some c → pgs[j]? = some pg → ClI Q c pg
  used : pgs.sum = s.used
theorem SbI.new {P Q : Nat} {cls : List Cl} (F : FreshC cls) (l1 : 1 ≤ cls.length) (l2 : cls.length ≤ 11) (l3 : 64 * 2 ^ (cls.length - 1) ≤ Q) : SbI P Q ⟨Q, P, 0, cls⟩ (List.replicate cls.length 0) := by
  refine ⟨rfl, by simp, fun j c hc => (F j c hc).1, by simp, l1, l2, l3, fun j c pg hc hp => ?_, by simp⟩
  obtain ⟨f1, f2, f3, f4, f5⟩ := F j c hc
  have : pg = 0 := by
    rw [List.getElem?_replicate] at hp
    split at hp
    · exact (Option.some.inj hp).symm
    · cases hp
  subst this
  exact ⟨by rw [f2, f3]; exact List.nodup_nil, (fun x hx => absurd hx (by rw [f2, f3]; simp)), by rw [f2, f3, f5]; rfl, by rw [f5]; simp⟩
section
variable {P Q : Nat} {s : Sb} {pgs : List Nat}
theorem SbI.size (I : SbI P Q s pgs) {i : Nat} {c : Cl} (hi : s.cls[i]? = some c) : 64 ≤ c.size ∧ c.size ≤ Q := by
  have hl := (List.getElem?_eq_some_iff.1 hi).1
  rw [I.sz i c hi]
  have h1 : 1 ≤ 2 ^ i := Nat.one_le_two_pow
  have h2 : 2 ^ i ≤ 2 ^ (s.cls.length - 1) := Nat.pow_le_pow_right (by omega) (by omega)
  have := I.l3
  omega
theorem SbI.pg (I : SbI P Q s pgs) {i : Nat} {c : Cl} (hi : s.cls[i]? = some c) : ∃ pg, pgs[i]? = some pg ∧ ClI Q c pg ∧ pg ≤ s.used := by
  have hl := (List.getElem?_eq_some_iff.1 hi).1
  have hp : pgs[i]? = some (pgs[i]'(by rw [I.len]; exact hl)) := by simp
  refine ⟨_, hp, I.each i c _ hi hp, ?_⟩
  rw [← I.used]
  exact mem_le_sum (List.mem_of_getElem? hp)
theorem SbI.small (I : SbI P Q s pgs) (hP : P ≤ 64) (hQ : Q ≤ 65536) {i : Nat} {c : Cl} (hi : s.cls[i]? = some c) : c.count ≤ 65536 ∧ c.free.length ≤ 65536 ∧ c.live.length ≤ 65536 := by
  obtain ⟨pg, _, J, hpg⟩ := I.pg hi
  obtain ⟨s1, s2⟩ := I.size hi
  have h1 : Q / c.size ≤ 1024 := by
    have := Nat.div_le_div_left (a := Q) s1 (by omega)
    omega
  have h2 : pg ≤ 64 := by have := I.tot; omega
  have h3 : c.count ≤ 1024 * 64 := by rw [J.cnt]; exact Nat.mul_le_mul h1 h2
  have := J.len
  omega
theorem sum_set {l : List Nat} {i a b : Nat} (h : l[i]? = some a) : (l.set i b).sum + a = l.sum + b := by
  induction l generalizing i with
  | nil => simp at h
  | cons x l ih =>
    cases i with
    | zero => simp at h; subst h; simp; omega
    | succ i =>
      simp at h
      have := ih h
      simp only [List.set_cons_succ, List.sum_cons]
      omega
/-- A class is changed. -/
theorem SbI.set (I : SbI P Q s pgs) {i : Nat} {c c2 : Cl} (hi : s.cls[i]? = some c) (hs : c2.size = c.size) {pg pg2 : Nat} (hp : pgs[i]? = some pg) (J : ClI Q c2 pg2) {left used : Nat} (ht : used + left = P) (hu : used + pg = s.used + pg2) :
    SbI P Q ⟨s.page, left, used, s.cls.set i c2⟩ (pgs.set i pg2) := by
  have hl := (List.getElem?_eq_some_iff.1 hi).1
  have hl' := (List.getElem?_eq_some_iff.1 hp).1
  refine ⟨I.page, ht, fun j x hx => ?_, by simp only [List.length_set]; exact I.len, by simp only [List.length_set]; exact I.l1, by simp only [List.length_set]; exact I.l2, by simp only [List.length_set]; exact I.l3, fun j x q hx hq => ?_, ?_⟩
  · simp only at hx
    by_cases hij : i = j
    · subst hij
      rw [List.getElem?_set_self hl] at hx
      cases hx
      rw [hs]; exact I.sz i c hi
    · rw [List.getElem?_set_ne hij] at hx
      exact I.sz j x hx
  · simp only at hx
    by_cases hij : i = j
    · subst hij
      rw [List.getElem?_set_self hl] at hx
      rw [List.getElem?_set_self hl'] at hq
      cases hx; cases hq
      exact J
    · rw [List.getElem?_set_ne hij] at hx hq
      exact I.each j x q hx hq
  · have := sum_set (b := pg2) hp
    have := I.used
    simp only
    omega
/-- Alloc. -/
theorem SbI.alloc (I : SbI P Q s pgs) {i : Nat} {c : Cl} (hi : s.cls[i]? = some c) (hroom : c.free ≠ [] ∨ s.left ≠ 0) {c2 : Cl} {F : List Nat} {cnt left used K : Nat} {d : ByteArray}
    (e1 : F = (if c.free = [] then fl (s.page / c.size) c.count (s.page / c.size) else c.free)) (e2 : cnt = (if c.free = [] then c.count + s.page / c.size else c.count)) (e3 : left = (if c.free = [] then s.left - 1 else s.left)) (e4 : used = (if c.free = [] then s.used + 1 else s.used))
    (hK : F[F.length - 1]? = some K) (z1 : c2.size = c.size) (z2 : c2.free = F.take (F.length - 1)) (z3 : c2.count = cnt) (z4 : (c2.live, c2.cl) = lput K d c.live c.cl) :
    K ∉ c.live.map (·.1) ∧ c2.live = c.live ++ [(K, d, c.cl)] ∧ c2.cl = c.cl + 1 ∧ ∃ pgs', SbI P Q ⟨s.page, left, used, s.cls.set i c2⟩ pgs' := by
  obtain ⟨pg, hp, J, _⟩ := I.pg hi
  obtain ⟨s1, s2⟩ := I.size hi
  have hn : 1 ≤ Q / c.size := (Nat.le_div_iff_mul_le (by omega)).2 (by omega)
  obtain ⟨n, hnn⟩ : ∃ n, n = Q / c.size := ⟨_, rfl⟩
  rw [I.page, ← hnn] at e1 e2
  rw [← hnn] at hn
  have jc := J.cnt
  rw [← hnn] at jc
  obtain ⟨pg2, base, hu, ht⟩ : ∃ pg2, (((F ++ c.live.map (·.1)).Nodup ∧ (∀ x, x ∈ F ++ c.live.map (·.1) → x < cnt) ∧ F.length + c.live.length = cnt ∧ cnt = n * pg2)) ∧ used + pg = s.used + pg2 ∧ used + left = P := by
    have tot := I.tot
    by_cases hF : c.free = []
    · rw [if_pos hF] at e1 e2 e3 e4
      have hl := hroom.resolve_left (fun q => q hF)
      have nd := J.nd; have lt := J.lt; have len := J.len
      rw [hF] at nd lt len
      simp only [List.nil_append, List.length_nil, Nat.zero_add] at nd lt len
      subst e1 e2 e3 e4
      refine ⟨pg + 1, ⟨?_, fun x hx => ?_, by rw [fl_len]; omega, by rw [Nat.mul_succ, ← jc]⟩, by omega, by omega⟩
      · rw [List.nodup_append]
        refine ⟨fl_nodup n c.count n (Nat.le_refl _), nd, fun x hx y hy q => ?_⟩
        have := (fl_mem (Nat.le_refl _) hx).1
        have := lt y hy
        omega
      · rcases List.mem_append.1 hx with h | h
        · exact (fl_mem (Nat.le_refl _) h).2
        · have := lt x h; omega
    · rw [if_neg hF] at e1 e2 e3 e4
      subst e1 e2 e3 e4
      exact ⟨pg, ⟨J.nd, J.lt, J.len, jc⟩, rfl, tot⟩
  obtain ⟨nd, lt, len, cn⟩ := base
  have h1 := (List.getElem?_eq_some_iff.1 hK).1
  have split : F = F.take (F.length - 1) ++ [K] := by
    have := List.take_append_drop (F.length - 1) F
    rw [List.drop_eq_getElem_cons h1, (List.getElem?_eq_some_iff.1 hK).2, List.drop_of_length_le (by omega)] at this
    exact this.symm
  have hno : K ∉ c.live.map (·.1) := fun q => by
    rw [List.nodup_append] at nd
    exact nd.2.2 K (List.mem_of_getElem? hK) K q rfl
  have hlk := lk_none hno
  unfold lput at z4
  rw [hlk] at z4
  simp only [Prod.mk.injEq] at z4
  obtain ⟨z4, z5⟩ := z4
  refine ⟨hno, z4, z5, _, I.set hi z1 hp (pg2 := pg2) ?_ ht hu⟩
  have keys : c2.live.map (·.1) = c.live.map (·.1) ++ [K] := by rw [z4]; simp
  have perm : (F.take (F.length - 1) ++ (c.live.map (·.1) ++ [K])).Perm (F ++ c.live.map (·.1)) := by
    conv => rhs; rw [split]
    rw [List.append_assoc]
    exact List.Perm.append_left _ List.perm_append_comm
  refine ⟨by rw [z2, keys]; exact perm.nodup_iff.2 nd, fun x hx => ?_, ?_, by rw [z3, z1, ← hnn]; exact cn⟩
  · rw [z2, keys] at hx
    rw [z3]; exact lt x (perm.mem_iff.1 hx)
  · rw [z2, z4, List.length_take, List.length_append, List.length_singleton, z3]
    omega
theorem lk_some {K : Nat} : ∀ {L : List (Nat × ByteArray × Nat)} {y : Nat × ByteArray × Nat}, lk K L = some y → ∃ st, L[y.1]? = some (K, y.2.1, st)
  | [], y, h => by simp [lk] at h
  | x :: L, y, h => by
    simp only [lk] at h
    split at h
    · rename_i hx
      simp only [Option.some.injEq] at h
      subst h
      exact ⟨x.2.2, by simp [← hx]⟩
    · rw [Option.map_eq_some_iff] at h
      obtain ⟨z, h1, rfl⟩ := h
      obtain ⟨st, h2⟩ := lk_some h1
      exact ⟨st, by simpa using h2⟩
/-- Free. -/
theorem SbI.free (I : SbI P Q s pgs) {i K : Nat} {c c2 : Cl} (hi : s.cls[i]? = some c) {y : Nat × ByteArray × Nat} (hy : lk K c.live = some y) (z1 : c2.size = c.size) (z2 : c2.free = c.free ++ [K]) (z3 : c2.count = c.count) (z4 : c2.live = c.live.eraseIdx y.1) :
    ∃ pgs', SbI P Q { s with cls := s.cls.set i c2 } pgs' := by
  obtain ⟨pg, hp, J, _⟩ := I.pg hi
  obtain ⟨st, hst⟩ := lk_some hy
  have hl := (List.getElem?_eq_some_iff.1 hst).1
  have hkey : (c.live.map (·.1))[y.1]? = some K := by rw [List.getElem?_map, hst]; rfl
  have keys : c2.live.map (·.1) = (c.live.map (·.1)).eraseIdx y.1 := by
    rw [z4]
    exact (erase_map (fun x : Nat × ByteArray × Nat => x.1) c.live y.1).symm
  have perm : (c.free ++ [K] ++ (c.live.map (·.1)).eraseIdx y.1).Perm (c.free ++ c.live.map (·.1)) := by
    rw [List.append_assoc]
    refine List.Perm.append_left _ ?_
    exact eraseIdx_perm hkey
  refine ⟨_, I.set hi z1 hp (pg2 := pg) ?_ I.tot rfl⟩
  refine ⟨by rw [z2, keys]; exact perm.nodup_iff.2 J.nd, fun x hx => ?_, ?_, by rw [z3, z1]; exact J.cnt⟩
  · rw [z2, keys] at hx
    rw [z3]; exact J.lt x (perm.mem_iff.1 hx)
  · have := J.len
    rw [z2, z4, z3, List.length_append, List.length_singleton, List.length_eraseIdx, if_pos hl]
    omega
/-- The memory that live chunks have. -/
def weight (L : List Cl) : Nat := (L.map fun c => c.live.length * c.size).sum
theorem weight_le (n : Nat) : ∀ (L : List Cl) (ps : List Nat), ps.length = L.length → (∀ (j : Nat) (c : Cl) (pg : Nat), L[j]? = some c → ps[j]? = some pg → c.live.length * c.size ≤ n * pg) → weight L ≤ n * ps.sum
  | [], ps, _, _ => by simp [weight]
  | c :: L, [], h, _ => by simp at h
  | c :: L, p :: ps, h, k => by
    have ih := weight_le n L ps (by simpa using h) fun j c' pg hc hp => k (j + 1) c' pg (by simpa using hc) (by simpa using hp)
    have h0 := k 0 c p rfl rfl
    unfold weight at ih ⊢
    simp only [List.map_cons, List.sum_cons, Nat.mul_add]
    omega
theorem SbI.weight (I : SbI P Q s pgs) : weight s.cls ≤ s.used * Q := by
  rw [← I.used, Nat.mul_comm]
  refine weight_le Q s.cls pgs I.len fun j c pg hc hp => ?_
  have J := I.each j c pg hc hp
  have h1 : c.live.length ≤ Q / c.size * pg := by have := J.len; have := J.cnt; omega
  calc c.live.length * c.size ≤ (Q / c.size * pg) * c.size := Nat.mul_le_mul_right _ h1
    _ = (Q / c.size * c.size) * pg := by rw [Nat.mul_assoc, Nat.mul_comm pg, ← Nat.mul_assoc]
    _ ≤ Q * pg := Nat.mul_le_mul_right _ (Nat.div_mul_le_self _ _)
theorem mapsum_set {f : Cl → Nat} : ∀ {L : List Cl} {i : Nat} {c c2 : Cl}, L[i]? = some c → ((L.set i c2).map f).sum + f c = (L.map f).sum + f c2
  | [], i, c, c2, h => by simp at h
  | x :: L, 0, c, c2, h => by simp at h; subst h; simp; omega
  | x :: L, i + 1, c, c2, h => by
    simp at h
    have := mapsum_set (f := f) (c2 := c2) h
    simp only [List.set_cons_succ, List.map_cons, List.sum_cons]
    omega
end
end Go.Proofs.Ytmoigchjmmjljaa
