/- chain.Chain is a map. -/
import Derived.Test.YtdnjhipgfbhecaaChainP
namespace Go.Proofs.Ytdnjhipgfbhecaa
open Go Go.YtdnjhipgfbhecaaAbs
set_option linter.unusedSimpArgs false
set_option linter.unusedVariables false
set_option maxRecDepth 4000

/-- What a row has at a key. -/
def lookR (k : ByteArray) : List Ent → Option Int
  | [] => none
  | e :: L => if e.1 = k then some e.2 else lookR k L
theorem look_find (k : ByteArray) : ∀ L : List Ent, (findE k L).bind (fun i => (L[i]?).map (·.2)) = lookR k L
  | [] => rfl
  | e :: L => by
    simp only [findE, lookR]
    split
    · rfl
    · rw [← look_find k L]
      cases findE k L <;> simp
theorem get_look (c : Ch) (k : ByteArray) : c.get k = lookR k (c.row (c.sel k)) := look_find k _
theorem look_none {k : ByteArray} : ∀ {L : List Ent}, lookR k L = none ↔ ∀ e : Ent, e ∈ L → e.1 ≠ k
  | [] => by simp [lookR]
  | e :: L => by
    simp only [lookR]
    split
    · rename_i h; simp [h]
    · rename_i h
      rw [look_none (L := L)]
      simp [h]
theorem find_none {k : ByteArray} : ∀ {L : List Ent}, findE k L = none ↔ lookR k L = none
  | [] => by simp [findE, lookR]
  | e :: L => by
    simp only [findE, lookR]
    split
    · simp
    · rw [Option.map_eq_none_iff]; exact find_none
theorem look_append (k : ByteArray) : ∀ L M : List Ent, lookR k (L ++ M) = (lookR k L).or (lookR k M)
  | [], M => by simp [lookR]
  | e :: L, M => by
    simp only [List.cons_append, lookR]
    split
    · rfl
    · exact look_append k L M
theorem look_filter (k : ByteArray) (p : Ent → Bool) : ∀ L : List Ent, (∀ e : Ent, e ∈ L → e.1 = k → p e = true) → lookR k (L.filter p) = lookR k L
  | [], h => rfl
  | e :: L, h => by
    have ih := look_filter k p L (fun x hx => h x (by simp [hx]))
    by_cases hk : e.1 = k
    · rw [List.filter_cons_of_pos (h e (by simp) hk)]
      simp [lookR, hk]
    · by_cases hp : p e = true
      · rw [List.filter_cons_of_pos hp]
        simp [lookR, hk, ih]
      · rw [List.filter_cons_of_neg hp]
        simp [lookR, hk, ih]
/-- No key twice. -/
def Uniq (L : List Ent) : Prop := (L.map (·.1)).Nodup
theorem look_mem {k : ByteArray} {v : Int} : ∀ {L : List Ent}, Uniq L → (lookR k L = some v ↔ (k, v) ∈ L)
  | [], h => by simp [lookR]
  | e :: L, h => by
    unfold Uniq at h
    rw [List.map_cons, List.nodup_cons] at h
    simp only [lookR]
    split
    · rename_i hk
      constructor
      · intro q
        have q := Option.some.inj q
        subst hk; subst q
        simp
      · intro q
        rcases List.mem_cons.1 q with q | q
        · rw [← q]
        · exact absurd (List.mem_map.2 ⟨_, q, rfl⟩) (by rw [← hk]; exact h.1)
    · rename_i hk
      rw [look_mem (L := L) h.2]
      constructor
      · intro q; exact List.mem_cons_of_mem _ q
      · intro q
        rcases List.mem_cons.1 q with q | q
        · exact absurd (by rw [← q]) hk
        · exact q
theorem look_ext {L M : List Ent} (hL : Uniq L) (hM : Uniq M) {k k' : ByteArray} (h : ∀ v, (k, v) ∈ L ↔ (k', v) ∈ M) : lookR k L = lookR k' M := by
  refine Option.ext fun v => ?_
  have h1 := look_mem (k := k) (v := v) hL
  have h2 := look_mem (k := k') (v := v) hM
  exact h1.trans ((h v).trans h2.symm)
theorem uniq_set {L : List Ent} {i : Nat} {e : Ent} {n : Int} (h : Uniq L) (he : L[i]? = some e) : Uniq (L.set i (e.1, n)) := by
  unfold Uniq at *
  rw [List.map_set]
  have : (L.map (·.1)).set i e.1 = L.map (·.1) := set_same (by rw [List.getElem?_map, he]; rfl)
  rw [this]
  exact h
theorem look_set {k : ByteArray} {n : Int} : ∀ {L : List Ent} {i : Nat} {e : Ent}, L[i]? = some e → e.1 = k → findE k L = some i → ∀ k', lookR k' (L.set i (k, n)) = if k' = k then some n else lookR k' L
  | [], i, e, he, hk, hf, k' => by simp at he
  | x :: L, 0, e, he, hk, hf, k' => by
    simp at he
    subst he
    simp only [List.set_cons_zero, lookR]
    by_cases h : k' = k
    · subst h; simp
    · have h2 : ¬ k = k' := fun q => h q.symm
      rw [if_neg h2, if_neg h, if_neg (by rw [hk]; exact h2)]
  | x :: L, i + 1, e, he, hk, hf, k' => by
    simp only [findE] at hf
    split at hf
    · cases hf
    · rename_i hx
      rw [Option.map_eq_some_iff] at hf
      obtain ⟨j, hj, hj'⟩ := hf
      have : j = i := by omega
      subst this
      simp only [List.set_cons_succ, lookR]
      rw [look_set (by simpa using he) hk hj k']
      by_cases h : k' = k
      · subst h
        rw [if_neg hx, if_pos rfl, if_pos rfl]
      · simp [h]
/-- What is left. -/
theorem swapOut_get {L : List Ent} {i : Nat} (h : i < L.length) {m : Nat} (hm : m < L.length - 1) : (swapOut L i)[m]? = if m = i then L[L.length - 1]? else L[m]? := by
  unfold swapOut
  obtain ⟨x, hx⟩ : ∃ x, L[L.length - 1]? = some x := ⟨L[L.length - 1]'(by omega), by simp⟩
  rw [hx, Option.getD_some, List.getElem?_take, if_pos hm]
  by_cases hmi : m = i
  · subst hmi
    rw [if_pos rfl, List.getElem?_set_self h]
  · rw [if_neg hmi, List.getElem?_set_ne (Ne.symm hmi)]
theorem swapOut_mem_iff {L : List Ent} {i : Nat} (h : i < L.length) (e : Ent) : e ∈ swapOut L i ↔ ∃ j, j ≠ i ∧ L[j]? = some e := by
  have hl := swapOut_len h
  constructor
  · intro he
    obtain ⟨m, hm⟩ := List.getElem?_of_mem he
    have hml := (List.getElem?_eq_some_iff.1 hm).1
    rw [hl] at hml
    rw [swapOut_get h hml] at hm
    split at hm
    · rename_i q; exact ⟨L.length - 1, by omega, hm⟩
    · rename_i q; exact ⟨m, q, hm⟩
  · rintro ⟨j, hj, he⟩
    have hjl := (List.getElem?_eq_some_iff.1 he).1
    by_cases hjl' : j = L.length - 1
    · have hm : i < L.length - 1 := by omega
      have := swapOut_get h hm
      rw [if_pos rfl, ← hjl', he] at this
      exact List.mem_of_getElem? this
    · have hm : j < L.length - 1 := by omega
      have := swapOut_get h hm
      rw [if_neg hj, he] at this
      exact List.mem_of_getElem? this
theorem uniq_idx {L : List Ent} (h : Uniq L) {i j : Nat} {e e' : Ent} (hi : L[i]? = some e) (hj : L[j]? = some e') (hk : e.1 = e'.1) : i = j := by
  have h1 : (L.map (·.1))[i]? = some e.1 := by rw [List.getElem?_map, hi]; rfl
  have h2 : (L.map (·.1))[j]? = some e.1 := by rw [List.getElem?_map, hj, hk]; rfl
  have := (List.getElem?_eq_some_iff.1 h1).1
  exact (List.getElem?_inj this h).1 (h1.trans h2.symm)
theorem uniq_swap {L : List Ent} {i : Nat} (h : Uniq L) (hi : i < L.length) : Uniq (swapOut L i) := by
  unfold Uniq List.Nodup
  rw [List.pairwise_iff_getElem]
  intro a b ha hb hab q
  have q : ((swapOut L i).map (·.1))[a]? = ((swapOut L i).map (·.1))[b]? := by rw [List.getElem?_eq_getElem ha, List.getElem?_eq_getElem hb, q]
  rw [List.length_map, swapOut_len hi] at ha hb
  rw [List.getElem?_map, List.getElem?_map, swapOut_get hi ha, swapOut_get hi hb] at q
  have key : ∀ x y, x ≠ y → x < L.length → y < L.length → (L[x]?).map (·.1) ≠ (L[y]?).map (·.1) := fun x y hxy hx hy q => by
    rw [List.getElem?_eq_getElem hx, List.getElem?_eq_getElem hy] at q
    simp at q
    exact hxy (uniq_idx h (List.getElem?_eq_getElem hx) (List.getElem?_eq_getElem hy) q)
  by_cases ha' : a = i
  · rw [if_pos ha', if_neg (by omega)] at q
    exact key _ _ (by omega) (by omega) (by omega) q
  · rw [if_neg ha'] at q
    by_cases hb' : b = i
    · rw [if_pos hb'] at q; exact key _ _ (by omega) (by omega) (by omega) q
    · rw [if_neg hb'] at q; exact key _ _ (by omega) (by omega) (by omega) q
theorem look_swap {L : List Ent} {i : Nat} {e : Ent} (h : Uniq L) (he : L[i]? = some e) (k : ByteArray) : lookR k (swapOut L i) = if k = e.1 then none else lookR k L := by
  have hi := (List.getElem?_eq_some_iff.1 he).1
  by_cases hk : k = e.1
  · rw [if_pos hk, look_none]
    intro x hx q
    obtain ⟨j, hj, hx⟩ := (swapOut_mem_iff hi x).1 hx
    exact hj (uniq_idx h hx he (q.trans hk))
  · rw [if_neg hk]
    refine look_ext (uniq_swap h hi) h fun v => ?_
    rw [swapOut_mem_iff hi]
    constructor
    · rintro ⟨j, _, q⟩; exact List.mem_of_getElem? q
    · intro q
      obtain ⟨j, hj⟩ := List.getElem?_of_mem q
      exact ⟨j, fun z => hk (by subst z; rw [he] at hj; rw [Option.some.inj hj]), hj⟩

/-- Each key in its row; none twice. -/
structure ChM (c : Ch) : Prop where
  pn : ∀ (i : Nat) L, c.now[i]? = some L → ∀ e : Ent, e ∈ L → hsh e.1 % c.now.length = i ∧ (c.old.length ≠ 0 → hsh e.1 % c.old.length < c.moved)
  po : ∀ (i : Nat) L, c.old[i]? = some L → ∀ e : Ent, e ∈ L → hsh e.1 % c.old.length = i
  un : ∀ L, L ∈ c.now ++ c.old → Uniq L
theorem ChM.new : ChM .new := by
  have e : ∀ L, L ∈ Ch.new.now ++ Ch.new.old → L = [] := fun L hL => by simpa [Ch.new] using hL
  refine ⟨fun i L hL x hx => ?_, fun i L hL x hx => ?_, fun L hL => ?_⟩
  · have := e L (List.mem_append.2 (.inl (List.mem_of_getElem? hL))); subst this; cases hx
  · have := e L (List.mem_append.2 (.inr (List.mem_of_getElem? hL))); subst this; cases hx
  · have := e L hL; subst this; exact List.nodup_nil
/-- Where the moved ones go. -/
theorem moves_row : ∀ (l : List Ent) (now : List (List Ent)) (j : Nat), (l.foldl move1 now)[j]? = (now[j]?).map fun L => L ++ l.filter fun e => hsh e.1 % now.length == j
  | [], now, j => by simp
  | e :: l, now, j => by
    rw [List.foldl_cons, moves_row l, move1_len]
    by_cases hj : hsh e.1 % now.length = j
    · subst hj
      by_cases hl : hsh e.1 % now.length < now.length
      · unfold move1
        rw [List.getElem?_set_self hl, List.getElem?_eq_getElem hl]
        simp
      · unfold move1
        rw [List.getElem?_eq_none (by rw [List.length_set]; omega), List.getElem?_eq_none (by omega)]
        rfl
    · unfold move1
      rw [List.getElem?_set_ne hj, List.filter_cons_of_neg (by simpa using hj)]
theorem or_none {α : Type} (a : Option α) : a.or none = a := by cases a <;> rfl
/-- A step changes nothing that is told. -/
theorem step_get {N : Nat} {c : Ch} (I : ChI N c) (M : ChM c) (k : ByteArray) : c.step.get k = c.get k := by
  unfold Ch.step
  by_cases h0 : c.old.length = 0
  · rw [if_pos h0]
  · rw [if_neg h0]
    have hm := I.mv h0
    have n0 := I.n0
    obtain ⟨l, hl⟩ : ∃ l, c.old[c.moved]? = some l := ⟨c.old[c.moved], by simp [hm]⟩
    rw [hl, Option.getD_some]
    have hmod := Nat.mod_lt (hsh k) (Nat.pos_of_ne_zero h0)
    have hmodn := Nat.mod_lt (hsh k) n0
    obtain ⟨r, hr⟩ : ∃ r, c.now[hsh k % c.now.length]? = some r := ⟨c.now[hsh k % c.now.length], by simp [hmodn]⟩
    have nrow := moves_row l c.now (hsh k % c.now.length)
    rw [hr, Option.map_some] at nrow
    have nlen := moves_len l c.now
    -- what stands in the new row
    have lnew : lookR k (r ++ l.filter fun e => hsh e.1 % c.now.length == hsh k % c.now.length) = (lookR k r).or (lookR k l) := by
      rw [look_append, look_filter k _ l fun e _ hek => by rw [hek]; simp]
    have lr : c.moved ≤ hsh k % c.old.length → lookR k r = none := fun q => look_none.2 fun e he hek => by
      have := (M.pn _ r hr e he).2 h0
      rw [hek] at this
      omega
    have ll : hsh k % c.old.length ≠ c.moved → lookR k l = none := fun q => look_none.2 fun e he hek => by
      have := M.po _ l hl e he
      rw [hek] at this
      exact q this
    have nowR : ∀ (o : List (List Ent)) (mv ln : Nat), (0 < o.length → hsh k % o.length < mv) → (Ch.mk (l.foldl move1 c.now) o mv ln).get k = (lookR k r).or (lookR k l) := fun o mv ln q => by
      rw [get_look]
      unfold Ch.sel
      rw [if_neg (fun z => by have := q z.1; have := z.2; simp only at *; omega)]
      unfold Ch.row Ch.rows
      simp only [if_false, Bool.false_eq_true]
      rw [nlen, nrow, Option.getD_some, lnew]
    have was : hsh k % c.old.length < c.moved → c.get k = lookR k r := fun q => by
      rw [get_look]
      unfold Ch.sel
      rw [if_neg (fun z => by omega)]
      unfold Ch.row Ch.rows
      simp only [if_false, Bool.false_eq_true]
      rw [hr, Option.getD_some]
    have wasO : c.moved ≤ hsh k % c.old.length → c.get k = lookR k ((c.old[hsh k % c.old.length]?).getD []) := fun q => by
      rw [get_look]
      unfold Ch.sel
      rw [if_pos ⟨Nat.pos_of_ne_zero h0, q⟩]
      rfl
    by_cases h1 : c.moved + 1 = c.old.length
    · rw [if_pos h1, nowR [] 0 c.len (fun q => absurd q (Nat.lt_irrefl _))]
      by_cases h2 : c.moved ≤ hsh k % c.old.length
      · have : hsh k % c.old.length = c.moved := by omega
        rw [wasO h2, this, hl, Option.getD_some, lr h2]
        rfl
      · rw [was (by omega), ll (by omega), or_none]
    · rw [if_neg h1]
      by_cases h2 : c.moved + 1 ≤ hsh k % c.old.length
      · rw [wasO (by omega), get_look]
        unfold Ch.sel
        rw [if_pos ⟨by simp; omega, by simpa using h2⟩]
        unfold Ch.row Ch.rows
        simp only [if_true, List.length_set]
        rw [List.getElem?_set_ne (by omega)]
      · rw [nowR (c.old.set c.moved []) (c.moved + 1) c.len (fun _ => by rw [List.length_set]; omega)]
        by_cases h3 : c.moved ≤ hsh k % c.old.length
        · have : hsh k % c.old.length = c.moved := by omega
          rw [wasO h3, this, hl, Option.getD_some, lr h3]
          rfl
        · rw [was (by omega), ll (by omega), or_none]
theorem uniq_append {L M : List Ent} (hL : Uniq L) (hM : Uniq M) (h : ∀ e : Ent, e ∈ L → ∀ e' : Ent, e' ∈ M → e.1 ≠ e'.1) : Uniq (L ++ M) := by
  unfold Uniq
  rw [List.map_append, List.nodup_append]
  refine ⟨hL, hM, fun a ha b hb => ?_⟩
  obtain ⟨e, he, rfl⟩ := List.mem_map.1 ha
  obtain ⟨e', he', rfl⟩ := List.mem_map.1 hb
  exact h e he e' he'
theorem ChM.step {N : Nat} {c : Ch} (I : ChI N c) (M : ChM c) : ChM c.step := by
  unfold Ch.step
  by_cases h0 : c.old.length = 0
  · rw [if_pos h0]; exact M
  · rw [if_neg h0]
    have hm := I.mv h0
    obtain ⟨l, hl⟩ : ∃ l, c.old[c.moved]? = some l := ⟨c.old[c.moved], by simp [hm]⟩
    rw [hl, Option.getD_some]
    have nlen := moves_len l c.now
    have newP : ∀ (i : Nat) L, (l.foldl move1 c.now)[i]? = some L → ∃ r, c.now[i]? = some r ∧ L = r ++ l.filter fun e => hsh e.1 % c.now.length == i := fun i L hL => by
      rw [moves_row] at hL
      rw [Option.map_eq_some_iff] at hL
      obtain ⟨r, h1, h2⟩ := hL
      exact ⟨r, h1, h2.symm⟩
    have ul : Uniq l := M.un l (List.mem_append.2 (.inr (List.mem_of_getElem? hl)))
    have uN : ∀ L, L ∈ l.foldl move1 c.now → Uniq L := fun L hL => by
      obtain ⟨i, hi⟩ := List.getElem?_of_mem hL
      obtain ⟨r, h1, rfl⟩ := newP i L hi
      refine uniq_append (M.un r (List.mem_append.2 (.inl (List.mem_of_getElem? h1)))) ?_ fun e he e' he' q => ?_
      · unfold Uniq
        exact List.Nodup.sublist (List.Sublist.map _ List.filter_sublist) ul
      · have a1 := (M.pn i r h1 e he).2 h0
        have a2 := M.po _ l hl e' (List.mem_filter.1 he').1
        rw [q] at a1
        omega
    have pN : ∀ (i : Nat) L, (l.foldl move1 c.now)[i]? = some L → ∀ e : Ent, e ∈ L → hsh e.1 % c.now.length = i ∧ hsh e.1 % c.old.length < c.moved + 1 := fun i L hL e he => by
      obtain ⟨r, h1, rfl⟩ := newP i L hL
      rcases List.mem_append.1 he with q | q
      · have := M.pn i r h1 e q
        exact ⟨this.1, by have := this.2 h0; omega⟩
      · obtain ⟨q1, q2⟩ := List.mem_filter.1 q
        have := M.po _ l hl e q1
        exact ⟨by simpa using q2, by omega⟩
    by_cases h1 : c.moved + 1 = c.old.length
    · rw [if_pos h1]
      refine ⟨fun i L hL e he => ?_, fun i L hL => by simp at hL, fun L hL => uN L (by simpa using hL)⟩
      simp only at hL ⊢
      rw [nlen]
      exact ⟨(pN i L hL e he).1, fun q => absurd rfl q⟩
    · rw [if_neg h1]
      refine ⟨fun i L hL e he => ?_, fun i L hL e he => ?_, fun L hL => ?_⟩
      · simp only at hL ⊢
        rw [nlen, List.length_set]
        exact ⟨(pN i L hL e he).1, fun _ => (pN i L hL e he).2⟩
      · simp only at hL ⊢
        rw [List.length_set]
        by_cases hi : i = c.moved
        · subst hi
          rw [List.getElem?_set_self hm] at hL
          cases hL; cases he
        · rw [List.getElem?_set_ne (Ne.symm hi)] at hL
          exact M.po i L hL e he
      · rcases List.mem_append.1 hL with q | q
        · exact uN L q
        · rcases List.mem_or_eq_of_mem_set q with q | rfl
          · exact M.un L (List.mem_append.2 (.inr q))
          · exact List.nodup_nil
/-- A row is set: what is told then. -/
theorem setRow_get {c : Ch} (n0 : 0 < c.now.length) (key : ByteArray) (L' : List Ent) (m : Nat) (k : ByteArray) :
    (Ch.mk (c.setRow (c.sel key) L').now (c.setRow (c.sel key) L').old (c.setRow (c.sel key) L').moved m).get k = if c.sel k = c.sel key then lookR k L' else c.get k := by
  have q := setRow_len c (c.sel key) L'
  rw [get_look, get_look]
  have hs : (Ch.mk (c.setRow (c.sel key) L').now (c.setRow (c.sel key) L').old (c.setRow (c.sel key) L').moved m).sel k = c.sel k := by
    generalize c.sel key = s at *
    unfold Ch.sel
    simp only [q.1, q.2.1, q.2.2.1]
  rw [hs]
  have hr : ∀ t, (Ch.mk (c.setRow (c.sel key) L').now (c.setRow (c.sel key) L').old (c.setRow (c.sel key) L').moved m).rows t = if t = (c.sel key).1 then (c.rows t).set (c.sel key).2 L' else c.rows t := fun t => by
    rw [← rows_set]; rfl
  unfold Ch.row
  rw [hr]
  by_cases h : c.sel k = c.sel key
  · rw [if_pos h, h, if_pos rfl, List.getElem?_set_self (sel_lt n0 key), Option.getD_some]
  · rw [if_neg h]
    by_cases h1 : (c.sel k).1 = (c.sel key).1
    · rw [if_pos h1, List.getElem?_set_ne (fun z => h (Prod.ext h1 z.symm))]
    · rw [if_neg h1]
theorem setRow_ChM {c : Ch} (n0 : 0 < c.now.length) (M : ChM c) (key : ByteArray) {L' : List Ent} (m : Nat) (hu : Uniq L') (hp : ∀ e : Ent, e ∈ L' → e ∈ c.row (c.sel key) ∨ e.1 = key ∨ ∃ e', e' ∈ c.row (c.sel key) ∧ e'.1 = e.1) :
    ChM (Ch.mk (c.setRow (c.sel key) L').now (c.setRow (c.sel key) L').old (c.setRow (c.sel key) L').moved m) := by
  have q := setRow_len c (c.sel key) L'
  have hrow := pos_row c key n0
  have get : ∀ t (i : Nat) L, (Ch.mk (c.setRow (c.sel key) L').now (c.setRow (c.sel key) L').old (c.setRow (c.sel key) L').moved m).rows t = (c.setRow (c.sel key) L').rows t ∧ (((c.setRow (c.sel key) L').rows t)[i]? = some L → (t = (c.sel key).1 ∧ i = (c.sel key).2 ∧ L = L') ∨ (c.rows t)[i]? = some L) := fun t i L => ⟨rfl, fun hL => by
    rw [rows_set] at hL
    by_cases h1 : t = (c.sel key).1
    · rw [if_pos h1] at hL
      by_cases h2 : i = (c.sel key).2
      · subst h2
        rw [h1, List.getElem?_set_self (sel_lt n0 key)] at hL
        exact .inl ⟨h1, rfl, (Option.some.inj hL).symm⟩
      · rw [List.getElem?_set_ne (Ne.symm h2)] at hL
        exact .inr hL
    · rw [if_neg h1] at hL
      exact .inr hL⟩
  have place : ∀ e : Ent, e ∈ L' → ∃ k : ByteArray, k = e.1 ∧ (k = key ∨ ∃ e', e' ∈ c.row (c.sel key) ∧ e'.1 = k) := fun e he => by
    rcases hp e he with z | z | ⟨e', z1, z2⟩
    · exact ⟨e.1, rfl, .inr ⟨e, z, rfl⟩⟩
    · exact ⟨e.1, rfl, .inl z⟩
    · exact ⟨e.1, rfl, .inr ⟨e', z1, z2⟩⟩
  refine ⟨fun i L hL e he => ?_, fun i L hL e he => ?_, fun L hL => ?_⟩
  · simp only [q.1, q.2.1, q.2.2.1]
    have hL : ((c.setRow (c.sel key) L').rows false)[i]? = some L := hL
    rcases (get false i L).2 hL with ⟨h1, h2, rfl⟩ | h
    · obtain ⟨k, rfl, hk⟩ := place e he
      rcases hk with hk | ⟨e', hk1, hk2⟩
      · rw [hk]
        unfold Ch.sel at h1 h2
        split at h1
        · cases h1
        · rename_i hs
          rw [if_neg hs] at h2
          exact ⟨h2.symm, fun z => by
            have : 0 < c.old.length := by omega
            have : ¬ c.moved ≤ hsh key % c.old.length := fun w => hs ⟨this, w⟩
            omega⟩
      · have hrow' : c.now[(c.sel key).2]? = some (c.row (c.sel key)) := by rw [← h1] at hrow; exact hrow
        have := M.pn _ _ hrow' e' hk1
        rw [hk2, ← h2] at this
        exact this
    · exact M.pn i L h e he
  · simp only [q.2.1]
    have hL : ((c.setRow (c.sel key) L').rows true)[i]? = some L := hL
    rcases (get true i L).2 hL with ⟨h1, h2, rfl⟩ | h
    · obtain ⟨k, rfl, hk⟩ := place e he
      rcases hk with hk | ⟨e', hk1, hk2⟩
      · rw [hk]
        unfold Ch.sel at h1 h2
        split at h1
        · rename_i hs
          rw [if_pos hs] at h2
          exact h2.symm
        · cases h1
      · have hrow' : c.old[(c.sel key).2]? = some (c.row (c.sel key)) := by rw [← h1] at hrow; exact hrow
        have := M.po _ _ hrow' e' hk1
        rw [hk2, ← h2] at this
        exact this
    · exact M.po i L h e he
  · obtain ⟨t, i, hi⟩ := mem_rows.1 hL
    have hi : ((c.setRow (c.sel key) L').rows t)[i]? = some L := hi
    rcases (get t i L).2 hi with ⟨_, _, rfl⟩ | h
    · exact hu
    · exact M.un L (mem_rows.2 ⟨t, i, h⟩)
theorem rep_none (n i : Nat) : ((List.replicate n ([] : List Ent))[i]?).getD [] = [] := by
  rw [List.getElem?_replicate]; split <;> rfl
theorem grow_get {N : Nat} {c : Ch} (I : ChI N c) (k : ByteArray) : c.grow.get k = c.get k := by
  unfold Ch.grow
  split
  · rename_i h
    have n0 := I.n0
    have hm := I.m0 h.1
    rw [get_look, get_look]
    have h1 : (Ch.mk (List.replicate (2 * c.now.length) []) c.now c.moved c.len).sel k = (true, hsh k % c.now.length) := by
      unfold Ch.sel
      rw [if_pos ⟨n0, by simp only; omega⟩]
    have h2 : c.sel k = (false, hsh k % c.now.length) := by
      unfold Ch.sel
      rw [if_neg (fun z => by omega)]
    rw [h1, h2]
    rfl
  · rfl
theorem ChM.grow {N : Nat} {c : Ch} (I : ChI N c) (M : ChM c) : ChM c.grow := by
  unfold Ch.grow
  split
  · refine ⟨fun i L hL e he => ?_, fun i L hL e he => (M.pn i L hL e he).1, fun L hL => ?_⟩
    · have := List.eq_of_mem_replicate (List.mem_of_getElem? hL)
      subst this; cases he
    · rcases List.mem_append.1 hL with q | q
      · have := List.eq_of_mem_replicate q
        subst this; exact List.nodup_nil
      · exact M.un L (List.mem_append.2 (.inl q))
  · exact M

/-- Put. -/
theorem put_map {N : Nat} {c : Ch} (I : ChI N c) (M : ChM c) {key : ByteArray} (hk : key.size ≤ 1000) (n : Int) :
    (c.put key n).1 = (c.get key).isNone ∧ ChM (c.put key n).2 ∧ ∀ k, (c.put key n).2.get k = if k = key then some n else c.get k := by
  have I1 := I.step
  have M1 := M.step I
  have G := step_get I M
  unfold Ch.put
  have key0 : ∀ k, c.get k = c.step.get k := fun k => (G k).symm
  simp only [key0]
  clear key0 G
  generalize c.step = c1 at *
  have n0 := I1.n0
  have hrow := pos_row c1 key n0
  have hu : Uniq (c1.row (c1.sel key)) := M1.un _ (mem_rows.2 ⟨_, _, hrow⟩)
  unfold Ch.put1
  cases hf : findE key (c1.row (c1.sel key)) with
  | some i =>
    obtain ⟨e, he, hek⟩ := findE_lt hf
    simp only
    have hsome : c1.get key ≠ none := by
      rw [get_look]
      intro q
      rw [find_none.2 q] at hf; cases hf
    have e1 : c1.setRow (c1.sel key) ((c1.row (c1.sel key)).set i (key, n)) = Ch.mk (c1.setRow (c1.sel key) ((c1.row (c1.sel key)).set i (key, n))).now (c1.setRow (c1.sel key) ((c1.row (c1.sel key)).set i (key, n))).old (c1.setRow (c1.sel key) ((c1.row (c1.sel key)).set i (key, n))).moved (c1.setRow (c1.sel key) ((c1.row (c1.sel key)).set i (key, n))).len := rfl
    refine ⟨?_, ?_, fun k => ?_⟩
    · cases hg : c1.get key with
      | none => exact absurd hg hsome
      | some x => rfl
    · rw [e1]
      refine setRow_ChM n0 M1 key _ (by have := uniq_set (n := n) hu he; rw [hek] at this; exact this) fun x hx => ?_
      rcases List.mem_or_eq_of_mem_set hx with q | rfl
      · exact .inl q
      · exact .inr (.inl rfl)
    · rw [e1, setRow_get n0 key]
      have ls := look_set (n := n) he hek hf k
      by_cases hs : c1.sel k = c1.sel key
      · rw [if_pos hs, ls]
        by_cases hkk : k = key
        · rw [if_pos hkk, if_pos hkk]
        · rw [if_neg hkk, if_neg hkk, get_look, hs]
      · rw [if_neg hs, if_neg (fun q => hs (by rw [q]))]
  | none =>
    simp only
    have hnone := find_none.1 hf
    have hadd : c1.add key n = Ch.mk (c1.setRow (c1.sel key) (c1.row (c1.sel key) ++ [(key, n)])).now (c1.setRow (c1.sel key) (c1.row (c1.sel key) ++ [(key, n)])).old (c1.setRow (c1.sel key) (c1.row (c1.sel key) ++ [(key, n)])).moved (c1.len + 1) := rfl
    have rk := row_keys I1 key
    have I2 : ChI (N + 1) (c1.add key n) := ChI.setRow I1 key (L' := c1.row (c1.sel key) ++ [(key, n)]) (m := c1.len + 1) (fun e he => by
      rcases List.mem_append.1 he with q | q
      · exact rk e q
      · rw [List.mem_singleton.1 q]; exact hk) (by rw [List.length_append, List.length_singleton]; omega) (by have := I1.len; omega)
    have M2 : ChM (c1.add key n) := by
      rw [hadd]
      refine setRow_ChM n0 M1 key _ (uniq_append hu (by simp [Uniq]) fun e he e' he' q => ?_) fun x hx => ?_
      · rw [List.mem_singleton.1 he'] at q
        exact look_none.1 hnone e he q
      · rcases List.mem_append.1 hx with q | q
        · exact .inl q
        · rw [List.mem_singleton.1 q]; exact .inr (.inl rfl)
    refine ⟨?_, M2.grow I2, fun k => ?_⟩
    · rw [get_look, hnone]; rfl
    · rw [grow_get I2, hadd, setRow_get n0 key]
      by_cases hs : c1.sel k = c1.sel key
      · rw [if_pos hs, look_append, get_look, hs]
        by_cases hkk : k = key
        · subst hkk; rw [if_pos rfl, hnone]; simp [lookR]
        · rw [if_neg hkk]
          have : ¬ key = k := fun q => hkk q.symm
          simp [lookR, this]
      · rw [if_neg hs, if_neg (fun q => hs (by rw [q]))]
/-- Drop. -/
theorem drop_map {N : Nat} {c : Ch} (I : ChI N c) (M : ChM c) (key : ByteArray) :
    (c.drop key).1 = (c.get key).isSome ∧ ChM (c.drop key).2 ∧ ∀ k, (c.drop key).2.get k = if k = key then none else c.get k := by
  have I1 := I.step
  have M1 := M.step I
  have G := step_get I M
  unfold Ch.drop
  have key0 : ∀ k, c.get k = c.step.get k := fun k => (G k).symm
  simp only [key0]
  clear key0 G
  generalize c.step = c1 at *
  have n0 := I1.n0
  have hrow := pos_row c1 key n0
  have hu : Uniq (c1.row (c1.sel key)) := M1.un _ (mem_rows.2 ⟨_, _, hrow⟩)
  unfold Ch.drop1
  cases hf : findE key (c1.row (c1.sel key)) with
  | some i =>
    obtain ⟨e, he, hek⟩ := findE_lt hf
    have hi := (List.getElem?_eq_some_iff.1 he).1
    simp only
    refine ⟨?_, ?_, fun k => ?_⟩
    · cases hg : c1.get key with
      | none => rw [get_look] at hg; rw [find_none.2 hg] at hf; cases hf
      | some x => rfl
    · exact setRow_ChM n0 M1 key _ (uniq_swap hu hi) fun x hx => .inl (swapOut_mem hx)
    · rw [setRow_get n0 key]
      have ls := look_swap hu he k
      rw [hek] at ls
      by_cases hs : c1.sel k = c1.sel key
      · rw [if_pos hs, ls]
        by_cases hkk : k = key
        · rw [if_pos hkk, if_pos hkk]
        · rw [if_neg hkk, if_neg hkk, get_look, hs]
      · rw [if_neg hs, if_neg (fun q => hs (by rw [q]))]
  | none =>
    simp only
    have hnone := find_none.1 hf
    refine ⟨?_, M1, fun k => ?_⟩
    · rw [get_look, hnone]; rfl
    · by_cases hkk : k = key
      · subst hkk; rw [if_pos rfl, get_look, hnone]
      · rw [if_neg hkk]
theorem new_get (k : ByteArray) : Ch.new.get k = none := by
  rw [get_look]
  have h : Ch.new.sel k = (false, hsh k % 4) := rfl
  rw [h]
  have : Ch.new.row (false, hsh k % 4) = [] := rep_none 4 (hsh k % 4)
  rw [this]
  rfl
end Go.Proofs.Ytdnjhipgfbhecaa
