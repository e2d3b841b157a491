/- chain.Chain beside a row of keys and one of numbers. -/
import Derived.Test.YtdnjhipgfbhecaaChainG
import Derived.Test.YtdnjhipgfbhecaaTell
import Derived.Test.YtdnjhipgfbhecaaAbsO2
namespace Go.Proofs.Ytdnjhipgfbhecaa
open Go Go.YtdnjhipgfbhecaaAbs
set_option linter.unusedSimpArgs false
set_option linter.unusedVariables false
set_option maxRecDepth 4000

theorem drop_len (c : Ch) (key : ByteArray) : (c.drop key).2.len = if (c.drop key).1 = true then c.len - 1 else c.len := by
  unfold Ch.drop Ch.drop1
  rw [← step_len c]
  generalize c.step = c
  split
  · simp
  · simp
/-- Keys and numbers that were told. -/
structure MapI (c : Ch) (ks : List ByteArray) (ns : List Int) : Prop where
  nd : ks.Nodup
  len : ns.length = ks.length
  cl : c.len = ks.length
  has : ∀ (j : Nat) (k : ByteArray) (n : Int), ks[j]? = some k → ns[j]? = some n → c.get k = some n
  no : ∀ k, k ∉ ks → c.get k = none
theorem MapI.new : MapI .new [] [] := ⟨List.nodup_nil, rfl, rfl, fun j k n hk => by simp at hk, fun k _ => new_get k⟩
section
variable {N : Nat} {c : Ch} {ks : List ByteArray} {ns : List Int} {key : ByteArray}
theorem MapI.isSome (T : MapI c ks ns) (h : key ∈ ks) : ∃ n, c.get key = some n := by
  obtain ⟨j, hj⟩ := List.getElem?_of_mem h
  have hl := (List.getElem?_eq_some_iff.1 hj).1
  have : j < ns.length := by rw [T.len]; exact hl
  exact ⟨ns[j], T.has j key ns[j] hj (by simp [this])⟩
theorem nodup_idx {α : Type} {l : List α} (h : l.Nodup) {i j : Nat} {x : α} (hi : l[i]? = some x) (hj : l[j]? = some x) : i = j := by
  have h1 := (List.getElem?_eq_some_iff.1 hi).1
  have h2 := (List.getElem?_eq_some_iff.1 hj).1
  refine (List.getElem?_inj h1 h).1 (by rw [hi, hj])
theorem MapI.putNew (I : ChI N c) (M : ChM c) (T : MapI c ks ns) (hs : key.size ≤ 1000) (h : key ∉ ks) (n : Int) : (c.put key n).1 = true ∧ ChM (c.put key n).2 ∧ MapI (c.put key n).2 (ks ++ [key]) (ns ++ [n]) := by
  obtain ⟨p1, p2, p3⟩ := put_map I M hs n
  have hg := T.no key h
  rw [hg] at p1
  have pl := put_len c key n
  rw [p1] at pl
  refine ⟨p1, p2, ?_, by simp [T.len], by rw [pl, T.cl]; simp, fun j k m hk hm => ?_, fun k hk => ?_⟩
  · rw [List.nodup_append]
    exact ⟨T.nd, by simp, fun a ha b hb q => h (by rw [List.mem_singleton.1 hb] at q; rw [← q]; exact ha)⟩
  · rw [p3]
    rw [List.getElem?_append] at hk hm
    rw [T.len] at hm
    split at hk
    · rename_i hj
      rw [if_pos hj] at hm
      rw [if_neg (fun q => h (by rw [← q]; exact List.mem_of_getElem? hk))]
      exact T.has j k m hk hm
    · rename_i hj
      rw [if_neg hj] at hm
      have e := (List.getElem?_eq_some_iff.1 hk).1
      have e0 : j - ks.length = 0 := by simp at e; exact e
      rw [e0] at hk hm
      simp at hk hm
      rw [if_pos hk.symm, hm]
  · rw [p3]
    rw [List.mem_append, not_or] at hk
    rw [if_neg (fun q => hk.2 (by rw [q]; simp))]
    exact T.no k hk.1
theorem MapI.putOld (I : ChI N c) (M : ChM c) (T : MapI c ks ns) (hs : key.size ≤ 1000) {i : Nat} (h : ks[i]? = some key) (n : Int) : (c.put key n).1 = false ∧ ChM (c.put key n).2 ∧ MapI (c.put key n).2 ks (ns.set i n) := by
  obtain ⟨p1, p2, p3⟩ := put_map I M hs n
  obtain ⟨m, hg⟩ := T.isSome (List.mem_of_getElem? h)
  rw [hg] at p1
  have pl := put_len c key n
  rw [p1] at pl
  have hi := (List.getElem?_eq_some_iff.1 h).1
  refine ⟨p1, p2, T.nd, by simp [T.len], by rw [pl, T.cl]; simp, fun j k m hk hm => ?_, fun k hk => ?_⟩
  · rw [p3]
    by_cases hij : i = j
    · subst hij
      rw [h] at hk; cases hk
      rw [List.getElem?_set_self (by rw [T.len]; exact hi)] at hm
      rw [if_pos rfl, hm]
    · rw [List.getElem?_set_ne hij] at hm
      rw [if_neg (fun q => hij (nodup_idx T.nd h (by rw [← q]; exact hk)))]
      exact T.has j k m hk hm
  · rw [p3, if_neg (fun q => hk (by rw [q]; exact List.mem_of_getElem? h))]
    exact T.no k hk
theorem MapI.dropNew (I : ChI N c) (M : ChM c) (T : MapI c ks ns) (h : key ∉ ks) : (c.drop key).1 = false ∧ ChM (c.drop key).2 ∧ MapI (c.drop key).2 ks ns := by
  obtain ⟨p1, p2, p3⟩ := drop_map I M key
  have hg := T.no key h
  rw [hg] at p1
  have pl := drop_len c key
  rw [p1] at pl
  refine ⟨p1, p2, T.nd, T.len, by rw [pl, T.cl]; simp, fun j k m hk hm => ?_, fun k hk => ?_⟩
  · rw [p3, if_neg (fun q => h (by rw [← q]; exact List.mem_of_getElem? hk))]
    exact T.has j k m hk hm
  · rw [p3]
    split
    · rfl
    · exact T.no k hk
theorem MapI.dropOld (I : ChI N c) (M : ChM c) (T : MapI c ks ns) {i : Nat} (h : ks[i]? = some key) : (c.drop key).1 = true ∧ ChM (c.drop key).2 ∧ MapI (c.drop key).2 (ks.take i ++ ks.drop (i + 1)) (ns.take i ++ ns.drop (i + 1)) := by
  obtain ⟨p1, p2, p3⟩ := drop_map I M key
  obtain ⟨m, hg⟩ := T.isSome (List.mem_of_getElem? h)
  rw [hg] at p1
  have pl := drop_len c key
  rw [p1] at pl
  have hi := (List.getElem?_eq_some_iff.1 h).1
  rw [← List.eraseIdx_eq_take_drop_succ, ← List.eraseIdx_eq_take_drop_succ]
  refine ⟨p1, p2, T.nd.sublist (List.eraseIdx_sublist _ _), by rw [List.length_eraseIdx, List.length_eraseIdx, T.len], ?_, fun j k m hk hm => ?_, fun k hk => ?_⟩
  · rw [pl, T.cl, List.length_eraseIdx, if_pos hi]; simp
  · rw [List.getElem?_eraseIdx] at hk hm
    rw [p3]
    split at hk
    · rename_i hj
      rw [if_pos hj] at hm
      rw [if_neg (fun q => by have := nodup_idx T.nd h (by rw [← q]; exact hk); omega)]
      exact T.has j k m hk hm
    · rename_i hj
      rw [if_neg hj] at hm
      rw [if_neg (fun q => by have := nodup_idx T.nd h (by rw [← q]; exact hk); omega)]
      exact T.has (j + 1) k m hk hm
  · rw [p3]
    by_cases hkk : k = key
    · rw [if_pos hkk]
    · rw [if_neg hkk]
      refine T.no k fun q => hk ?_
      obtain ⟨j, hj⟩ := List.getElem?_of_mem q
      have hne : j ≠ i := fun z => by rw [z, h] at hj; exact hkk (Option.some.inj hj).symm
      rw [List.mem_eraseIdx_iff_getElem?]
      exact ⟨j, hne, hj⟩
end

def sv (k : ByteArray) : AV := .str k
def nv (n : Int) : AV := .int .i64 n
/-- A table, keys, numbers and what is told, each in memory of its own. -/
structure MS (h : Heap) (b : Nat) (c : Ch) (vn vo : AV) (rn ro : List AV) (ks : List ByteArray) (ns : List Int) (A : List It) (vk vm va : AV) : Prop where
  o : ChO h b c vn vo rn ro
  k : Mine 1 ks.length h vk (ks.map sv)
  n : Mine 1 ns.length h vm (ns.map nv)
  a : Mine 3 A.length h va (cat itC A)
  fk : ∀ d, Has vk d → d ∉ fpC b vn vo rn ro
  fn : ∀ d, Has vm d → d ∉ fpC b vn vo rn ro
  fa : ∀ d, Has va d → d ∉ fpC b vn vo rn ro
  kn : ∀ d, Has vk d → ¬ Has vm d
  ka : ∀ d, Has vk d → ¬ Has va d
  na : ∀ d, Has vm d → ¬ Has va d
section
variable {h h' : Heap} {b : Nat} {c c' : Ch} {vn vo vn' vo' : AV} {rn ro rn' ro' : List AV} {ks ks' : List ByteArray} {ns ns' : List Int} {A : List It} {vk vm va vk' vm' : AV}
theorem MS.ext (S : MS h b c vn vo rn ro ks ns A vk vm va) (K : Keep h.next nob h h') : MS h' b c vn vo rn ro ks ns A vk vm va :=
  ⟨S.o.ext K, S.k.ext K, S.n.ext K, S.a.ext K, S.fk, S.fn, S.fa, S.kn, S.ka, S.na⟩
/-- The table is turned. -/
theorem MS.chain (S : MS h b c vn vo rn ro ks ns A vk vm va) (O : ChO h' b c' vn' vo' rn' ro') (f : ∀ d, d ∈ fpC b vn' vo' rn' ro' → d ∈ fpC b vn vo rn ro ∨ h.next ≤ d) (K : Keep h.next (fun d => d ∈ fpC b vn vo rn ro) h h') :
    MS h' b c' vn' vo' rn' ro' ks ns A vk vm va := by
  have key : ∀ {v : AV} {sz n : Nat} {l : List AV}, Mine sz n h v l → (∀ d, Has v d → d ∉ fpC b vn vo rn ro) → ∀ d, Has v d → d ∉ fpC b vn' vo' rn' ro' := fun M hf d hd q => by
    rcases f d q with z | z
    · exact hf d hd z
    · have := M.lt hd; omega
  exact ⟨O, S.k.keep K S.fk, S.n.keep K S.fn, S.a.keep K S.fa, key S.k S.fk, key S.n S.fn, key S.a S.fa, S.kn, S.ka, S.na⟩
/-- The keys and the numbers are new, in new memory or in that of their own. -/
theorem MS.both (S : MS h b c vn vo rn ro ks ns A vk vm va) (Mk : Mine 1 ks'.length h' vk' (ks'.map sv)) (Mn : Mine 1 ns'.length h' vm' (ns'.map nv)) (K : Keep h.next (fun d => Has vk d ∨ Has vm d) h h')
    (fk : From h vk vk') (fn : From h vm vm') (kn : ∀ d, Has vk' d → ¬ Has vm' d) : MS h' b c vn vo rn ro ks' ns' A vk' vm' va := by
  refine ⟨S.o.keep K fun d hd q => ?_, Mk, Mn, S.a.keep K fun d hd q => ?_, fun d hd q => ?_, fun d hd q => ?_, S.fa, kn, fun d hd q => ?_, fun d hd q => ?_⟩
  · rcases q with q | q
    · exact S.fk d q hd
    · exact S.fn d q hd
  · rcases q with q | q
    · exact S.ka d q hd
    · exact S.na d q hd
  · rcases fk d hd with z | z
    · exact S.fk d z q
    · have := S.o.fp_lt q; omega
  · rcases fn d hd with z | z
    · exact S.fn d z q
    · have := S.o.fp_lt q; omega
  · rcases fk d hd with z | z
    · exact S.ka d z q
    · have := S.a.lt q; omega
  · rcases fn d hd with z | z
    · exact S.na d z q
    · have := S.a.lt q; omega
/-- One more is told. -/
theorem MS.more (S : MS h b c vn vo rn ro ks ns A vk vm va) {x : It} {va' : AV} (M : Mine 3 (A.length + 1) h' va' (cat itC A ++ itC x)) (Fr : From h va va') (K : Keep h.next (Has va) h h') : MS h' b c vn vo rn ro ks ns (A ++ [x]) vk vm va' := by
  refine ⟨S.o.keep K fun d hd q => S.fa d q hd, S.k.keep K fun d hd q => S.ka d hd q, S.n.keep K fun d hd q => S.na d hd q, ?_, S.fk, S.fn, fun d hd q => ?_, S.kn, fun d hd q => ?_, fun d hd q => ?_⟩
  · rw [cat_append, cat_one, List.length_append, List.length_singleton]; exact M
  · rcases Fr d hd with z | z
    · exact S.fa d z q
    · have := S.o.fp_lt q; omega
  · rcases Fr d q with z | z
    · exact S.ka d hd z
    · have := S.k.lt hd; omega
  · rcases Fr d q with z | z
    · exact S.na d hd z
    · have := S.n.lt hd; omega
theorem MS.flds (S : MS h b c vn vo rn ro ks ns A vk vm va) {i : Nat} {x : It} (hx : A[i]? = some x) : aindex Try.prog 39 va (.int .i64 (i : Nat)) = some (.ptr va.blk (va.off + i * 3)) ∧
    aload Try.prog h 3 va.blk (va.off + i * 3) = some (.int .i64 x.1) ∧ aload Try.prog h 3 va.blk (va.off + i * 3 + 1) = some (.int .i64 x.2.1) ∧ aload Try.prog h 9 va.blk (va.off + i * 3 + 2) = some (.str x.2.2.1) := by
  have hi := (List.getElem?_eq_some_iff.1 hx).1
  refine ⟨S.a.sl.idx (P := Try.prog) Try.underlying39 ts43 hi .i64, ?_, ?_, ?_⟩
  · exact S.a.sl.ld ta3 (j := i * 3) (by have := cat_get itC_len hx (o := 0) (by omega); exact this)
  · rw [Nat.add_assoc]
    exact S.a.sl.ld ta3 (by have := cat_get itC_len hx (o := 1) (by omega); exact this)
  · rw [Nat.add_assoc]
    exact S.a.sl.ld ta9 (by have := cat_get itC_len hx (o := 2) (by omega); exact this)
end
end Go.Proofs.Ytdnjhipgfbhecaa
