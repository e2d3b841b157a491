/- Rows of numbers and of texts, as arguments have them. -/
import Derived.Test.YtcgafaecdjbmiaaBytes
import Derived.Test.YtcgafaecdjbmiaaAbsU
namespace Go.Proofs.Ytcgafaecdjbmiaa
open Go Go.YtcgafaecdjbmiaaAbs
set_option linter.unusedSimpArgs false
set_option linter.unusedVariables false

theorem rdl_map {α : Type} {K : Kind α} {f : α → AV} (hs : K.sz = 1) (hf : ∀ h cs x, K.rd h cs x → cs = [f x]) {h : Heap} {cs : List AV} {xs : List α} (r : RdL K h cs xs) : cs = xs.map f := by
  obtain ⟨r1, r2⟩ := r
  rw [hs, Nat.mul_one] at r1
  refine List.ext_getElem? fun j => ?_
  rw [List.getElem?_map]
  cases hx : xs[j]? with
  | none =>
    rw [List.getElem?_eq_none]
    · rfl
    · have := List.getElem?_eq_none_iff.1 hx
      omega
  | some x =>
    have := hf _ _ _ (r2 j x hx)
    rw [hs, Nat.mul_one] at this
    have e := congrArg (·[0]?) this
    simp only [List.getElem?_take, List.getElem?_drop] at e
    simpa using e
theorem sla_map {α : Type} {K : Kind α} {f : α → AV} (hs : K.sz = 1) (hf : ∀ h cs x, K.rd h cs x → cs = [f x]) {h : Heap} {v : AV} {xs : List α} (r : SlA K h v xs) : Sl 1 xs.length h v (xs.map f) ∧ ∀ x ∈ xs, ∃ h cs, K.rd h cs x := by
  obtain ⟨c, c1, c2⟩ := r.sl
  refine ⟨?_, fun x hx => ?_⟩
  · rw [rdl_map hs hf c2] at c1
    rw [hs] at c1
    exact c1
  · obtain ⟨j, hj⟩ := List.getElem?_of_mem hx
    exact ⟨_, _, c2.2 j x hj⟩
/-- Numbers. -/
def ii (n : Int) : AV := .int .i64 n
theorem sla_ints {h : Heap} {v : AV} {xs : List Int} (r : SlA (kInt .i64) h v xs) : Sl 1 xs.length h v (xs.map ii) ∧ ∀ x ∈ xs, -9223372036854775808 ≤ x ∧ x ≤ 9223372036854775807 := by
  obtain ⟨r1, r2⟩ := sla_map (K := kInt .i64) (f := ii) rfl (fun _ _ _ q => q.1) r
  exact ⟨r1, fun x hx => by obtain ⟨_, _, q⟩ := r2 x hx; exact wf64 q.2⟩
theorem ii_get {l : List Int} {j : Nat} {x : Int} (h : l[j]? = some x) : (l.map ii)[j]? = some (ii x) := by rw [List.getElem?_map, h]; rfl
theorem ii_one (l : List Int) : (l.map ii).all AV.one = true := by
  rw [List.all_map, List.all_eq_true]
  intro x _
  rfl
/-- Texts. -/
def ss (s : ByteArray) : AV := .str s
theorem sla_strs {h : Heap} {v : AV} {xs : List ByteArray} (r : SlA kStr h v xs) : Sl 1 xs.length h v (xs.map ss) ∧ ∀ x ∈ xs, x.size ≤ maxLen := by
  obtain ⟨r1, r2⟩ := sla_map (K := kStr) (f := ss) rfl (fun _ _ _ q => q.1) r
  exact ⟨r1, fun x hx => by obtain ⟨_, _, q⟩ := r2 x hx; exact q.2⟩
theorem ss_get {l : List ByteArray} {j : Nat} {x : ByteArray} (h : l[j]? = some x) : (l.map ss)[j]? = some (ss x) := by rw [List.getElem?_map, h]; rfl
theorem ss_one (l : List ByteArray) : (l.map ss).all AV.one = true := by
  rw [List.all_map, List.all_eq_true]
  intro x _
  rfl
end Go.Proofs.Ytcgafaecdjbmiaa
