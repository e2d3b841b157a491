/- Contracts of the functions that the law reaches, over the abstract machine. -/
import Derived.Test.YtangdhaihhgjkaaFillAllA
import Derived.Test.YtangdhaihhgjkaaMachA
import Derived.Test.YtangdhaihhgjkaaMachB
import Derived.Test.YtangdhaihhgjkaaMachC
import Derived.Test.YtangdhaihhgjkaaMachD
/- FillAll in plain words: what is pending, and how many steps are left. -/
namespace Go.Proofs.Ytangdhaihhgjkaa
open Go Go.YtangdhaihhgjkaaAbs
set_option linter.unusedSimpArgs false
set_option linter.unusedVariables false

theorem drop_nil {α : Type} {p : α → Bool} : ∀ {l : List α}, (l.dropWhile fun x => !p x) = [] → l.filter p = []
  | [], _ => rfl
  | x :: l, h => by
    rw [List.dropWhile_cons] at h
    cases hp : p x
    · rw [hp] at h
      simp only [Bool.not_false, if_true] at h
      rw [List.filter_cons, hp]
      simpa using drop_nil h
    · rw [hp] at h
      simp at h
theorem drop_cons {α : Type} {p : α → Bool} {x : α} {r : List α} : ∀ {l : List α}, (l.dropWhile fun x => !p x) = x :: r → p x = true ∧ l.filter p = x :: r.filter p ∧ r.length < l.length ∧ (∀ y, y ∈ r → y ∈ l)
  | [], h => by cases h
  | y :: l, h => by
    rw [List.dropWhile_cons] at h
    cases hp : p y
    · rw [hp] at h
      simp only [Bool.not_false, if_true] at h
      obtain ⟨a, b, c, d⟩ := drop_cons h
      rw [List.filter_cons, hp]
      refine ⟨a, by simpa using b, by simp; omega, fun z hz => List.mem_cons_of_mem _ (d z hz)⟩
    · rw [hp] at h
      simp at h
      obtain ⟨rfl, rfl⟩ := h
      exact ⟨hp, by rw [List.filter_cons, hp]; rfl, by simp, fun z hz => List.mem_cons_of_mem _ hz⟩
theorem mem_drop {α : Type} {p : α → Bool} {y : α} : ∀ {l : List α}, y ∈ l.dropWhile p → y ∈ l
  | [], h => h
  | x :: l, h => by
    rw [List.dropWhile_cons] at h
    split at h
    · exact List.mem_cons_of_mem _ (mem_drop h)
    · exact h
/-- Steps that the scans still take at most. -/
def wt (at_ : List Nat) (scans : List Nat) : Nat := (scans.map fun s => 2 * (12 - at_.getD s 0) + 1).sum
theorem wt_cons (at_ : List Nat) (s : Nat) (Y : List Nat) : wt at_ (s :: Y) = 2 * (12 - at_.getD s 0) + 1 + wt at_ Y := by simp [wt]
theorem wt_drop (at_ : List Nat) (p : Nat → Bool) : ∀ l, wt at_ (l.dropWhile p) ≤ wt at_ l
  | [] => Nat.le_refl _
  | x :: l => by
    rw [List.dropWhile_cons]
    split
    · rw [wt_cons]
      have := wt_drop at_ p l
      omega
    · exact Nat.le_refl _
theorem wt_le (at_ : List Nat) : ∀ l : List Nat, wt at_ l ≤ 25 * l.length
  | [] => by simp [wt]
  | x :: l => by
    rw [wt_cons, List.length_cons]
    have := wt_le at_ l
    omega
theorem wt_mono {at_ at2 : List Nat} (h : ∀ s : Nat, at_.getD s 0 ≤ at2.getD s 0) : ∀ l : List Nat, wt at2 l ≤ wt at_ l
  | [] => by simp [wt]
  | x :: l => by
    rw [wt_cons, wt_cons]
    have := wt_mono h l
    have := h x
    omega
end Go.Proofs.Ytangdhaihhgjkaa
/- Rows of texts as an argument has them. -/
namespace Go.Proofs.Ytangdhaihhgjkaa
open Go Go.YtangdhaihhgjkaaAbs
set_option linter.unusedSimpArgs false
set_option linter.unusedVariables false
set_option maxRecDepth 4000

structure Txs (h : Heap) (v : AV) (rs : List AV) (M : List (List ByteArray)) : Prop where
  sl : Sl 1 M.length h v rs
  row : ∀ (i : Nat) (r : AV) (L : List ByteArray), rs[i]? = some r → M[i]? = some L → Sl 1 L.length h r (L.map ss)
theorem Txs.ext {h h' : Heap} {v : AV} {rs : List AV} {M : List (List ByteArray)} (R : Txs h v rs M) (K : Keep h.next nob h h') : Txs h' v rs M := ⟨R.sl.ext K, fun i r L hr hL => (R.row i r L hr hL).ext K⟩
theorem txs_arg {h : Heap} {v : AV} {M : List (List ByteArray)} (w : SlA (kSlice kStr) h v M) : ∃ rs, Txs h v rs M := by
  obtain ⟨c, c1, c2, c3⟩ := w.sl
  have hs : (kSlice kStr).sz = 1 := rfl
  rw [hs] at c1 c2 c3
  refine ⟨c, c1, fun i r L hr hL => ?_⟩
  obtain ⟨u, e, su⟩ := c3 i L hL
  rw [Nat.mul_one] at e
  have e' := congrArg (·[0]?) e
  simp only [List.getElem?_take, List.getElem?_drop] at e'
  simp at e'
  rw [hr] at e'
  cases e'
  exact (sla_strs su).1
end Go.Proofs.Ytangdhaihhgjkaa
/- Contracts of the book of memory: Within. -/
namespace Go.Proofs.Ytangdhaihhgjkaa
open Go Go.YtangdhaihhgjkaaAbs
set_option linter.unusedSimpArgs false
set_option linter.unusedVariables false
/-- Within. -/
theorem within_ok (k : Nat) (n lo hi : Int) (hl : lo ≤ hi) (h1 : -1000000000000 ≤ lo) (h2 : hi ≤ 1000000000000) (h : Heap) :
    acall Try.prog (k + 1) 12 [.int .i64 n, .int .i64 lo, .int .i64 hi] h = some (.int .i64 (lo + n % (hi - lo + 1)), h) := by
  rw [acall_text [] Try.func12 (by kernel_rfl)]
  refine afuncT_of rfl (by simp [Try.f12]) ?_
  have w1 := i64w (hi - lo) (by omega) (by omega)
  have w2 := i64w (hi - lo + 1) (by omega) (by omega)
  have hne : ¬ hi - lo + 1 = 0 := by omega
  have e1 : n % (hi - lo + 1) < hi - lo + 1 := Int.emod_lt_of_pos _ (by omega)
  have e2 : 0 ≤ n % (hi - lo + 1) := Int.emod_nonneg _ (by omega)
  have e0 := Int.tmod_eq_emod (a := n) (b := hi - lo + 1)
  by_cases hr : n.tmod (hi - lo + 1) < 0
  · have e3 : n.tmod (hi - lo + 1) + (hi - lo + 1) = n % (hi - lo + 1) := by
      split at e0 <;> omega
    have w3 := i64w (n.tmod (hi - lo + 1) + hi) (by omega) (by omega)
    have w4 := i64w (n.tmod (hi - lo + 1) + hi - lo) (by omega) (by omega)
    have w5 := i64w (n.tmod (hi - lo + 1) + hi - lo + 1) (by omega) (by omega)
    have w6 := i64w (lo + (n.tmod (hi - lo + 1) + hi - lo + 1)) (by omega) (by omega)
    simp [Try.f12, w1, w2, w3, w4, w5, w6, hne, isLt hr]
    omega
  · have e3 : n.tmod (hi - lo + 1) = n % (hi - lo + 1) := by
      split at e0 <;> omega
    have w6 := i64w (lo + n % (hi - lo + 1)) (by omega) (by omega)
    simp [Try.f12, w1, w2, w6, hne, isLe e2, e3]

end Go.Proofs.Ytangdhaihhgjkaa
/- depotlaw2: what its laws have in common. -/
namespace Go.Proofs.Ytangdhaihhgjkaa
open Go Go.YtangdhaihhgjkaaAbs
set_option linter.unusedSimpArgs false
set_option linter.unusedVariables false
set_option maxRecDepth 4000

/-- Within, as a number that isn't below nought. -/
theorem within_nat (k : Nat) (a lo hi : Int) (h0 : 0 ≤ lo) (hl : lo ≤ hi) (h2 : hi ≤ 1000000000000) (h : Heap) :
    ∃ n : Nat, acall Try.prog (k + 1) 12 [.int .i64 a, .int .i64 lo, .int .i64 hi] h = some (.int .i64 (n : Nat), h) ∧ lo ≤ (n : Int) ∧ (n : Int) ≤ hi := by
  have W := within_ok k a lo hi hl (by omega) h2 h
  have m1 : 0 ≤ a % (hi - lo + 1) := Int.emod_nonneg _ (by omega)
  have m2 : a % (hi - lo + 1) < hi - lo + 1 := Int.emod_lt_of_pos _ (by omega)
  refine ⟨(lo + a % (hi - lo + 1)).toNat, ?_, by omega, by omega⟩
  rw [W, Int.toNat_of_nonneg (by omega)]
end Go.Proofs.Ytangdhaihhgjkaa
