/- Rows of bytes. -/
import Derived.Test.YtcgafaecdjbmiaaFacts
import Derived.Test.YtcgafaecdjbmiaaAbsY
namespace Go.Proofs.Ytcgafaecdjbmiaa
open Go Go.YtcgafaecdjbmiaaAbs
set_option linter.unusedSimpArgs false
set_option linter.unusedVariables false

/-- A byte's cell. -/
def bb (b : UInt8) : AV := .int .u8 (b.toNat : Nat)
theorem rdl_byte {h : Heap} {cs : List AV} {xs : List UInt8} (r : RdL kByte h cs xs) : cs = xs.map bb := by
  obtain ⟨r1, r2⟩ := r
  have r1 : cs.length = xs.length * 1 := r1
  refine List.ext_getElem? fun j => ?_
  rw [List.getElem?_map]
  cases hx : xs[j]? with
  | none =>
    rw [List.getElem?_eq_none]
    · rfl
    · have := List.getElem?_eq_none_iff.1 hx
      omega
  | some x =>
    have : (cs.drop (j * 1)).take 1 = [.int .u8 (x.toNat : Nat)] := r2 j x hx
    rw [Nat.mul_one] at this
    have e := congrArg (·[0]?) this
    simp only [List.getElem?_take, List.getElem?_drop] at e
    simpa [bb] using e
theorem sla_bytes {h : Heap} {v : AV} {xs : List UInt8} (r : SlA kByte h v xs) : Sl 1 xs.length h v (xs.map bb) := by
  obtain ⟨c, c1, c2⟩ := r.sl
  rw [rdl_byte c2] at c1
  exact c1
theorem bb_get {l : List UInt8} {j : Nat} {x : UInt8} (h : l[j]? = some x) : (l.map bb)[j]? = some (bb x) := by rw [List.getElem?_map, h]; rfl
theorem getb {α : Type} {l : List α} {j : Nat} (h : j < l.length) : ∃ x, l[j]? = some x := ⟨l[j], by simp [h]⟩
theorem bb_one (l : List UInt8) : (l.map bb).all AV.one = true := by
  rw [List.all_map, List.all_eq_true]
  intro x _
  rfl
theorem abytes_bb : ∀ l : List UInt8, abytes (l.map bb) = some l
  | [] => rfl
  | b :: l => by
    show (match abytes (l.map bb) with
      | some r => some (UInt8.ofNat ((b.toNat : Int)).toNat :: r)
      | none => none) = _
    rw [abytes_bb l, Int.toNat_natCast, UInt8.ofNat_toNat]
/-- Bytes as a text. -/
theorem aconv_bs {P : Program} {h : Heap} {src dst e : TypeId} {n : Nat} {v : AV} {l : List UInt8} (r : Sl 1 n h v (l.map bb))
    (hs : P.underlying src = some (.slice e)) (hd : P.underlying dst = some .string) (he : P.underlying e = some (.int .u8)) : aconv P h src dst v = some (.str ⟨⟨l⟩⟩, h) := by
  have hl := r.length
  unfold aconv
  rw [hs, hd]
  rcases r with ⟨rfl, r2, rfl⟩ | ⟨rfl, r2, rfl⟩ | ⟨b, i, cap, ex, c, ro, rfl, r2, r3, r4, r5, r6, r7⟩
  · have : l = [] := by simpa using r2
    subst this
    simp only [he]
    rfl
  · have : l = [] := by simpa using r2
    subst this
    simp only [he]
    rfl
  · simp only [he]
    unfold Heap.row
    rw [r3]
    simp only
    rw [if_pos (by omega)]
    have r6' : (c.drop i).take n = l.map bb := by rw [← r6, Nat.mul_one]
    rw [r6', abytes_bb]
/-- A new slice of one byte. -/
theorem sl_new1 (h : Heap) (b : UInt8) (ex : Bool) : Sl 1 1 (h.new (.cells [.int .u8 (b.toNat : Nat)] false)) (.sl h.next 0 1 1 1 ex) ([b].map bb) :=
  .inr (.inr ⟨h.next, 0, 1, ex, [.int .u8 (b.toNat : Nat)], false, rfl, Nat.lt_succ_self _, get_new_self _ _, rfl, by simp, rfl, Nat.le_refl _⟩)
end Go.Proofs.Ytcgafaecdjbmiaa
