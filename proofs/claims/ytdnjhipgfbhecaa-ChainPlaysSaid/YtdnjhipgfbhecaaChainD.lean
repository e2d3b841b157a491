/- chain.Chain: New, Get, Put, Drop, Len, Shape. -/
import Derived.Test.YtdnjhipgfbhecaaChainC
namespace Go.Proofs.Ytdnjhipgfbhecaa
open Go Go.YtdnjhipgfbhecaaAbs
set_option linter.unusedSimpArgs false
set_option linter.unusedVariables false
set_option maxRecDepth 4000

def Ch.new : Ch := ⟨[[], [], [], []], [], 0, 0⟩
def Ch.get (c : Ch) (key : ByteArray) : Option Int := (findE key (c.row (c.sel key))).bind fun i => ((c.row (c.sel key))[i]?).map (·.2)
def Ch.grow (c : Ch) : Ch := if c.old.length = 0 ∧ 2 * c.now.length < c.len ∧ c.now.length < 4096 then ⟨List.replicate (2 * c.now.length) [], c.now, c.moved, c.len⟩ else c
def Ch.add (c : Ch) (key : ByteArray) (n : Int) : Ch := { c.setRow (c.sel key) (c.row (c.sel key) ++ [(key, n)]) with len := c.len + 1 }
def Ch.put1 (c : Ch) (key : ByteArray) (n : Int) : Bool × Ch := match findE key (c.row (c.sel key)) with
  | some i => (false, c.setRow (c.sel key) ((c.row (c.sel key)).set i (key, n)))
  | none => (true, (c.add key n).grow)
def Ch.put (c : Ch) (key : ByteArray) (n : Int) : Bool × Ch := c.step.put1 key n
/-- The last one goes to the place of one that is dropped. -/
def swapOut (L : List Ent) (i : Nat) : List Ent := (L.set i ((L[L.length - 1]?).getD (.empty, 0))).take (L.length - 1)
def Ch.drop1 (c : Ch) (key : ByteArray) : Bool × Ch := match findE key (c.row (c.sel key)) with
  | some i => (true, { c.setRow (c.sel key) (swapOut (c.row (c.sel key)) i) with len := c.len - 1 })
  | none => (false, c)
def Ch.drop (c : Ch) (key : ByteArray) : Bool × Ch := c.step.drop1 key

theorem new_ok (k : Nat) (h : Heap) : ∃ v' h', acall Try.prog (k + 1) 9 [] h = some (v', h') ∧ ∃ (b : Nat) (vn vo : AV) (rn ro : List AV), v' = .ptr b 0 ∧ ChO h' b .new vn vo rn ro ∧ (∀ d, d ∈ fpC b vn vo rn ro → h.next ≤ d) ∧ Keep h.next nob h h' := by
  rw [acall_text [] Try.func9 (by kernel_rfl)]
  refine afuncT_ex rfl (by simp [Try.f9]) ?_
  simp [Try.f9, aalloc_makeC (P := Try.prog) el54 (z := [.nils]) az60 rfl rfl 4 4 (Nat.le_refl _) (by omega) (N := 4) (M := 4) rfl rfl, flat1, afill, row1_agg]
  have M : Mine 1 4 (h.new (.cells (List.replicate 4 AV.nils) false)) (.sl h.next 0 4 4 1 true) (List.replicate 4 AV.nils) := Mine.new (sz := 1) (n := 4) (m := 4) h (List.replicate 4 AV.nils) rfl (Nat.le_refl _) rfl true
  have M' := M.ext (Keep.new (Nat.le_refl _) (.cells [.sl h.next 0 4 4 1 true, .nils, .int .i64 0, .int .i64 0] false))
  have KK : Keep h.next nob h ((h.new (.cells (List.replicate 4 AV.nils) false)).new (.cells [.sl h.next 0 4 4 1 true, .nils, .int .i64 0, .int .i64 0] false)) := (Keep.new (Nat.le_refl _) _).trans (Keep.new (Nat.le_succ _) _)
  have gg : ((h.new (.cells (List.replicate 4 AV.nils) false)).new (.cells [.sl h.next 0 4 4 1 true, .nils, .int .i64 0, .int .i64 0] false)).get (h.next + 1) = some (.cells [.sl h.next 0 4 4 1 true, .nils, .int .i64 0, .int .i64 0] false) := get_new_self _ _
  have nn : h.next + 1 < ((h.new (.cells (List.replicate 4 AV.nils) false)).new (.cells [.sl h.next 0 4 4 1 true, .nils, .int .i64 0, .int .i64 0] false)).next := Nat.lt_succ_self _
  have key : ∃ (vn vo : AV) (rn ro : List AV), ChO ((h.new (.cells (List.replicate 4 AV.nils) false)).new (.cells [.sl h.next 0 4 4 1 true, .nils, .int .i64 0, .int .i64 0] false)) (h.next + 1) .new vn vo rn ro ∧ (∀ d, d ∈ fpC (h.next + 1) vn vo rn ro → h.next ≤ d) ∧
      Keep h.next nob h ((h.new (.cells (List.replicate 4 AV.nils) false)).new (.cells [.sl h.next 0 4 4 1 true, .nils, .int .i64 0, .int .i64 0] false)) := by
    refine ⟨.sl h.next 0 4 4 1 true, .nils, List.replicate 4 AV.nils, [], ⟨gg, nn, ⟨M', rfl, fun i r L hr hL => ?_⟩, ⟨Mine.nil 1 _, rfl, fun i r L hr _ => by simp at hr⟩, ?_⟩, ?_, KK⟩
    · have e1 : r = .nils := by
        rw [List.getElem?_replicate] at hr
        split at hr
        · exact (Option.some.inj hr).symm
        · cases hr
      have e2 : L = [] := by
        have : Ch.new.now = List.replicate 4 ([] : List Ent) := rfl
        rw [this, List.getElem?_replicate] at hL
        split at hL
        · exact (Option.some.inj hL).symm
        · cases hL
      subst e1 e2
      exact Mine.nil 2 _
    · unfold Apart
      simp [blks_cons]
    · intro d hd
      simp [fpC, blks_cons] at hd
      omega
  simpa using key

theorem pos_row (c : Ch) (key : ByteArray) (h : 0 < c.now.length) : (c.rows (c.sel key).1)[(c.sel key).2]? = some (c.row (c.sel key)) := sel_row h key
theorem row_small {c : Ch} (C : ChOk c) (key : ByteArray) : (c.row (c.sel key)).length ≤ 100000 := by
  have := pos_row c key C.n0
  refine C.small _ ?_
  have := List.mem_of_getElem? this
  unfold Ch.rows at this
  rw [List.mem_append]
  split at this
  · exact .inr this
  · exact .inl this

theorem get_ok (k : Nat) (hk : 200000 < k) (h : Heap) (b : Nat) (c : Ch) (vn vo : AV) (rn ro : List AV) (O : ChO h b c vn vo rn ro) (C : ChOk c) (key : ByteArray) (hm : key.size ≤ 1000) :
    ∃ v' h', acall Try.prog (k + 3) 16 [.ptr b 0, .str key] h = some (v', h') ∧ v' = .tup [.int .i64 ((c.get key).getD 0), .bool (c.get key).isSome] ∧ Keep h.next nob h h' := by
  rw [acall_text [] Try.func16 (by kernel_rfl)]
  refine afuncT_ex rfl (by simp [Try.f16]) ?_
  have n1 := C.n1; have o1 := C.o1; have m1 := C.m1; have n0 := C.n0
  have B := bucket_ok k h b c vn vo rn ro O key (by omega) (by omega) n0 (by omega) (by omega) (by omega)
  have hrow := pos_row c key n0
  have hsm := row_small C key
  unfold Ch.get
  generalize c.row (c.sel key) = L at *
  generalize c.sel key = s at *
  obtain ⟨R, A⟩ := O.sub s.1
  obtain ⟨r, hr, Mr⟩ := R.row hrow
  have ld := R.own.sl.ld (P := Try.prog) ta60 hr
  simp [Try.f16, B, ld]
  refine use (find_ok (k + 1) h r key L Mr.sl (by omega) (by omega)) ?_
  intro v h1 hq
  have e1 := hq.1
  have k1 := hq.2
  clear hq
  subst e1
  have S1 := (Mr.ext k1).sl
  unfold findZ
  cases hf : findE key L with
  | none => simp; exact k1
  | some i =>
    obtain ⟨e, he, hek⟩ := findE_lt hf
    have hil := (List.getElem?_eq_some_iff.1 he).1
    have ix := S1.idx (P := Try.prog) Try.underlying60 ts62 (j := i) hil .i64
    have f1 := S1.ld (P := Try.prog) ta3 (j := i * 2 + 1) (x := .int .i64 e.2) (by rw [cat_get ec_len he (by omega)]; rfl)
    rw [← Nat.add_assoc] at f1
    simp [isLe (show (0 : Int) ≤ (i : Int) by omega), ix, f1, he]
    exact k1
theorem len_ok (k : Nat) (h : Heap) (b : Nat) (c : Ch) (vn vo : AV) (rn ro : List AV) (O : ChO h b c vn vo rn ro) : acall Try.prog (k + 1) 13 [.ptr b 0] h = some (.int .i64 (c.len : Nat), h) := by
  rw [acall_text [] Try.func13 (by kernel_rfl)]
  refine afuncT_of rfl (by simp [Try.f13]) ?_
  simp [Try.f13, O.ld3]
theorem shape_ok (k : Nat) (h : Heap) (b : Nat) (c : Ch) (vn vo : AV) (rn ro : List AV) (O : ChO h b c vn vo rn ro) : acall Try.prog (k + 1) 11 [.ptr b 0] h = some (.tup [.int .i64 (c.now.length : Nat), .int .i64 (c.old.length : Nat), .int .i64 (c.moved : Nat)], h) := by
  rw [acall_text [] Try.func11 (by kernel_rfl)]
  refine afuncT_of rfl (by simp [Try.f11]) ?_
  simp [Try.f11, O.ld0, O.ld1, O.ld2, O.lenN, O.lenO]
end Go.Proofs.Ytdnjhipgfbhecaa
