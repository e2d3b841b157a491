/- chain.Chain: what it is, in heap and in plain words; New, bucket, find, Shape, Len. The document's own has the same cells. -/
import Derived.Test.YtdnjhipgfbhecaaHash
import Derived.Test.YtdnjhipgfbhecaaAbsO
namespace Go.Proofs.Ytdnjhipgfbhecaa
open Go Go.YtdnjhipgfbhecaaAbs
set_option linter.unusedSimpArgs false
set_option linter.unusedVariables false
set_option maxRecDepth 4000

abbrev Ent := ByteArray × Int
def ec (e : Ent) : List AV := [.str e.1, .int .i64 e.2]
theorem ec_len (e : Ent) : (ec e).length = 2 := rfl
theorem ec_one (L : List Ent) : (cat ec L).all AV.one = true := by
  induction L with
  | nil => rfl
  | cons e L ih => rw [cat_cons, List.all_append, ih]; rfl
/-- Buckets, old buckets, how many of these were moved, how many keys there are. -/
structure Ch where
  now : List (List Ent)
  old : List (List Ent)
  moved : Nat
  len : Nat
def hsh (k : ByteArray) : Nat := hash k.data.toList
theorem hsh_lt (k : ByteArray) : hsh k < 4294967296 := hash_lt _
/-- Where in a bucket a key stands. -/
def findE (key : ByteArray) : List Ent → Option Nat
  | [] => none
  | e :: L => if e.1 = key then some 0 else (findE key L).map (· + 1)
theorem findE_skip (key : ByteArray) : ∀ (i : Nat) (L : List Ent), (∀ e, e ∈ L.take i → e.1 ≠ key) → findE key L = (findE key (L.drop i)).map (· + i)
  | 0, L, h => by simp
  | i + 1, [], h => by simp [findE]
  | i + 1, e :: L, h => by
    have h1 := h e (by simp)
    have ih := findE_skip key i L (fun x hx => h x (by simp [hx]))
    simp only [findE, if_neg h1, List.drop_succ_cons, ih, Option.map_map]
    congr 1
def findZ (key : ByteArray) (L : List Ent) : Int := match findE key L with
  | some i => (i : Nat)
  | none => -1
theorem findE_lt {key : ByteArray} : ∀ {L : List Ent} {i : Nat}, findE key L = some i → ∃ e, L[i]? = some e ∧ e.1 = key
  | [], i, h => by simp [findE] at h
  | e :: L, i, h => by
    simp only [findE] at h
    split at h
    · rename_i he; cases h; exact ⟨e, rfl, he⟩
    · rw [Option.map_eq_some_iff] at h
      obtain ⟨j, h1, rfl⟩ := h
      obtain ⟨x, h2, h3⟩ := findE_lt h1
      exact ⟨x, by simpa using h2, h3⟩
/-- In which row a key's bucket stands: of the old ones? which? -/
def Ch.sel (c : Ch) (key : ByteArray) : Bool × Nat :=
  if 0 < c.old.length ∧ c.moved ≤ hsh key % c.old.length then (true, hsh key % c.old.length) else (false, hsh key % c.now.length)
def Ch.rows (c : Ch) (s : Bool) : List (List Ent) := if s then c.old else c.now
def Ch.row (c : Ch) (s : Bool × Nat) : List Ent := ((c.rows s.1)[s.2]?).getD []
def Ch.setRow (c : Ch) (s : Bool × Nat) (L : List Ent) : Ch := if s.1 then { c with old := c.old.set s.2 L } else { c with now := c.now.set s.2 L }
theorem sel_lt {c : Ch} (h : 0 < c.now.length) (key : ByteArray) : (c.sel key).2 < (c.rows (c.sel key).1).length := by
  unfold Ch.sel
  split
  · rename_i q
    exact Nat.mod_lt _ q.1
  · exact Nat.mod_lt _ h
theorem sel_row {c : Ch} (h : 0 < c.now.length) (key : ByteArray) : (c.rows (c.sel key).1)[(c.sel key).2]? = some (c.row (c.sel key)) := by
  have := sel_lt h key
  unfold Ch.row
  rw [List.getElem?_eq_getElem this]
  rfl

/-- A table in the heap: its block, the two slices of buckets, the buckets. -/
structure ChO (h : Heap) (b : Nat) (c : Ch) (vn vo : AV) (rn ro : List AV) : Prop where
  str : h.get b = some (.cells [vn, vo, .int .i64 (c.moved : Nat), .int .i64 (c.len : Nat)] false)
  lt : b < h.next
  now : RowsO ec 2 h vn rn c.now
  old : RowsO ec 2 h vo ro c.old
  apart : Apart (.ptr b 0 :: vn :: vo :: (rn ++ ro))
def fpC (b : Nat) (vn vo : AV) (rn ro : List AV) : List Nat := blks (.ptr b 0 :: vn :: vo :: (rn ++ ro))
/-- .. and the blocks where it stands. -/
def ChRep (h : Heap) (b : Nat) (c : Ch) (fp : List Nat) : Prop := ∃ vn vo rn ro, ChO h b c vn vo rn ro ∧ fp = fpC b vn vo rn ro
section
variable {h h' : Heap} {b : Nat} {c : Ch} {vn vo : AV} {rn ro : List AV}
theorem ChO.keep {F : Nat → Prop} (O : ChO h b c vn vo rn ro) (K : Keep h.next F h h') (hF : ∀ d, d ∈ fpC b vn vo rn ro → ¬ F d) : ChO h' b c vn vo rn ro := by
  have m1 : ∀ d, d ∈ blks (vn :: rn) → d ∈ fpC b vn vo rn ro := fun d hd => by
    obtain ⟨u, hu, hu'⟩ := mem_blks.1 hd
    exact mem_blks.2 ⟨u, by rcases List.mem_cons.1 hu with rfl | hu <;> simp [*], hu'⟩
  have m2 : ∀ d, d ∈ blks (vo :: ro) → d ∈ fpC b vn vo rn ro := fun d hd => by
    obtain ⟨u, hu, hu'⟩ := mem_blks.1 hd
    exact mem_blks.2 ⟨u, by rcases List.mem_cons.1 hu with rfl | hu <;> simp [*], hu'⟩
  have mb : b ∈ fpC b vn vo rn ro := mem_blks.2 ⟨.ptr b 0, by simp, rfl⟩
  exact ⟨by rw [K.2 b O.lt (hF b mb)]; exact O.str, Nat.lt_of_lt_of_le O.lt K.1, O.now.keep K fun d hd => hF d (m1 d hd), O.old.keep K fun d hd => hF d (m2 d hd), O.apart⟩
theorem ChO.ext (O : ChO h b c vn vo rn ro) (K : Keep h.next nob h h') : ChO h' b c vn vo rn ro := O.keep K fun _ _ q => q
theorem ChO.fp_lt (O : ChO h b c vn vo rn ro) {d : Nat} (hd : d ∈ fpC b vn vo rn ro) : d < h.next := by
  obtain ⟨u, hu, hu'⟩ := mem_blks.1 hd
  simp only [List.mem_cons, List.mem_append] at hu
  rcases hu with rfl | rfl | rfl | hu | hu
  · cases hu'; exact O.lt
  · exact O.now.own.lt hu'
  · exact O.old.own.lt hu'
  · exact O.now.lt (mem_blks.2 ⟨u, by simp [hu], hu'⟩)
  · exact O.old.lt (mem_blks.2 ⟨u, by simp [hu], hu'⟩)
theorem ChO.ld0 (O : ChO h b c vn vo rn ro) {ty : TypeId} (ht : tagg Try.prog ty = some false) : aload Try.prog h ty b 0 = some vn := ldc O.str ht rfl
theorem ChO.ld1 (O : ChO h b c vn vo rn ro) {ty : TypeId} (ht : tagg Try.prog ty = some false) : aload Try.prog h ty b 1 = some vo := ldc O.str ht rfl
theorem ChO.ld2 (O : ChO h b c vn vo rn ro) {ty : TypeId} (ht : tagg Try.prog ty = some false) : aload Try.prog h ty b 2 = some (.int .i64 (c.moved : Nat)) := ldc O.str ht rfl
theorem ChO.ld3 (O : ChO h b c vn vo rn ro) {ty : TypeId} (ht : tagg Try.prog ty = some false) : aload Try.prog h ty b 3 = some (.int .i64 (c.len : Nat)) := ldc O.str ht rfl
theorem ChO.lenN (O : ChO h b c vn vo rn ro) (k : Heap) (e : TypeId) : vlen' k vn (some (.slice e)) = some (.int .i64 (c.now.length : Nat)) := by rw [O.now.own.sl.len', O.now.len]
theorem ChO.lenO (O : ChO h b c vn vo rn ro) (k : Heap) (e : TypeId) : vlen' k vo (some (.slice e)) = some (.int .i64 (c.old.length : Nat)) := by rw [O.old.own.sl.len', O.old.len]
theorem ChO.idxN (O : ChO h b c vn vo rn ro) {P : Program} {ty e : TypeId} (hu : P.underlying ty = some (.slice e)) (hs : tsize P e = some 1) {j : Nat} (hj : j < c.now.length) (k : IntKind) : aindex P ty vn (.int k (j : Nat)) = some (.ptr vn.blk (vn.off + j)) :=
  O.now.own.sl.idx1 hu hs (by rw [O.now.len]; exact hj) k
theorem ChO.idxO (O : ChO h b c vn vo rn ro) {P : Program} {ty e : TypeId} (hu : P.underlying ty = some (.slice e)) (hs : tsize P e = some 1) {j : Nat} (hj : j < c.old.length) (k : IntKind) : aindex P ty vo (.int k (j : Nat)) = some (.ptr vo.blk (vo.off + j)) :=
  O.old.own.sl.idx1 hu hs (by rw [O.old.len]; exact hj) k
/-- The slice of buckets, and the buckets, of now or of old. -/
def pick2 {α : Type} (s : Bool) (o n : α) : α := if s then o else n
theorem ChO.sub (O : ChO h b c vn vo rn ro) (s : Bool) : RowsO ec 2 h (pick2 s vo vn) (pick2 s ro rn) (c.rows s) ∧ Apart (pick2 s vo vn :: pick2 s ro rn) := by
  cases s with
  | true => exact ⟨O.old, O.apart.sub (by simp only [pick2, if_true]; exact .cons _ (.cons _ (.cons_cons _ (List.sublist_append_right _ _))))⟩
  | false => exact ⟨O.now, O.apart.sub (by simp only [pick2, if_false, Bool.false_eq_true]; exact .cons _ (.cons_cons _ (.cons _ (List.sublist_append_left _ _))))⟩
end
theorem tmodN (a n : Nat) : ((a : Int)).tmod (n : Int) = ((a % n : Nat) : Int) := rfl

theorem find_ok (k : Nat) (h : Heap) (r : AV) (key : ByteArray) (L : List Ent) (R : Sl 2 L.length h r (cat ec L)) (hk : L.length + 5 < k) (hl : L.length < 1000000000) :
    ∃ v' h', acall Try.prog (k + 1) 27 [r, .str key] h = some (v', h') ∧ v' = .int .i64 (findZ key L) ∧ Keep h.next nob h h' := by
  rw [acall_text [] Try.func27 (by kernel_rfl)]
  refine afuncT_ex rfl (by simp [Try.f27]) ?_
  simp [Try.f27, R.len']
  refine W_cutLoop 0 (fun st => st.t.get 5 = some (.int .i64 (findZ key L)) ∧ Keep h.next nob h st.h) ?_ ?_
  · refine W_loop (fun m st => ∃ i, m = L.length - i ∧ i ≤ L.length ∧ (∀ e, e ∈ L.take i → e.1 ≠ key) ∧ st.t.get 1 = some (.str key) ∧ st.t.get 5 = some (.int .i64 (-1)) ∧ st.t.get 8 = some r ∧ st.t.get 9 = some (.int .i64 (L.length : Nat)) ∧ st.t.get 10 = some (.int .i64 (i : Nat)) ∧ Keep h.next nob h st.h) L.length (by omega)
      ⟨0, by simp [Keep.refl]⟩ ?_
    rintro m ⟨t, h1⟩ ⟨i, rfl, hi, hno, q1, q5, q8, q9, q10, hK⟩
    simp only at q1 q5 q8 q9 q10 hK
    have R1 := R.ext hK
    have hf := findE_skip key i L hno
    by_cases hlt : i < L.length
    · obtain ⟨e, he⟩ : ∃ e, L[i]? = some e := ⟨L[i], by simp [hlt]⟩
      have ix := R1.idx (P := Try.prog) Try.underlying60 ts62 (j := i) hlt .i64
      have ld := R1.lds (P := Try.prog) ta62 ts62 (j := i * 2) (by rw [cat_len ec_len]; omega) (by omega)
      rw [cat_at ec_len he] at ld
      have hd : L.drop i = e :: L.drop (i + 1) := by
        obtain ⟨z1, z2⟩ := List.getElem?_eq_some_iff.1 he
        rw [List.drop_eq_getElem_cons z1, z2]
      rw [hd] at hf
      simp only [findE] at hf
      have al : alay (h1.new (.cells [.str .empty, .int .i64 0] false)) h1.next 0 (ec e) = some (h1.new (.cells (ec e) false)) := alay_new rfl
      have g : (h1.new (.cells (ec e) false)).get h1.next = some (.cells (ec e) false) := get_new_self _ _
      have hK2 : Keep h.next nob h (h1.new (.cells (ec e) false)) := hK.trans (Keep.new hK.1 _)
      have l0 := ldc (P := Try.prog) (ty := 9) g ta9 (i := 0) (x := .str e.1) rfl
      have rw1 : (AV.agg (ec e)).row1 = some (ec e) := rfl
      have le1 : (ec e).length = 2 := rfl
      generalize h1.new (.cells (ec e) false) = h2 at al hK2 l0
      by_cases hek : e.1 = key
      · rw [if_pos hek] at hf
        have hz : findZ key L = (i : Nat) := by unfold findZ; rw [hf]; simp
        simp [q1, q5, q8, q9, q10, isLt (show (i : Int) < (L.length : Int) by omega), ix, ld, rw1, le1, al, l0, hek, hz]
        exact hK2
      · rw [if_neg hek] at hf
        simp [q1, q5, q8, q9, q10, isLt (show (i : Int) < (L.length : Int) by omega), ix, ld, rw1, le1, al, l0, hek, i64s (n := (i : Int) + 1) (by omega) (by omega)]
        refine ⟨L.length - (i + 1), by omega, i + 1, rfl, by omega, fun x y hx => ?_, by simp, hK2⟩
        rw [List.take_add_one, he] at hx
        simp only [Option.toList, List.mem_append, List.mem_singleton] at hx
        rcases hx with hx | hx
        · exact hno _ hx
        · have : x = e.1 := by rw [← hx]
          rw [this]; exact hek
    · obtain rfl : i = L.length := by omega
      rw [List.drop_length] at hf
      have hz : findZ key L = -1 := by unfold findZ; rw [hf]; rfl
      simp [q1, q5, q8, q9, q10, hz]
      exact hK
  · rintro ⟨t, h1⟩ ⟨q5, hK⟩
    simp only at q5 hK
    simp [q5]
    exact hK
theorem hash_cv (key : ByteArray) : fwrap .i64 ((hash key.data.toList : Nat) : Int) = (hsh key : Nat) := by
  have := hsh_lt key
  show fwrap .i64 ((hsh key : Nat) : Int) = _
  exact i64w _ (by omega) (by omega)
/-- The bucket of a key. -/
theorem bucket_ok (k : Nat) (h : Heap) (b : Nat) (c : Ch) (vn vo : AV) (rn ro : List AV) (O : ChO h b c vn vo rn ro) (key : ByteArray) (hk : key.size + 5 < k) (hm : key.size < 1000000000) (h0 : 0 < c.now.length) (h1 : c.now.length < 100000) (h2 : c.old.length < 100000) (h3 : c.moved < 100000) :
    acall Try.prog (k + 2) 26 [.ptr b 0, .str key] h = some (.ptr (pick2 (c.sel key).1 vo vn).blk ((pick2 (c.sel key).1 vo vn).off + (c.sel key).2), h) := by
  rw [acall_text [] Try.func26 (by kernel_rfl)]
  refine afuncT_of rfl (by simp [Try.f26]) ?_
  have hh := hash_ok k key (by omega) (by omega) h
  have cv := hash_cv key
  have hl := hsh_lt key
  unfold Ch.sel
  generalize hsh key = H at *
  by_cases c1 : 0 < c.old.length
  · by_cases c2 : c.moved ≤ H % c.old.length
    · have hj := Nat.mod_lt H c1
      have ix := O.idxO (P := Try.prog) Try.underlying54 ts60 hj .i64
      rw [if_pos ⟨c1, c2⟩]
      have tm := tmodN H c.old.length
      have ne : ¬ c.old.length = 0 := by omega
      generalize H % c.old.length = j at *
      have wj := i64s (n := (j : Int)) (by omega) (by omega)
      have wl := i64s (n := ((c.old.length : Nat) : Int)) (by omega) (by omega)
      simp [Try.f26, hh, cv, O.ld0, O.ld1, O.ld2, O.lenO, O.lenN, isLt (show (0 : Int) < (c.old.length : Int) by omega), tm, ne, isLe (show (c.moved : Int) ≤ (j : Int) by omega), ix, pick2, wj]
    · have hj := Nat.mod_lt H h0
      have hj' := Nat.mod_lt H c1
      have ix := O.idxN (P := Try.prog) Try.underlying54 ts60 hj .i64
      rw [if_neg (fun q => c2 q.2)]
      have tm := tmodN H c.old.length
      have tm2 := tmodN H c.now.length
      have ne : ¬ c.old.length = 0 := by omega
      have ne2 : ¬ c.now.length = 0 := by omega
      generalize H % c.old.length = j at *
      generalize H % c.now.length = j2 at *
      have wj := i64s (n := (j : Int)) (by omega) (by omega)
      have wj2 := i64s (n := (j2 : Int)) (by omega) (by omega)
      simp [Try.f26, hh, cv, O.ld0, O.ld1, O.ld2, O.lenO, O.lenN, isLt (show (0 : Int) < (c.old.length : Int) by omega), tm, tm2, ne, ne2, isLt (show (j : Int) < (c.moved : Int) by omega), ix, pick2, wj, wj2]
  · have hj := Nat.mod_lt H h0
    have ix := O.idxN (P := Try.prog) Try.underlying54 ts60 hj .i64
    rw [if_neg (fun q => c1 q.1)]
    have tm2 := tmodN H c.now.length
    have ne2 : ¬ c.now.length = 0 := by omega
    have e0 : c.old.length = 0 := by omega
    generalize H % c.now.length = j2 at *
    have wj2 := i64s (n := (j2 : Int)) (by omega) (by omega)
    simp [Try.f26, hh, cv, O.ld0, O.ld1, O.ld2, O.lenO, O.lenN, e0, tm2, ne2, ix, pick2, wj2]
end Go.Proofs.Ytdnjhipgfbhecaa
