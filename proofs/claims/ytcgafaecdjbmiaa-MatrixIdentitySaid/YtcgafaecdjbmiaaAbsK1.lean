/- Blocks that are made late: by allocations, by []byte(s), by appends to a block that floats. -/
import Derived.Test.YtcgafaecdjbmiaaAbsK
namespace Go.YtcgafaecdjbmiaaAbs
open Go Go.RowKit

/-- A block that a step makes, or makes of the model's block that 'old' tells. -/
structure Made (F : Env) (m : Mp) (w : World) (b : Nat) (old : Option Nat) (u : AV) (cs : List AV) (v : Value) (w' : World) (z : MB) : Prop where
  kept : Kept F w w'
  block : ∀ B, B < w.heap.size → some B ≠ old → w'.heap[B]? = w.heap[B]?
  src : some z.B = old ∨ z.B = w.heap.size
  lt : z.B < w'.heap.size
  keep : ¬ F.keep z.B
  len : cs.length ≤ z.ext
  cells : ∀ i a, cs[i]? = some a → ∃ v, w'.cell? ⟨z.B, z.δ + i, none⟩ = some v ∧ VR m a v
  room : ∀ i, i < z.ext → w'.frozen? ⟨z.B, z.δ + i, none⟩ = false ∧ (w'.cell? ⟨z.B, z.δ + i, none⟩).isSome = true
  val : ∀ m', m' b = some z → VR m' u v

section
variable {P : Program} {F : Env} {w0 : World} {m : Mp} {h : Heap} {w w' : World} {b : Nat} {old : Option Nat} {u : AV} {cs : List AV} {v : Value} {z : MB}

/-- Steps that leave the heap's blocks alone. -/
theorem HR.other (H : HR F w0 m h w) (hk : Kept F w w') (hb : ∀ d y, Wr h d → m d = some y → w'.heap[y.B]? = w.heap[y.B]?) : HR F w0 m h w' := by
  refine ⟨H.below.trans hk, fun k hk' => Nat.lt_of_lt_of_le (H.dom k hk') hk.size, fun d c ro hd => ?_, fun d es cl hd => ?_, H.inj, H.fresh, H.res⟩
  · obtain ⟨x, h1, h2, h3, h4, h5, h6⟩ := H.cells d c ro hd
    have hblk : w'.heap[x.B]? = w.heap[x.B]? := by
      cases ro with
      | true => exact hk.block _ (F.rk _ (h5 rfl))
      | false => exact hb d x ⟨_, hd, fun c' q => by cases q⟩ h1
    refine ⟨x, h1, Nat.lt_of_lt_of_le h2 hk.size, h3, fun i a hi => ?_, h5, fun q => ⟨(h6 q).1, fun i hi => ?_⟩⟩
    · rw [World.cell?_of_block (w := w) hblk]; exact h4 i a hi
    · rw [World.cell?_of_block (w := w) hblk, World.frozen?_of_block (w := w) hblk]; exact (h6 q).2 i hi
  · obtain ⟨x, vs, h1, h2, h3, h4⟩ := H.maps d es cl hd
    exact ⟨x, vs, h1, h2, by rw [hb d x ⟨_, hd, fun c' q => by cases q⟩ h1]; exact h3, h4⟩

theorem Flt.other {c : List AV} {x : MB} (f : Flt F m h w b c x) (hs : w.heap.size ≤ w'.heap.size) (hb : w'.heap[x.B]? = w.heap[x.B]?) : Flt F m h w' b c x := by
  refine ⟨f.at_, Nat.lt_of_lt_of_le f.lt hs, f.keep, f.len, fun i a hi => ?_, fun i hi => ?_, f.apart⟩
  · rw [World.cell?_of_block (w := w) hb]; exact f.cells i a hi
  · rw [World.cell?_of_block (w := w) hb, World.frozen?_of_block (w := w) hb]; exact f.room i hi

/-- A number that the heap doesn't use gets a place. -/
theorem HR.mset (H : HR F w0 m h w) (hb : b < h.next) (hg : h.get b = none) (hm : m b = none) (hr : ¬ F.res b) : HR F w0 (m.put b z) h w := by
  have hle : Le m (m.put b z) := Mp.le_put _ hm
  have hne : ∀ d, h.get d ≠ none → d ≠ b := fun d hd q => hd (q ▸ hg)
  refine ⟨H.below, H.dom, fun d c ro hd => ?_, fun d es cl hd => ?_, fun d1 d2 x1 x2 h1 h2 e1 e2 hB => ?_, fun d hd => ?_, fun d hd => ?_⟩
  · obtain ⟨x, h1, h2, h3, h4, h5, h6⟩ := H.cells d c ro hd
    exact ⟨x, hle _ _ h1, h2, h3, fun i a hi => by
      obtain ⟨v, q1, q2⟩ := h4 i a hi
      exact ⟨v, q1, q2.mono hle⟩, h5, h6⟩
  · obtain ⟨x, vs, h1, h2, h3, h4⟩ := H.maps d es cl hd
    exact ⟨x, vs, hle _ _ h1, h2, h3, ERs.mono hle _ _ h4⟩
  · obtain ⟨o1, q1, r1⟩ := h1
    obtain ⟨o2, q2, r2⟩ := h2
    rw [Mp.put_ne _ _ (hne d1 (by rw [q1]; simp))] at e1
    rw [Mp.put_ne _ _ (hne d2 (by rw [q2]; simp))] at e2
    exact H.inj d1 d2 x1 x2 ⟨o1, q1, r1⟩ ⟨o2, q2, r2⟩ e1 e2 hB
  · rw [Mp.put_ne _ _ (by omega)]
    exact H.fresh d hd
  · obtain ⟨q1, q2, q3⟩ := H.res d hd
    rw [Mp.put_ne _ _ (fun q : d = b => hr (by rw [← q]; exact hd))]
    exact ⟨q1, q2, q3⟩
theorem Flt.mset {c : Nat} {l : List AV} {x : MB} (f : Flt F m h w c l x) (hg : h.get b = none) (hm : m b = none) : Flt F (m.put b z) h w c l x := by
  have hle : Le m (m.put b z) := Mp.le_put _ hm
  refine ⟨hle _ _ f.at_, f.lt, f.keep, f.len, fun i a hi => ?_, f.room, fun d y hd hy => ?_⟩
  · obtain ⟨v, q1, q2⟩ := f.cells i a hi
    exact ⟨v, q1, q2.mono hle⟩
  · have : d ≠ b := fun q => by
      obtain ⟨o, q1, _⟩ := hd
      rw [q, hg] at q1; cases q1
    rw [Mp.put_ne _ _ this] at hy
    exact f.apart d y hd hy

theorem HR.made (H : HR F w0 m h w) (M : Made F m w b old u cs v w' z) (hb : b < h.next) (hg : h.get b = none) (hm : m b = none) (hr : ¬ F.res b)
    (hold : ∀ d y, Wr h d → m d = some y → some y.B ≠ old) : Le m (m.put b z) ∧ HR F w0 (m.put b z) h w' ∧ Flt F (m.put b z) h w' b cs z := by
  have hle : Le m (m.put b z) := Mp.le_put _ hm
  refine ⟨hle, (H.other M.kept fun d y hd hy => M.block _ (H.lt hd hy).1 (hold d y hd hy)).mset hb hg hm hr, Mp.put_same _ _ _, M.lt, M.keep, M.len, fun i a hi => ?_, M.room, fun d y hd hy => ?_⟩
  · obtain ⟨v, q1, q2⟩ := M.cells i a hi
    exact ⟨v, q1, q2.mono hle⟩
  · have : d ≠ b := fun q => by
      obtain ⟨o, q1, _⟩ := hd
      rw [q, hg] at q1; cases q1
    rw [Mp.put_ne _ _ this] at hy
    intro q
    rcases M.src with r | r
    · exact hold d y hd hy (by rw [q, r])
    · have := (H.lt hd hy).1
      omega
theorem Flt.made {c : Nat} {l : List AV} {x : MB} (f : Flt F m h w c l x) (M : Made F m w b old u cs v w' z) (hg : h.get b = none) (hm : m b = none) (hold : some x.B ≠ old) :
    Flt F (m.put b z) h w' c l x ∧ x.B ≠ z.B := by
  refine ⟨(f.other M.kept.size (M.block _ f.lt hold)).mset hg hm, fun q => ?_⟩
  rcases M.src with r | r
  · exact hold (by rw [q, r])
  · have := f.lt
    omega

/-- A new block of the model. -/
theorem Made.alloc (hd : ∀ k, F.keep k → k < w.heap.size) {w2 : World} (hk : Kept F w w2) (hh : w2.heap = w.heap) (C : Array Value) (e : TypeId) (fr : Nat × Nat) (ext : Nat)
    (hl : cs.length ≤ ext) (hext : ext ≤ C.size) (hv : VRs m cs (C.toList.take cs.length)) (hfr : ∀ i, i < ext → (decide (fr.1 ≤ i) && decide (i < fr.2)) = false)
    (hu : ∀ m', m' b = some ⟨w.heap.size, 0, ext⟩ → VR m' u v) (old : Option Nat) : Made F m w b old u cs v (w2.alloc (.cells C e fr)) ⟨w.heap.size, 0, ext⟩ := by
  have hsz : w2.heap.size = w.heap.size := by rw [hh]
  have hb : (w2.alloc (.cells C e fr)).heap[w.heap.size]? = some (.cells C e fr) := by
    show (w2.heap.push _)[_]? = _
    rw [hh]; simp
  have hcell : ∀ i, (w2.alloc (.cells C e fr)).cell? ⟨w.heap.size, i, none⟩ = C[i]? := fun i => by
    simp only [World.cell?, hb]; rfl
  have hfrz : ∀ i, (w2.alloc (.cells C e fr)).frozen? ⟨w.heap.size, i, none⟩ = (decide (fr.1 ≤ i) && decide (i < fr.2)) := fun i => by
    simp only [World.frozen?, hb]
  refine ⟨hk.alloc (fun k hk' => by rw [hsz]; exact hd k hk') _, fun B hB _ => ?_, .inr rfl, by simp [hsz], fun q => Nat.lt_irrefl _ (hd _ q), hl, fun i a hi => ?_, fun i hi => ?_, hu⟩
  · rw [Below.heap_alloc _ _ _ (by rw [hsz]; exact hB), hh]
  · obtain ⟨v, h1, h2⟩ := hv.get i a hi
    refine ⟨v, ?_, h2⟩
    have hil : i < cs.length := (List.getElem?_eq_some_iff.1 hi).1
    rw [List.getElem?_take, if_pos hil] at h1
    simp only [Nat.zero_add]
    rw [hcell]; simpa using h1
  · have hi : i < ext := hi
    simp only [Nat.zero_add]
    refine ⟨by rw [hfrz]; exact hfr i hi, ?_⟩
    rw [hcell]
    have : i < C.size := by omega
    simp [this]

/-- The cells of a block that floats. -/
theorem Flt.row {c : List AV} {x : MB} (f : Flt F m h w b c x) (i n : Nat) (hin : i + n ≤ c.length) :
    ∃ vs, VRs m ((c.drop i).take n) vs ∧ vs.length = n ∧ ∀ w2 : World, w2.heap = w.heap → (loadCells ⟨x.B, x.δ + i, none⟩ n).run P w2 = .ok ⟨vs⟩ w2 := by
  obtain ⟨vs, q1, q2⟩ := cells_list (m := m) (w := w) (B := x.B) (o := x.δ + i) ((c.drop i).take n) (fun j a hj => by
    rw [List.getElem?_take] at hj
    split at hj
    · rw [List.getElem?_drop] at hj
      obtain ⟨v, r1, r2⟩ := f.cells (i + j) a hj
      exact ⟨v, by rw [Nat.add_assoc]; exact r1, r2⟩
    · cases hj)
  have hl : vs.length = n := by rw [q1.length]; simp; omega
  refine ⟨vs, q1, hl, fun w2 hw2 => ?_⟩
  have := run_loadCells_list (P := P) (w := w2) ⟨x.B, x.δ + i, none⟩ vs (fun j v hv => by rw [addr_add, ← Nat.add_assoc, cell_heap hw2]; exact q2 j v hv)
  rw [hl] at this
  exact this

/-- Cells are written behind those of a block that floats: it is another block then. -/
theorem Made.grown {c : List AV} {x : MB} {c0 : Nat} (f : Flt F m h w c0 c x) {off k : Nat} {vs : List AV} {us : List Value} (hv : VRs m vs us) (hk : off + k ≤ c.length) (hfit : off + k + vs.length ≤ x.ext)
    (hu : ∀ m', m' b = some ⟨x.B, x.δ + off, x.ext - off⟩ → VR m' u v) :
    (∀ j, j < us.length → (w.cell? ⟨x.B, x.δ + off + k + j, none⟩).isSome = true) ∧ (∀ j, j < us.length → w.frozen? ⟨x.B, x.δ + off + k + j, none⟩ = false) ∧
    Made F m w b (some x.B) u ((c.drop off).take k ++ vs) v (w.setCells x.B (x.δ + off + k) us) ⟨x.B, x.δ + off, x.ext - off⟩ := by
  have hlen := hv.length
  have h7 := f.room
  have hin : ∀ j, j < us.length → (w.cell? ⟨x.B, x.δ + off + k + j, none⟩).isSome = true := fun j hj => by
    rw [show x.δ + off + k + j = x.δ + (off + k + j) by omega]; exact (h7 (off + k + j) (by omega)).2
  have hold : ∀ j, j < off + k → (w.setCells x.B (x.δ + off + k) us).cell? ⟨x.B, x.δ + j, none⟩ = w.cell? ⟨x.B, x.δ + j, none⟩ := fun j hj =>
    World.cell?_setCells_out x.B us _ w _ (fun _ _ => by simp only; omega)
  have hsome : ∀ q, q < x.ext → ((w.setCells x.B (x.δ + off + k) us).cell? ⟨x.B, x.δ + q, none⟩).isSome = true := by
    intro q hq
    by_cases r : off + k ≤ q ∧ q < off + k + us.length
    · have := World.cell?_setCells_in x.B us (x.δ + off + k) w hin (q - (off + k)) (by omega)
      rw [show x.δ + off + k + (q - (off + k)) = x.δ + q by omega] at this
      rw [this]; rfl
    · rw [World.cell?_setCells_out x.B us _ w _ (fun _ _ => by simp only; omega)]
      exact (h7 q hq).2
  refine ⟨hin, fun j hj => by rw [show x.δ + off + k + j = x.δ + (off + k + j) by omega]; exact (h7 (off + k + j) (by omega)).1, below_setCells f.keep _ _ _ (Kept.refl F w), fun B _ hB => heap_setCells (fun q => hB (by rw [q])) _ _ _, .inl rfl,
    by rw [size_setCells]; exact f.lt, f.keep, by simp only [List.length_append, List.length_take, List.length_drop]; omega, fun j a hj => ?_, fun j hj => ⟨?_, ?_⟩, hu⟩
  · by_cases r : j < k
    · have hj' : c[off + j]? = some a := by
        rw [List.getElem?_append_left (by simp only [List.length_take, List.length_drop]; omega), List.getElem?_take, if_pos r, List.getElem?_drop] at hj
        exact hj
      obtain ⟨v, r1, r2⟩ := f.cells _ a hj'
      refine ⟨v, ?_, r2⟩
      simp only
      rw [show x.δ + off + j = x.δ + (off + j) by omega, hold _ (by omega)]
      exact r1
    · have hj' : vs[j - k]? = some a := by
        rw [List.getElem?_append_right (by simp only [List.length_take, List.length_drop]; omega)] at hj
        rw [show j - ((c.drop off).take k).length = j - k by simp only [List.length_take, List.length_drop]; omega] at hj
        exact hj
      have hlt : j - k < vs.length := (List.getElem?_eq_some_iff.1 hj').1
      obtain ⟨v, r1, r2⟩ := hv.get _ _ hj'
      refine ⟨v, ?_, r2⟩
      have := World.cell?_setCells_in x.B us (x.δ + off + k) w hin (j - k) (by omega)
      rw [show x.δ + off + k + (j - k) = x.δ + off + j by omega] at this
      simp only
      rw [this, ← r1, List.getElem?_eq_getElem (by omega)]
  · simp only at hj ⊢
    rw [World.frozen?_setCells, show x.δ + off + j = x.δ + (off + j) by omega]; exact (h7 _ (by omega)).1
  · simp only at hj ⊢
    rw [show x.δ + off + j = x.δ + (off + j) by omega]; exact hsome _ (by omega)

theorem flFind_spec {base b j : Nat} {cs : List AV} : ∀ {fl : List (Nat × List AV)}, flFind base b fl = some (j, cs) → (j, cs) ∈ fl ∧ b = base + j
  | [], h => by simp [flFind] at h
  | (q, l) :: r, h => by
    simp only [flFind] at h
    split at h
    · rename_i hq
      simp only [Option.some.injEq, Prod.mk.injEq] at h
      obtain ⟨rfl, rfl⟩ := h
      exact ⟨by simp, (Nat.eq_of_beq_eq_true hq).symm⟩
    · obtain ⟨h1, h2⟩ := flFind_spec h
      exact ⟨by simp [h1], h2⟩
theorem ownFind_spec {i b : Nat} {c : List AV} : ∀ {own : List (Nat × Nat × List AV)}, ownFind i own = some (b, c) → (i, b, c) ∈ own
  | [], h => by simp [ownFind] at h
  | (q, b', l) :: r, h => by
    simp only [ownFind] at h
    split at h
    · rename_i hq
      simp only [Option.some.injEq, Prod.mk.injEq] at h
      obtain ⟨rfl, rfl⟩ := h
      rw [Nat.eq_of_beq_eq_true hq]; simp
    · have := ownFind_spec h
      simp [this]

theorem acellsF_sound {an : List Nat} {base i : Nat} {fl : List (Nat × List AV)} (hfl : ∀ j cs, (j, cs) ∈ fl → (an.getD i 0).testBit j = true → srcOk an i j an 0 = true → ∃ x, Flt F m h w (base + j) cs x)
    {sz n : Nat} {a : AV} {l : List AV} (e : acellsF an base i fl sz n a = some l) {v : Value} (hv : VR m a v) :
    ∃ vs, VRs m l vs ∧ ∀ w2 : World, w2.heap = w.heap → (Builtin.firstCells sz n v).run P w2 = .ok ⟨vs⟩ w2 := by
  unfold acellsF at e
  split at e
  · split at e
    · rename_i j cs hf
      split at e
      · rename_i hc
        obtain ⟨hc0, rfl, hnl, hin⟩ := hc
        simp only [Bool.and_eq_true] at hc0
        simp only [Option.some.injEq] at e; subst e
        obtain ⟨g1, rfl⟩ := flFind_spec hf
        obtain ⟨x, f⟩ := hfl j cs g1 hc0.1 hc0.2
        simp only [VR] at hv
        obtain ⟨x', k, h1, rfl, _⟩ := hv
        rw [f.at_] at h1; cases h1
        obtain ⟨vs, q1, _, q2⟩ := f.row (P := P) _ _ hin
        exact ⟨vs, q1, fun w2 hw2 => by simp only [Builtin.firstCells, q2 w2 hw2]⟩
      · cases e
    · cases e
  · split at e
    · rename_i s hs
      subst hs
      simp only [Option.some.injEq] at e; subst e
      simp only [VR] at hv; subst hv
      refine ⟨(s.data.toList.take n).map fun b => .int .u8 b.toNat, VRs.of_get (by simp) fun i a v ha hv => ?_, fun w2 _ => ?_⟩
      · simp only [List.getElem?_map, Option.map_eq_some_iff] at ha hv
        obtain ⟨b, hb, rfl⟩ := ha
        obtain ⟨b', hb', rfl⟩ := hv
        rw [hb] at hb'; cases hb'
        simp [VR]
      · simp only [Builtin.firstCells, Sem.run_pure]
        congr 1
        apply Array.ext'
        simp only [Array.toList_map]
        congr 1
        have : (s.extract 0 n).data = s.data.extract 0 n := by
          simp [ByteArray.data_extract]
        rw [this]
        simp [List.extract_eq_take_drop]
    · cases e
  · cases e

theorem aapp_sound (H : HR F w0 m h w) {an : List Nat} {base i : Nat} {fl : List (Nat × List AV)} (hfl : ∀ j cs, (j, cs) ∈ fl → (an.getD i 0).testBit j = true → srcOk an i j an 0 = true → ∃ x, Flt F m h w (base + j) cs x)
    {own : Option (Nat × List AV)} (hown : ∀ b c, own = some (b, c) → ∃ x, Flt F m h w b c x) {st xt : TypeId} {s x : AV} (e : aapp P an base i own fl st xt s x = some (cs, u)) {sv xv : Value} (hs : VR m s sv) (hx : VR m x xv)
    (at_ : Array TypeId) (ha0 : at_[0]? = some st) (ha1 : at_[1]? = some xt) (rt : TypeId) (xs : Array Value) (hx0 : xs[0]? = some sv) (hx1 : xs[1]? = some xv) :
    ∃ v w' z, (Builtin.append_ at_ rt xs).run P w = .ok v w' ∧ Made F m w (base + i) (own.bind fun p => (m p.1).map (·.B)) u cs v w' z := by
  unfold aapp at e
  split at e
  · rename_i el xd h1 h2
    split at e
    · cases e
    rename_i hxd
    split at e
    · cases e
    rename_i ei h4
    split at e
    · cases e
    rename_i zv h5
    split at e
    · cases e
    rename_i hsz
    split at e
    · cases e
    rename_i n hn
    split at e
    · cases e
    rename_i new hnew
    split at e
    · cases e
    rename_i hall
    obtain ⟨nv, n1, n2⟩ := acellsF_sound (P := P) hfl hnew hx
    have A : App P m w st xt el ei n new xv := by
      refine ⟨h1, ⟨xd, h2, fun k q => hxd k q⟩, h4, ⟨zv, h5, Classical.byContradiction fun q => hsz (.inr (.inr q))⟩, fun q => hsz (.inl q), fun q => hsz (.inr (.inl q)), ?_, Classical.byContradiction fun q => hall (.inr (.inl q)), alen_sound hn hx, ?_⟩
      · cases q : new.all AV.one
        · exact absurd (.inl q) hall
        · rfl
      · exact ⟨nv, n1, n2 w rfl, n2 w.drew rfl⟩
    have hn0 : n ≠ 0 := fun q => hall (.inr (.inr q))
    have hzv : zv.cells.size = ei.size := Classical.byContradiction fun q => hsz (.inr (.inr q))
    have hl2 : nv.length = n * ei.size := by rw [n1.length]; exact A.len
    split at e
    · simp only [VR] at hs; subst hs
      split at e
      · rename_i hroom
        simp only [Option.some.injEq, Prod.mk.injEq] at e
        obtain ⟨rfl, rfl⟩ := e
        obtain ⟨c', C, q1, q2, q3, q4⟩ := run_append_grows (P := P) (w := w) (olds := []) (news := nv) h1 h2 (fun k q => hxd k q) h4 h5 A.h6 A.h7 hzv A.hx (cap := 0) (len := 0) (bs := none) rfl (n2 w.drew rfl) (by simp) hl2 (by omega) (by simpa using hroom) at_ ha0 ha1 rt xs hx0 hx1
        have hl : new.length ≤ C.size := by
          rw [q2, A.len]
          exact Nat.mul_le_mul_right _ (by omega)
        refine ⟨_, _, _, q4, Made.alloc H.dom (w2 := w.drew) (Kept.refl F w).drew rfl C el (0, 0) C.size hl (Nat.le_refl _) ?_ (fun i _ => by simp) (fun m' hm' => ?_) _⟩
        · have : nv.length = new.length := n1.length
          have h3 : C.toList.take new.length = nv := by
            rw [← this]; simpa using q3
          rw [h3]; exact n1
        · simp only [VR]
          exact ⟨_, c', hm', by simp, by omega, Nat.le_refl _, by simp, by simp only [q2]; omega⟩
      · cases e
    · rename_i b off len cap sz ex
      rcases own with _ | ⟨b', c⟩
      · cases e
      · simp only at e
        split at e
        · cases e
        rename_i hbad
        split at e
        · rename_i hroom
          have hbb : b = b' := Classical.byContradiction fun q => hbad (.inl q)
          have hszz : sz = ei.size := Classical.byContradiction fun q => hbad (.inr (.inl q))
          have hin : off + len * sz ≤ c.length := Nat.le_of_not_lt fun q => hbad (.inr (.inr (.inl q)))
          have hold : ((c.drop off).take (len * sz)).all AV.one = true := by
            cases q : ((c.drop off).take (len * sz)).all AV.one
            · exact absurd (.inr (.inr (.inr q))) hbad
            · rfl
          subst hbb
          subst hszz
          simp only [Option.some.injEq, Prod.mk.injEq] at e
          obtain ⟨rfl, rfl⟩ := e
          obtain ⟨x0, f⟩ := hown _ _ rfl
          simp only [VR] at hs
          obtain ⟨x1, cc, g1, rfl, g2, g3, g4, g5⟩ := hs
          rw [f.at_] at g1; cases g1
          have hold' : ((some (b, c) : Option (Nat × List AV)).bind fun p => (m p.1).map (·.B)) = some x0.B := by
            simp [f.at_]
          rw [hold']
          obtain ⟨ov, o1, o2, o3⟩ := f.row (P := P) off (len * ei.size) hin
          have hol : ((c.drop off).take (len * ei.size)).length = len * ei.size := by rw [← o1.length, o2]
          by_cases hgr : cc < len + n
          · obtain ⟨c', C, q1, q2, q3, q4⟩ := run_append_grows (P := P) (w := w) (olds := ov) (news := nv) h1 h2 (fun k q => hxd k q) h4 h5 A.h6 A.h7 hzv A.hx (cap := cc) (len := len) (bs := some ⟨x0.B, x0.δ + off, none⟩)
              (by simp only [Builtin.firstCells, o3 w.drew rfl]) (n2 w.drew rfl) o2 hl2 hgr hroom at_ ha0 ha1 rt xs hx0 hx1
            have hvs := o1.append n1
            have hl : ((c.drop off).take (len * ei.size) ++ new).length ≤ C.size := by
              rw [q2, List.length_append, hol, A.len, ← Nat.add_mul]
              exact Nat.mul_le_mul_right _ q1
            refine ⟨_, _, _, q4, Made.alloc H.dom (w2 := w.drew) (Kept.refl F w).drew rfl C el (0, 0) C.size hl (Nat.le_refl _) ?_ (fun i _ => by simp) (fun m' hm' => ?_) _⟩
            · rw [← hvs.length, q3]; exact hvs
            · simp only [VR]
              exact ⟨_, c', hm', by simp, q1, Nat.le_refl _, by simp, by simp only [q2]; omega⟩
          · have hext : (len + n) * ei.size ≤ cc * ei.size := Nat.mul_le_mul_right _ (by omega)
            rw [Nat.add_mul] at hext
            have hnl := A.len
            obtain ⟨k2, k3, k4⟩ := Made.grown (b := base + i) (u := AV.sl (base + i) 0 (len + n) (len + n) ei.size false) (v := .slice (some ⟨x0.B, x0.δ + off, none⟩) (len + n) cc) f (off := off) (k := len * ei.size) n1 hin (by omega) (fun m' hm' => by
              simp only [VR]
              exact ⟨_, cc, hm', by simp, by omega, Nat.le_refl _, by simp, by simp only; omega⟩)
            refine ⟨_, _, _, A.stays (by omega) (n2 w rfl) at_ ha0 ha1 rt xs hx0 hx1 _ ?_, k4⟩
            simp only [addr_add]
            have := run_storeCells_cells (P := P) x0.B (x0.δ + off + len * ei.size) nv 0 w (fun j hj => by simpa [Nat.add_assoc] using k2 j hj) (fun j hj => by simpa [Nat.add_assoc] using k3 j hj) (n1.one A.all)
            rw [← Nat.add_assoc]
            simpa using this
        · cases e
    · cases e
  · cases e

theorem alate_sound (H : HR F w0 m h w) {t : Tr AV} {o : Oper} {a : Act} (hE : OR m t a.eval o) {an : List Nat} {base i : Nat} {own : List (Nat × Nat × List AV)} {fl : List (Nat × List AV)}
    (hfl : ∀ j cs, (j, cs) ∈ fl → (an.getD i 0).testBit j = true → srcOk an i j an 0 = true → ∃ x, Flt F m h w (base + j) cs x)
    (hown : ∀ b c, ownFind i own = some (b, c) → ∃ x, Flt F m h w b c x) (e : alate P t an base i own fl o = some (cs, u)) :
    ∃ v w' z, (execOp a.eval o).run P w = .ok (.value v) w' ∧ Made F m w (base + i) ((ownFind i own).bind fun p => (m p.1).map (·.B)) u cs v w' z := by
  unfold alate at e
  split at e
  · rename_i cs' mk ha
    simp only [Option.some.injEq, Prod.mk.injEq] at e
    obtain ⟨rfl, rfl⟩ := e
    obtain ⟨v, C, el, h1, h2, h3, h4⟩ := aalloc_sound hE ha w
    exact ⟨v, _, _, h1, Made.alloc H.dom (Kept.refl F w) rfl C el (0, 0) C.size h2 (Nat.le_refl _) h3 (fun i _ => by simp) (fun m' hm' => h4 m' _ hm') _⟩
  · split at e
    · rename_i src dst x ho
      have hx := hE x (by simp [ho, Op.operands])
      split at e
      · rename_i el s hs hd hxe
        split at e
        · rename_i hel
          simp only [Option.some.injEq, Prod.mk.injEq] at e
          obtain ⟨rfl, rfl⟩ := e
          rw [hxe] at hx
          simp only [VR] at hx
          have hrun := run_bytes_of_string (P := P) w src dst el s hs hd hel
          have hc : s.size ≤ grownCap w s.size 0 el := by
            unfold grownCap; simp only [Question.cut]; omega
          have hsz : (bytesRow s (grownCap w s.size 0 el)).size = grownCap w s.size 0 el := by
            have : s.data.size = s.size := rfl
            simp only [bytesRow, Array.size_append, Array.size_map, Array.size_replicate]; omega
          refine ⟨.slice (some ⟨w.heap.size, 0, none⟩) s.size (grownCap w s.size 0 el), _, _, ?_, Made.alloc H.dom (w2 := w.drew) (Kept.refl F w).drew rfl (bytesRow s (grownCap w s.size 0 el)) el ((bytesRow s (grownCap w s.size 0 el)).size, (bytesRow s (grownCap w s.size 0 el)).size + 1) (grownCap w s.size 0 el)
            (by have : s.data.toList.length = s.size := rfl; simp only [List.length_map]; omega) (by omega) (by
              refine VRs.of_get (by have e1 : s.size = s.data.size := rfl; simp only [List.length_take, List.length_map, Array.length_toList, hsz]; omega) fun i b v hb hv => ?_
              simp only [List.getElem?_map, Option.map_eq_some_iff] at hb
              obtain ⟨c, hc1, rfl⟩ := hb
              have hi : i < s.data.toList.length := (List.getElem?_eq_some_iff.1 hc1).1
              rw [List.getElem?_take, if_pos (by simpa using hi)] at hv
              simp only [bytesRow, Array.toList_append, Array.toList_map] at hv
              rw [List.getElem?_append_left (by simpa using hi), List.getElem?_map, hc1] at hv
              simp at hv
              subst hv
              simp [VR]) (fun i hi => by simp; omega) (fun m' hm' => ?_) _⟩
          · simp only [execOp, ho, hx, Sem.run_bind, hrun, Result.andThen_ok, Sem.run_pure]
          · simp only [VR]
            exact ⟨_, grownCap w s.size 0 el, hm', by simp, hc, Nat.le_refl _, by simp, by simp⟩
        · cases e
      · cases e
    · rename_i c ho
      have hargs : ∀ (i : Nat) (x : Operand), c.args[i]? = some x → VR m (ev t x) (a.eval x) := fun i x hx => hE x (by
        simp only [ho, Op.operands, Call.operands]
        exact Array.mem_append.2 (.inr (Array.mem_of_getElem? hx)))
      have hmapg : ∀ (i : Nat) (x : Operand), c.args[i]? = some x → (c.args.map a.eval)[i]? = some (a.eval x) := fun i x hx => by simp [hx]
      split at e
      · rename_i hc
        split at e
        · rename_i s x st xt h0 h1 h2 h3
          obtain ⟨v, w', z, q1, q2⟩ := aapp_sound (P := P) H hfl hown e (hargs 0 s h0) (hargs 1 x h1) c.argTypes h2 h3 o.type (c.args.map a.eval) (hmapg 0 s h0) (hmapg 1 x h1)
          exact ⟨v, w', z, by simp only [execOp, ho, resolve, hc, Sem.run_bind, Sem.run_pure, Result.andThen_ok, invoke, builtin, q1], q2⟩
        · cases e
      · cases e
    · cases e
end
end Go.YtcgafaecdjbmiaaAbs
