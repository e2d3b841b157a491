/- Contracts of slab: what it is, New. -/
import Derived.Test.YtmoigchjmmjljaaFacts
import Derived.Test.YtmoigchjmmjljaaAbsO
import Derived.Test.YtmoigchjmmjljaaBytes
import Derived.Test.YtmoigchjmmjljaaAbsZ
namespace Go.Proofs.Ytmoigchjmmjljaa
open Go Go.YtmoigchjmmjljaaAbs
set_option linter.unusedSimpArgs false
set_option linter.unusedVariables false
set_option maxRecDepth 4000

/-- A class: also where its free list and its map stand. -/
structure Cl where
  size : Nat
  free : List Nat
  live : List (Nat × ByteArray × Nat)
  cl : Nat
  count : Nat
  fv : AV
  mb : Nat
def Cl.c (c : Cl) : List AV := [.int .i64 (c.size : Nat), c.fv, .mp c.mb, .int .i64 (c.count : Nat)]
def Cl.at (c : Cl) : List AV := [c.fv, .mp c.mb]
theorem Cl.c_len (c : Cl) : c.c.length = 4 := rfl
theorem Cl.at_len (c : Cl) : c.at.length = 2 := rfl
def nn (n : Nat) : AV := .int .i64 (n : Nat)
def me (x : Nat × ByteArray × Nat) : AV × AV × Nat := (.int .i64 (x.1 : Nat), .str x.2.1, x.2.2)
structure Sb where
  page : Nat
  left : Nat
  used : Nat
  cls : List Cl
def fpS (b : Nat) (s : Sb) (vc : AV) : List Nat := blks (.ptr b 0 :: vc :: cat Cl.at s.cls)
structure SlO (h : Heap) (b : Nat) (s : Sb) (vc : AV) : Prop where
  str : h.get b = some (.cells [.int .i64 (s.page : Nat), .int .i64 (s.left : Nat), .int .i64 (s.used : Nat), vc] false)
  lt : b < h.next
  own : Mine 4 s.cls.length h vc (cat Cl.c s.cls)
  free : ∀ c, c ∈ s.cls → Mine 1 c.free.length h c.fv (c.free.map nn)
  live : ∀ c, c ∈ s.cls → h.get c.mb = some (.map (c.live.map me) c.cl) ∧ c.mb < h.next
  apart : Apart (.ptr b 0 :: vc :: cat Cl.at s.cls)
section
variable {h h' : Heap} {b : Nat} {s : Sb} {vc : AV}
theorem mem_at {cls : List Cl} {c : Cl} (hc : c ∈ cls) : c.fv ∈ cat Cl.at cls ∧ AV.mp c.mb ∈ cat Cl.at cls := by
  unfold cat
  constructor <;> exact List.mem_flatten.2 ⟨c.at, List.mem_map.2 ⟨c, hc, rfl⟩, by simp [Cl.at]⟩
theorem at_mem {cls : List Cl} {v : AV} (h : v ∈ cat Cl.at cls) : ∃ c, c ∈ cls ∧ (v = c.fv ∨ v = .mp c.mb) := by
  unfold cat at h
  obtain ⟨l, hl, hv⟩ := List.mem_flatten.1 h
  obtain ⟨c, hc, rfl⟩ := List.mem_map.1 hl
  simp [Cl.at] at hv
  exact ⟨c, hc, hv⟩
theorem fpS_b : b ∈ fpS b s vc := mem_blks.2 ⟨.ptr b 0, by simp, rfl⟩
theorem fpS_vc {d : Nat} (hd : Has vc d) : d ∈ fpS b s vc := mem_blks.2 ⟨vc, by simp, hd⟩
theorem fpS_fv {c : Cl} (hc : c ∈ s.cls) {d : Nat} (hd : Has c.fv d) : d ∈ fpS b s vc := mem_blks.2 ⟨c.fv, by simp [(mem_at hc).1], hd⟩
theorem fpS_mb {c : Cl} (hc : c ∈ s.cls) : c.mb ∈ fpS b s vc := mem_blks.2 ⟨.mp c.mb, by simp [(mem_at hc).2], rfl⟩
theorem SlO.fp_lt (O : SlO h b s vc) {d : Nat} (hd : d ∈ fpS b s vc) : d < h.next := by
  obtain ⟨u, hu, hu'⟩ := mem_blks.1 hd
  simp only [List.mem_cons] at hu
  rcases hu with rfl | rfl | hu
  · cases hu'; exact O.lt
  · exact O.own.lt hu'
  · obtain ⟨c, hc, rfl | rfl⟩ := at_mem hu
    · exact (O.free c hc).lt hu'
    · cases hu'; exact (O.live c hc).2
theorem SlO.keep {F : Nat → Prop} (O : SlO h b s vc) (K : Keep h.next F h h') (hF : ∀ d, d ∈ fpS b s vc → ¬ F d) : SlO h' b s vc :=
  ⟨by rw [K.2 b O.lt (hF b fpS_b)]; exact O.str, Nat.lt_of_lt_of_le O.lt K.1, O.own.keep K fun d hd => hF d (fpS_vc hd), fun c hc => (O.free c hc).keep K fun d hd => hF d (fpS_fv hc hd),
    fun c hc => ⟨by rw [K.2 c.mb (O.live c hc).2 (hF _ (fpS_mb hc))]; exact (O.live c hc).1, Nat.lt_of_lt_of_le (O.live c hc).2 K.1⟩, O.apart⟩
theorem SlO.ext (O : SlO h b s vc) (K : Keep h.next nob h h') : SlO h' b s vc := O.keep K fun _ _ q => q
theorem SlO.ld0 (O : SlO h b s vc) {ty : TypeId} (ht : tagg Try.prog ty = some false) : aload Try.prog h ty b 0 = some (.int .i64 (s.page : Nat)) := ldc O.str ht rfl
theorem SlO.ld1 (O : SlO h b s vc) {ty : TypeId} (ht : tagg Try.prog ty = some false) : aload Try.prog h ty b 1 = some (.int .i64 (s.left : Nat)) := ldc O.str ht rfl
theorem SlO.ld2 (O : SlO h b s vc) {ty : TypeId} (ht : tagg Try.prog ty = some false) : aload Try.prog h ty b 2 = some (.int .i64 (s.used : Nat)) := ldc O.str ht rfl
theorem SlO.ld3 (O : SlO h b s vc) {ty : TypeId} (ht : tagg Try.prog ty = some false) : aload Try.prog h ty b 3 = some vc := ldc O.str ht rfl
end
theorem apart_snoc {l : List AV} (a : Apart l) {v : AV} (hv : ∀ c, Has v c → c ∉ blks l) : Apart (l ++ [v]) := by
  unfold Apart at *
  rw [blks_append, List.nodup_append]
  refine ⟨a, ?_, fun x hx y hy q => ?_⟩
  · rw [blks_cons, blks_nil, List.append_nil]
    split <;> simp
  · subst q
    obtain ⟨u, hu, hu'⟩ := mem_blks.1 hy
    rw [List.mem_singleton.1 hu] at hu'
    exact hv x hu' hx
/-- A class is put behind the others. -/
theorem SlO.snoc {h : Heap} {b : Nat} {s : Sb} {vc : AV} (O : SlO h b s vc) (hl : s.cls.length < 100000) (sz : Nat) :
    ∃ v' h5 h6, aappend Try.prog ((h.new (.map [] 0)).new (.cells [.int .i64 (sz : Nat), .nils, .mp h.next, .int .i64 0] false)) 61 61 vc (.sl (h.next + 1) 0 1 1 4 true) = some (v', h5) ∧ v'.one = true ∧
      alay h5 b 3 [v'] = some h6 ∧ SlO h6 b { s with cls := s.cls ++ [⟨sz, [], [], 0, 0, .nils, h.next⟩] } v' ∧ (∀ d, d ∈ fpS b { s with cls := s.cls ++ [⟨sz, [], [], 0, 0, .nils, h.next⟩] } v' → d ∈ fpS b s vc ∨ h.next ≤ d) ∧ Keep h.next (fun d => d ∈ fpS b s vc) h h6 := by
  have k3 : Keep h.next nob h (h.new (.map [] 0)) := Keep.new (Nat.le_refl _) _
  have g3 : (h.new (.map [] 0)).get h.next = some (.map [] 0) := get_new_self _ _
  have n3 : (h.new (.map [] 0)).next = h.next + 1 := rfl
  generalize h.new (.map [] 0) = h3 at *
  have O3 := O.ext k3
  obtain ⟨v', h5, E5, M5, Fr, K5⟩ := O3.own.push (P := Try.prog) el61 (a := [.int .i64 (sz : Nat), .nils, .mp h.next, .int .i64 0]) (ex := true) rfl rfl (by omega)
  rw [n3] at E5
  have hb : ∀ d, Has vc d → d ≠ b := fun d hd q => by
    have := O.apart.get (i := 1) (j := 0) rfl rfl hd (show Has (.ptr b 0) d by rw [q]; rfl)
    omega
  have K6 : Keep h5.next (fun d => d = b) h5 (h5.set b (.cells [.int .i64 (s.page : Nat), .int .i64 (s.left : Nat), .int .i64 (s.used : Nat), v'] false)) := Keep.set (F := fun d => d = b) (.inl rfl) _
  have g5 : h5.get b = some (.cells [.int .i64 (s.page : Nat), .int .i64 (s.left : Nat), .int .i64 (s.used : Nat), vc] false) := by rw [K5.2 b O3.lt (fun q => hb b q rfl)]; exact O3.str
  have hv' : ∀ d, Has v' d → Has vc d ∨ h.next + 1 ≤ d := fun d hd => by rw [← n3]; exact Fr d hd
  have hv'b : ∀ d, Has v' d → d ≠ b := fun d hd q => by
    rcases hv' d hd with z | z
    · exact hb d z q
    · have := O.lt; omega
  -- beside the slice of classes
  have beside : ∀ c, c ∈ s.cls → (∀ d, Has c.fv d → ¬ Has vc d ∧ d ≠ b) ∧ ¬ Has vc c.mb ∧ c.mb ≠ b := fun c hc => by
    have key : ∀ u, u ∈ cat Cl.at s.cls → ∀ d, Has u d → ¬ Has vc d ∧ d ≠ b := fun u hu d hd => by
      obtain ⟨i, hi⟩ := List.getElem?_of_mem hu
      refine ⟨fun q => ?_, fun q => ?_⟩
      · have := O.apart.get (i := i + 2) (j := 1) (by simpa using hi) rfl hd q
        omega
      · have := O.apart.get (i := i + 2) (j := 0) (by simpa using hi) rfl hd (show Has (.ptr b 0) d by rw [q]; rfl)
        omega
    exact ⟨key _ (mem_at hc).1, key _ (mem_at hc).2 _ rfl⟩
  have n5 := K5.1
  refine ⟨v', h5, _, E5, M5.oneV, by unfold alay; rw [g5]; rfl, ⟨get_set_self _ _ _, Nat.lt_of_lt_of_le O3.lt K5.1, ?_, ?_, ?_, ?_⟩, ?_, ?_⟩
  · have : cat Cl.c (s.cls ++ [⟨sz, [], [], 0, 0, .nils, h.next⟩]) = cat Cl.c s.cls ++ [.int .i64 (sz : Nat), .nils, .mp h.next, .int .i64 0] := by rw [cat_append, cat_one]; rfl
    simp only [this, List.length_append, List.length_singleton]
    exact M5.keep K6 fun d hd => hv'b d hd
  · intro c hc
    rcases List.mem_append.1 hc with hc | hc
    · obtain ⟨z1, z2⟩ := beside c hc
      exact ((O3.free c hc).keep K5 fun d hd => (z1 d hd).1).keep K6 fun d hd => (z1 d hd).2
    · rw [List.mem_singleton.1 hc]
      exact Mine.nil _ _
  · intro c hc
    rcases List.mem_append.1 hc with hc | hc
    · obtain ⟨z1, z2, z3⟩ := beside c hc
      have := O3.live c hc
      exact ⟨by rw [K6.2 _ (Nat.lt_of_lt_of_le this.2 K5.1) z3, K5.2 _ this.2 z2]; exact this.1, Nat.lt_of_lt_of_le this.2 K5.1⟩
    · rw [List.mem_singleton.1 hc]
      refine ⟨?_, by show h.next < h5.next; omega⟩
      show (h5.set b _).get h.next = _
      rw [K6.2 _ (by omega) (by have := O.lt; omega), K5.2 _ (by omega) (fun q => by have := O.own.lt q; omega)]
      exact g3
  · show Apart (.ptr b 0 :: v' :: cat Cl.at (s.cls ++ [_]))
    rw [cat_append, cat_one]
    have A1 : Apart (.ptr b 0 :: v' :: cat Cl.at s.cls) := O.apart.set (i := 1) rfl fun c hc => by
      rcases hv' c hc with z | z
      · exact .inl z
      · exact .inr fun q => by have := O.fp_lt q; omega
    have A2 := apart_snoc A1 (v := .nils) fun c hc => by cases hc
    have A3 := apart_snoc A2 (v := .mp h.next) fun c hc q => by
      cases hc
      rw [blks_append] at q
      rcases List.mem_append.1 q with q | q
      · rw [show (.ptr b 0 :: v' :: cat Cl.at s.cls : List AV) = (.ptr b 0 :: vc :: cat Cl.at s.cls).set 1 v' from rfl] at q
        rcases blks_set q with q | q
        · rcases hv' _ q with z | z
          · have := O.own.lt z; omega
          · omega
        · have := O.fp_lt q; omega
      · simp [blks_cons] at q
    simpa [Cl.at] using A3
  · intro d hd
    have hd : d ∈ blks (.ptr b 0 :: v' :: cat Cl.at (s.cls ++ [⟨sz, [], [], 0, 0, .nils, h.next⟩])) := hd
    obtain ⟨u, hu, hu'⟩ := mem_blks.1 hd
    rw [cat_append, cat_one] at hu
    simp only [List.mem_cons, List.mem_append] at hu
    rcases hu with rfl | rfl | hu | hu
    · exact .inl (mem_blks.2 ⟨_, by simp, hu'⟩)
    · rcases hv' _ hu' with z | z
      · exact .inl (fpS_vc z)
      · exact .inr (by omega)
    · exact .inl (mem_blks.2 ⟨u, by simp [hu], hu'⟩)
    · simp [Cl.at] at hu
      rcases hu with rfl | rfl
      · cases hu'
      · cases hu'; exact .inr (Nat.le_refl _)
  · refine ⟨Nat.le_trans (by omega) K5.1, fun d hd hn => ?_⟩
    rw [K6.2 d (by omega) (fun q => hn (q ▸ fpS_b)), K5.2 d (by omega) (fun q => hn (fpS_vc q)), k3.2 d hd id]
end Go.Proofs.Ytmoigchjmmjljaa
