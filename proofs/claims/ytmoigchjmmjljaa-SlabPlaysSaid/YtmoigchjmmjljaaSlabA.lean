/- Contracts of slab: Alloc. -/
import Derived.Test.YtmoigchjmmjljaaSlabU
namespace Go.Proofs.Ytmoigchjmmjljaa
open Go Go.YtmoigchjmmjljaaAbs
set_option linter.unusedSimpArgs false
set_option linter.unusedVariables false
set_option maxRecDepth 4000

/-- What stands under a number. -/
def lk (n : Nat) : List (Nat × ByteArray × Nat) → Option (Nat × ByteArray × Nat)
  | [] => none
  | x :: L => if x.1 = n then some (0, x.2.1, x.2.2) else (lk n L).map fun y => (y.1 + 1, y.2)
theorem afind_me (n : Nat) : ∀ (L : List (Nat × ByteArray × Nat)) (i : Nat), afind (.int .i64 (n : Nat)) (L.map me) i = some ((lk n L).map fun y => (y.1 + i, .str y.2.1, y.2.2))
  | [], i => rfl
  | x :: L, i => by
    simp only [List.map_cons, afind, me, keyEq, if_true, lk]
    by_cases h : x.1 = n
    · rw [if_pos h, decide_eq_true (by rw [h])]
      simp
    · rw [if_neg h, decide_eq_false (by omega)]
      simp only
      rw [afind_me n L (i + 1)]
      cases lk n L <;> simp
      omega
/-- It is put. -/
def lput (n : Nat) (d : ByteArray) (L : List (Nat × ByteArray × Nat)) (cl : Nat) : List (Nat × ByteArray × Nat) × Nat := match lk n L with
  | some y => (L.set y.1 (n, d, y.2.2), cl)
  | none => (L ++ [(n, d, cl)], cl + 1)
theorem amput_me (n : Nat) (d : ByteArray) (L : List (Nat × ByteArray × Nat)) (cl : Nat) : amput (L.map me) cl (.int .i64 (n : Nat)) (.str d) = some (.map ((lput n d L cl).1.map me) (lput n d L cl).2) := by
  unfold amput lput
  rw [afind_me]
  cases h : lk n L with
  | none => simp [me]
  | some y =>
    simp only [Option.map_some, Nat.add_zero, List.map_set]
    rfl
theorem akey_n (n : Int) : akey Try.prog 3 (.int .i64 n) = true := by unfold akey; rw [Try.underlying3]
theorem mapPut_me {h : Heap} {b n cl : Nat} {d : ByteArray} {L : List (Nat × ByteArray × Nat)} (g : h.get b = some (.map (L.map me) cl)) :
    mapPut Try.prog 64 h (.mp b) (.int .i64 (n : Nat)) (.str d) = some (.tup [], h.set b (.map ((lput n d L cl).1.map me) (lput n d L cl).2)) := by
  unfold mapPut
  rw [Try.underlying64]
  simp only [akey_n, g, amput_me, if_true]
section
variable {h : Heap} {b : Nat} {s : Sb} {vc : AV}
/-- A class's cells. -/
theorem SlO.ldc (O : SlO h b s vc) {i : Nat} {c : Cl} (hi : s.cls[i]? = some c) {o : Nat} {x : AV} (ho : o < 4) (hx : c.c[o]? = some x) {ty : TypeId} (ht : tagg Try.prog ty = some false) : aload Try.prog h ty vc.blk (vc.off + i * 4 + o) = some x := by
  have := O.own.sl.ld (P := Try.prog) ht (j := i * 4 + o) (x := x) (by rw [cat_get Cl.c_len hi ho]; exact hx)
  rwa [← Nat.add_assoc] at this
theorem SlO.at_lt (O : SlO h b s vc) {i : Nat} {c : Cl} (hi : s.cls[i]? = some c) : vc.blk < h.next := by
  obtain ⟨_, _, _, _, q⟩ := O.own.sl.cell (j := i * 4 + 0) (x := .int .i64 (c.size : Nat)) (by rw [cat_get Cl.c_len hi (by omega)]; rfl)
  exact q
end
/-- The first j of n new chunks, the last one first. -/
def fl (n cnt j : Nat) : List Nat := (List.range j).map fun t => cnt + (n - 1 - t)
theorem fl_len (n cnt j : Nat) : (fl n cnt j).length = j := by simp [fl]
theorem fl_succ (n cnt j : Nat) : fl n cnt (j + 1) = fl n cnt j ++ [cnt + (n - 1 - j)] := by unfold fl; rw [List.range_succ, List.map_append]; rfl

/-- A class with new chunks. -/
def Cl.fill (c : Cl) (n : Nat) (fv : AV) (j : Nat) : Cl := { c with free := c.free ++ fl n c.count j, fv := fv }
/-- What a class was made. -/
structure Filled (h0 : Heap) (b : Nat) (s : Sb) (vc : AV) (i : Nat) (c : Cl) (F : List Nat) (cnt left used : Nat) (h3 : Heap) (c3 : Cl) : Prop where
  free : c3.free = F
  rest : c3.size = c.size ∧ c3.mb = c.mb ∧ c3.count = cnt ∧ c3.live = c.live ∧ c3.cl = c.cl
  o : SlO h3 b ⟨s.page, left, used, s.cls.set i c3⟩ vc
  fp : ∀ e, e ∈ fpS b ⟨s.page, left, used, s.cls.set i c3⟩ vc → e ∈ fpS b s vc ∨ h0.next ≤ e
  k : Keep h0.next (fun e => e ∈ fpS b s vc) h0 h3
/-- .. is made anew. -/
theorem Filled.upd {h0 : Heap} {b : Nat} {s : Sb} {vc : AV} {i : Nat} {c : Cl} {F : List Nat} {cnt left used : Nat} {h3 h4 : Heap} {c3 : Cl} (f : Filled h0 b s vc i c F cnt left used h3 c3) (hi : i < s.cls.length) (c4 : Cl) {o : Nat} (ho : o < 4) {a : AV} (hc : c3.c.set o a = c4.c)
    (hm : c4.mb = c3.mb) (hs : c4.size = c3.size) (hone : a.one = true) (hl : c4.live = c3.live ∧ c4.cl = c3.cl) (K1 : Keep h3.next (Has c3.fv) h3 h4) (M : Mine 1 c4.free.length h4 c4.fv (c4.free.map nn)) (Fr : From h3 c3.fv c4.fv) :
    ∃ h5, alay h4 vc.blk (vc.off + i * 4 + o) [a] = some h5 ∧ Filled h0 b s vc i c c4.free c4.count left used h5 c4 := by
  obtain ⟨h5, E5, O5, f5, K5⟩ := f.o.upd (i := i) (c := c3) (by simp [hi]) c4 ho hc hm hone hl K1 M Fr
  rw [← Nat.add_assoc] at E5
  simp only [List.set_set] at O5 f5
  obtain ⟨r1, r2, r3, r4, r5⟩ := f.rest
  have hk := f.k.1
  refine ⟨h5, E5, rfl, ⟨hs.trans r1, hm.trans r2, rfl, hl.1.trans r4, hl.2.trans r5⟩, O5, fun e he => ?_, ⟨Nat.le_trans f.k.1 K5.1, fun e he hn => ?_⟩⟩
  · rcases f5 e he with z | z
    · exact f.fp e z
    · exact .inr (by omega)
  · rw [K5.2 e (by omega) (fun q => by rcases f.fp e q with z | z; exact hn z; omega), f.k.2 e he hn]
theorem Filled.get {h0 : Heap} {b : Nat} {s : Sb} {vc : AV} {i : Nat} {c : Cl} {F : List Nat} {cnt left used : Nat} {h3 : Heap} {c3 : Cl} (f : Filled h0 b s vc i c F cnt left used h3 c3) (hi : i < s.cls.length) : (s.cls.set i c3)[i]? = some c3 := by simp [hi]
set_option maxHeartbeats 4000000 in
/-- Alloc, where there is a chunk. -/
theorem alloc_ok (k : Nat) (hk : 70000 < k) (h : Heap) (b : Nat) (s : Sb) (vc : AV) (O : SlO h b s vc) (hl : s.cls.length ≤ 20) (d : ByteArray) (hd : d.size ≤ maxLen) {i : Nat} {c : Cl} (hc : clsE (d.size : Nat) s.cls = some i) (hi : s.cls[i]? = some c)
    (hp : s.page ≤ 65536) (hlu : s.left ≤ 1000 ∧ s.used ≤ 1000) (hs : 1 ≤ c.size ∧ c.size ≤ s.page) (hcnt : c.count ≤ 1000000000) (hfl : c.free.length ≤ 100000000) (hroom : c.free ≠ [] ∨ s.left ≠ 0) :
    ∃ v' h', acall Try.prog (k + 2) 13 [.ptr b 0, .str d] h = some (v', h') ∧ ∃ (c2 : Cl) (F : List Nat) (cnt left used K : Nat),
      F = (if c.free = [] then fl (s.page / c.size) c.count (s.page / c.size) else c.free) ∧ cnt = (if c.free = [] then c.count + s.page / c.size else c.count) ∧ left = (if c.free = [] then s.left - 1 else s.left) ∧ used = (if c.free = [] then s.used + 1 else s.used) ∧ F[F.length - 1]? = some K ∧
      v' = .tup [.agg [.int .i64 (i : Nat), .int .i64 (K : Nat)], .int .i64 0] ∧ c2.size = c.size ∧ c2.free = F.take (F.length - 1) ∧ c2.count = cnt ∧ (c2.live, c2.cl) = lput K d c.live c.cl ∧
      SlO h' b ⟨s.page, left, used, s.cls.set i c2⟩ vc ∧ (∀ e, e ∈ fpS b ⟨s.page, left, used, s.cls.set i c2⟩ vc → e ∈ fpS b s vc ∨ h.next ≤ e) ∧ Keep h.next (fun e => e ∈ fpS b s vc) h h' := by
  have hil := (List.getElem?_eq_some_iff.1 hi).1
  obtain ⟨h1, e1⟩ : ∃ h1, h.new (.cells [.int .i64 0, .int .i64 0] false) = h1 := ⟨_, rfl⟩
  have k1 : Keep h.next nob h h1 := by rw [← e1]; exact Keep.new (Nat.le_refl _) _
  have n1 : h.next < h1.next := by rw [← e1]; exact Nat.lt_succ_self _
  have g1 : h1.get h.next = some (.cells [.int .i64 0, .int .i64 0] false) := by rw [← e1]; exact get_new_self _ _
  have O1 := O.ext k1
  obtain ⟨_, h2, E2, rfl, k2⟩ := class_ok k (by omega) h1 b s vc O1 hl (d.size : Nat)
  have ecz : (if ((d.size : Nat) : Int) < 0 then (-1 : Int) else clsZ (d.size : Nat) s.cls) = (i : Nat) := by
    rw [if_neg (by omega)]; unfold clsZ; rw [hc]
  rw [ecz] at E2
  have O2 := O1.ext k2
  have K2 := k1.trans (k2.weak k1.1 fun _ _ q => q)
  have n2 : h.next < h2.next := Nat.lt_of_lt_of_le n1 k2.1
  have g2 : h2.get h.next = some (.cells [.int .i64 0, .int .i64 0] false) := (k2.2 _ n1 id).trans g1
  have hfn : h.next ∉ fpS b s vc := fun q => by have := O.fp_lt q; omega
  have ix2 := O2.own.sl.idx (P := Try.prog) Try.underlying61 ts66 (j := i) hil .i64
  have lf2 := O2.ldc hi (o := 1) (x := c.fv) (by omega) rfl (ty := 27) ta27
  have lz2 := fun (h' : Heap) (left used : Nat) (O' : SlO h' b ⟨s.page, left, used, s.cls⟩ vc) => O'.ldc hi (o := 0) (x := .int .i64 (c.size : Nat)) (by omega) rfl (ty := 3) ta3
  have flen := (O2.free c (List.mem_of_getElem? hi)).sl.len'
  obtain ⟨N, hN⟩ : ∃ N, N = s.page / c.size := ⟨_, rfl⟩
  have hN1 : 1 ≤ N := by rw [hN]; exact (Nat.le_div_iff_mul_le (by omega)).2 (by omega)
  have hN2 : N ≤ 65536 := by rw [hN]; exact Nat.le_trans (Nat.div_le_self _ _) hp
  obtain ⟨F, hF⟩ : ∃ F, F = (if c.free = [] then fl N c.count N else c.free) := ⟨_, rfl⟩
  obtain ⟨cnt, hcn⟩ : ∃ cnt, cnt = (if c.free = [] then c.count + N else c.count) := ⟨_, rfl⟩
  obtain ⟨left, hle⟩ : ∃ left, left = (if c.free = [] then s.left - 1 else s.left) := ⟨_, rfl⟩
  obtain ⟨used, hus⟩ : ∃ used, used = (if c.free = [] then s.used + 1 else s.used) := ⟨_, rfl⟩
  have hFl : 1 ≤ F.length ∧ F.length ≤ 100000000 := by
    rw [hF]
    split
    · rw [fl_len]; omega
    · rename_i q
      have := List.length_pos_iff.2 q
      omega
  rw [acall_text [14] Try.func13 (by kernel_rfl)]
  refine afuncT_ex rfl (by simp [Try.f13]) ?_
  simp [Try.f13, e1, E2, -W_regionL, W_stopL 4]
  simp [O2.ld3, ix2, lf2, flen, -W_cond]
  refine W_cutN (fun st => ∃ c3, st.t.get 1 = some (.str d) ∧ st.t.get 4 = some (.ptr h.next 0) ∧ st.t.get 6 = some (.int .i64 (i : Nat)) ∧ st.t.get 7 = some (.ptr vc.blk (vc.off + i * 4)) ∧ Filled h2 b s vc i c F cnt left used st.h c3) ?_ ?_
  · by_cases hf : c.free = []
    rotate_left
    · rw [if_neg hf] at hF hcn hle hus
      subst hF hcn hle hus
      simp [hf]
      have es : s.cls.set i c = s.cls := set_same hi
      exact ⟨c, rfl, ⟨rfl, rfl, rfl, rfl, rfl⟩, by rw [es]; exact O2, fun e he => .inl (by rw [es] at he; exact he), Keep.refl _ _ _⟩
    rw [if_pos hf] at hF hcn hle hus
    have hl0 : s.left ≠ 0 := hroom.resolve_left (fun q => q hf)
    have al8 : alay h2 b 1 [.int .i64 ((s.left : Int) - 1)] = some (h2.set b (.cells [.int .i64 (s.page : Nat), .int .i64 (left : Nat), .int .i64 (s.used : Nat), vc] false)) := by
      have : ((s.left : Int) - 1) = (left : Nat) := by omega
      rw [this]; unfold alay; rw [O2.str]; rfl
    obtain ⟨O3, K3⟩ := O2.setS left s.used
    have n3 : (h2.set b (.cells [.int .i64 (s.page : Nat), .int .i64 (left : Nat), .int .i64 (s.used : Nat), vc] false)).next = h2.next := rfl
    generalize h2.set b (.cells [.int .i64 (s.page : Nat), .int .i64 (left : Nat), .int .i64 (s.used : Nat), vc] false) = h3 at *
    have al9 : alay h3 b 2 [.int .i64 ((s.used : Int) + 1)] = some (h3.set b (.cells [.int .i64 (s.page : Nat), .int .i64 (left : Nat), .int .i64 (used : Nat), vc] false)) := by
      have : ((s.used : Int) + 1) = (used : Nat) := by omega
      rw [this]; unfold alay; rw [O3.str]; rfl
    obtain ⟨O4, K4⟩ := O3.setS left used
    have n4 : (h3.set b (.cells [.int .i64 (s.page : Nat), .int .i64 (left : Nat), .int .i64 (used : Nat), vc] false)).next = h3.next := rfl
    generalize h3.set b (.cells [.int .i64 (s.page : Nat), .int .i64 (left : Nat), .int .i64 (used : Nat), vc] false) = h4 at *
    have w8 := i64w ((s.left : Int) - 1) (by omega) (by omega)
    have w9 := i64w ((s.used : Int) + 1) (by omega) (by omega)
    have lz4 := lz2 h4 left used O4
    have K24 : Keep h2.next (fun e => e ∈ fpS b s vc) h2 h4 := K3.trans (by rw [← n3]; exact K4)
    have hsz0 : ¬ ((c.size : Int) = 0) := by omega
    have hsz1 : ¬ (c.size = 0) := by omega
    have hdiv : ((s.page : Int)).tdiv (c.size : Int) = (N : Nat) := by rw [hN]; rfl
    have wN := i64w (N : Int) (by omega) (by omega)
    have wN1 := i64w ((N : Int) - 1) (by omega) (by omega)
    have O2l := O2.ld1 (ty := 3) ta3
    have O3l := O3.ld2 (ty := 3) ta3
    have O4l := O4.ld0 (ty := 3) ta3
    simp only [Nat.add_zero] at lz4 O3l O4l
    have fl0 : Filled h2 b s vc i c (fl N c.count 0) c.count left used h4 c := by
      have es : s.cls.set i c = s.cls := set_same hi
      exact ⟨hf, ⟨rfl, rfl, rfl, rfl, rfl⟩, by rw [es]; exact O4, fun e he => .inl (by rw [es] at he; exact he), K24⟩
    simp [hf, O2l, hl0, w8, al8, O3l, w9, al9, O4l, lz4, hsz0, hsz1, hdiv, wN, wN1]
    refine W_cutLoop 0 (fun st => ∃ c3, st.t.get 1 = some (.str d) ∧ st.t.get 4 = some (.ptr h.next 0) ∧ st.t.get 6 = some (.int .i64 (i : Nat)) ∧ st.t.get 7 = some (.ptr vc.blk (vc.off + i * 4)) ∧ st.t.get 8 = some (.int .i64 (N : Nat)) ∧ Filled h2 b s vc i c (fl N c.count N) c.count left used st.h c3) ?_ ?_
    · refine W_loop (fun m st => ∃ (j : Nat) (c3 : Cl), m = N - j ∧ j ≤ N ∧ st.t.get 1 = some (.str d) ∧ st.t.get 4 = some (.ptr h.next 0) ∧ st.t.get 6 = some (.int .i64 (i : Nat)) ∧ st.t.get 7 = some (.ptr vc.blk (vc.off + i * 4)) ∧ st.t.get 8 = some (.int .i64 (N : Nat)) ∧ st.t.get 9 = some (.int .i64 ((N : Int) - 1 - j)) ∧
        Filled h2 b s vc i c (fl N c.count j) c.count left used st.h c3) N (by omega)
        ⟨0, c, by omega, by omega, by simp, by simp, by simp, by simp, by simp, by simp, fl0⟩ ?_
      rintro m ⟨t, h5⟩ ⟨j, c3, rfl, hj, q1, q4, q6, q7, q8, q9, f⟩
      simp only at q1 q4 q6 q7 q8 q9 f
      obtain ⟨R, hR⟩ : ∃ R : Int, R = (N : Int) - 1 - j := ⟨_, rfl⟩
      rw [← hR] at q9
      by_cases hlt : j < N
      · have gi := f.get hil
        have lf5 := f.o.ldc gi (o := 1) (x := c3.fv) (by omega) rfl (ty := 27) ta27
        have lc5 := f.o.ldc gi (o := 3) (x := .int .i64 (c3.count : Nat)) (by omega) rfl (ty := 3) ta3
        have vb := f.o.at_lt gi
        obtain ⟨E, hE⟩ : ∃ E : Nat, E = c.count + (N - 1 - j) := ⟨_, rfl⟩
        have eE : (c3.count : Int) + R = (E : Nat) := by rw [f.rest.2.2.1]; omega
        have wE := i64w (E : Int) (by omega) (by omega)
        obtain ⟨h6, e6⟩ : ∃ h6, h5.new (.cells [.int .i64 (E : Nat)] false) = h6 := ⟨_, rfl⟩
        have k6 : Keep h5.next nob h5 h6 := by rw [← e6]; exact Keep.new (Nat.le_refl _) _
        obtain ⟨v7, h7, E7, M7, Fr7, K7⟩ := (f.o.free c3 (List.mem_of_getElem? gi)).push (P := Try.prog) el27 (a := [.int .i64 (E : Nat)]) (ex := true) rfl rfl (by rw [f.free, fl_len]; omega)
        rw [e6] at E7
        obtain ⟨h8, E8, f8⟩ := f.upd hil { c3 with free := c3.free ++ [E], fv := v7 } (o := 1) (by omega) (a := v7) rfl rfl rfl M7.oneV ⟨rfl, rfl⟩ K7 (by simp only [List.length_append, List.length_singleton, List.map_append]; exact M7) Fr7
        simp only at f8
        rw [f.free, f.rest.2.2.1, hE, ← fl_succ] at f8
        have w10 := i64w (R - 1) (by omega) (by omega)
        have ro := row1_one M7.oneV
        have A6 : Agree h5.next h5 h6 := fun e he => k6.2 e he id
        simp [q1, q4, q6, q7, q8, q9, isLe (show (0 : Int) ≤ R by omega)]
        refine W_split 12 h5.next (by rfl) (by kernel_rfl) (by rfl) ?_
        dsimp only [List.take, List.drop]
        have sfv : sameAV c3.fv c3.fv = true := (f.o.free c3 (List.mem_of_getElem? gi)).sl.same
        simp [q1, q4, q6, q7, q8, q9, obl, mayEff, mayRead, sameAV, vb, lf5, sfv, lc5, eE, wE, aalloc, afill, e6, A6, E7, ro, E8, w10]
        exact ⟨N - (j + 1), by omega, j + 1, rfl, by omega, by omega, _, f8⟩
      · have : j = N := by omega
        subst this
        simp [q1, q4, q6, q7, q8, q9, isLt (show R < 0 by omega)]
        exact ⟨c3, f⟩
    rintro ⟨t, h5⟩ ⟨c3, q1, q4, q6, q7, q8, f⟩
    simp only at q1 q4 q6 q7 q8 f
    have gi := f.get hil
    have lc5 := f.o.ldc gi (o := 3) (x := .int .i64 (c3.count : Nat)) (by omega) rfl (ty := 3) ta3
    have M3 := f.o.free c3 (List.mem_of_getElem? gi)
    obtain ⟨h6, E6, f6⟩ := f.upd hil { c3 with count := cnt } (o := 3) (by omega) (a := .int .i64 (cnt : Nat)) rfl rfl rfl rfl ⟨rfl, rfl⟩ (Keep.refl _ _ _) M3 (From.refl _ _)
    simp only at f6
    rw [f.free, ← hF] at f6
    have ec : (c3.count : Int) + (N : Int) = (cnt : Nat) := by rw [f.rest.2.2.1, hcn]; rfl
    have wc := i64w (cnt : Int) (by omega) (by omega)
    simp [q1, q4, q6, q7, q8, lc5, ec, wc, E6]
    exact ⟨_, f6⟩
  rintro ⟨t, h5⟩ ⟨c3, q1, q4, q6, q7, f⟩
  simp only at q1 q4 q6 q7 f
  obtain ⟨L0, hL0⟩ : ∃ L0, F.length = L0 + 1 := ⟨F.length - 1, by omega⟩
  obtain ⟨K, hK⟩ : ∃ K, F[L0]? = some K := ⟨F[L0]'(by omega), by simp⟩
  have gi := f.get hil
  have lf5 := f.o.ldc gi (o := 1) (x := c3.fv) (by omega) rfl (ty := 27) ta27
  have M3 := f.o.free c3 (List.mem_of_getElem? gi)
  rw [f.free, hL0] at M3
  have l5 := M3.sl.len'
  have ix5 := M3.sl.idx1 (P := Try.prog) Try.underlying27 ts3 (j := L0) (by omega) .i64
  have ld5 := M3.sl.ld (P := Try.prog) ta3 (j := L0) (x := .int .i64 (K : Nat)) (by rw [List.getElem?_map, hK]; rfl)
  obtain ⟨v6, E6, M6, a6⟩ := M3.to (P := Try.prog) (ty := 27) Try.underlying27 ts3 (k := .i64) (j := L0) (by omega)
  rw [Nat.mul_one, ← List.map_take] at M6
  have lt0 : (F.take L0).length = L0 := by rw [List.length_take]; omega
  have r6 := row1_one M6.oneV
  obtain ⟨h6, A6, f6⟩ := f.upd hil { c3 with free := F.take L0, fv := v6 } (o := 1) (by omega) (a := v6) rfl rfl rfl M6.oneV ⟨rfl, rfl⟩ (Keep.refl _ _ _) (by simp only [lt0]; exact M6) (fun e he => .inl (by unfold Has at *; rw [← a6]; exact he))
  simp only at f6
  have g6 := f6.get hil
  have lm6 := f6.o.ldc g6 (o := 2) (x := .mp c3.mb) (by omega) rfl (ty := 64) ta64
  have lv6 := (f6.o.live _ (List.mem_of_getElem? g6)).1
  simp only at lv6
  have E7 := mapPut_me (n := K) (d := d) lv6
  obtain ⟨O7, fp7, K7⟩ := f6.o.updM g6 (lput K d c3.live c3.cl).1 (lput K d c3.live c3.cl).2
  simp only [List.set_set] at O7 fp7 K7
  obtain ⟨h7, e7⟩ : ∃ h7, h6.set c3.mb (.map ((lput K d c3.live c3.cl).1.map me) (lput K d c3.live c3.cl).2) = h7 := ⟨_, rfl⟩
  rw [e7] at E7 O7 K7
  have hk6 := f6.k.1
  have nfp : h.next ∉ fpS b ⟨s.page, left, used, s.cls.set i { c3 with free := F.take L0, fv := v6 }⟩ vc := fun q => by
    rcases f6.fp _ q with z | z
    · exact hfn z
    · omega
  have g7 : h7.get h.next = some (.cells [.int .i64 0, .int .i64 0] false) := by
    rw [K7.2 _ (by omega) nfp, f6.k.2 _ n2 hfn]
    exact g2
  have A8 : alay h7 h.next 0 [.int .i64 (i : Nat), .int .i64 (K : Nat)] = some (h7.set h.next (.cells [.int .i64 (i : Nat), .int .i64 (K : Nat)] false)) := by unfold alay; rw [g7]; rfl
  have g8 : (h7.set h.next (.cells [.int .i64 (i : Nat), .int .i64 (K : Nat)] false)).get h.next = some (.cells [.int .i64 (i : Nat), .int .i64 (K : Nat)] false) := get_set_self _ _ _
  have K8 : Keep h7.next (fun e => e = h.next) h7 (h7.set h.next (.cells [.int .i64 (i : Nat), .int .i64 (K : Nat)] false)) := Keep.set (F := fun e => e = h.next) (.inl rfl) _
  generalize h7.set h.next (.cells [.int .i64 (i : Nat), .int .i64 (K : Nat)] false) = h8 at *
  have O8 := O7.keep K8 fun e he q => nfp (by rw [← fp7, ← q]; exact he)
  have l8 : aload Try.prog h8 34 h.next 0 = some (.agg [.int .i64 (i : Nat), .int .i64 (K : Nat)]) := by simp [aload, Heap.row, g8, ta34, ts34]
  have rwH : (AV.agg [.int .i64 (i : Nat), .int .i64 (K : Nat)]).row1 = some [.int .i64 (i : Nat), .int .i64 (K : Nat)] := rfl
  have w5 := i64w (L0 : Int) (by omega) (by omega)
  have h76 := K7.1
  have h87 := K8.1
  have fin : ∃ (c2 : Cl) (F' : List Nat) (cnt' left' used' K' : Nat),
      F' = (if c.free = [] then fl (s.page / c.size) c.count (s.page / c.size) else c.free) ∧ cnt' = (if c.free = [] then c.count + s.page / c.size else c.count) ∧ left' = (if c.free = [] then s.left - 1 else s.left) ∧ used' = (if c.free = [] then s.used + 1 else s.used) ∧ F'[F'.length - 1]? = some K' ∧
      AV.tup [.agg [.int .i64 (i : Nat), .int .i64 (K : Nat)], .int .i64 0] = .tup [.agg [.int .i64 (i : Nat), .int .i64 (K' : Nat)], .int .i64 0] ∧ c2.size = c.size ∧ c2.free = F'.take (F'.length - 1) ∧ c2.count = cnt' ∧ (c2.live, c2.cl) = lput K' d c.live c.cl ∧
      SlO h8 b ⟨s.page, left', used', s.cls.set i c2⟩ vc ∧ (∀ e, e ∈ fpS b ⟨s.page, left', used', s.cls.set i c2⟩ vc → e ∈ fpS b s vc ∨ h.next ≤ e) ∧ Keep h.next (fun e => e ∈ fpS b s vc) h h8 := by
    obtain ⟨r1, r2, r3, r4, r5⟩ := f.rest
    refine ⟨{ c3 with free := F.take L0, live := (lput K d c3.live c3.cl).1, cl := (lput K d c3.live c3.cl).2, fv := v6 }, F, cnt, left, used, K, by rw [hF, hN], by rw [hcn, hN], hle, hus, by rw [hL0, Nat.add_sub_cancel]; exact hK, rfl, r1, by rw [hL0, Nat.add_sub_cancel], r3, by rw [← r4, ← r5], O8, fun e he => ?_, ⟨by omega, fun e he hn => ?_⟩⟩
    · rcases f6.fp e (fp7 ▸ he) with z | z
      · exact .inl z
      · exact .inr (by omega)
    · rw [K8.2 e (by omega) (by omega), K7.2 e (by omega) (fun q => by rcases f6.fp e q with z | z; exact hn z; omega), f6.k.2 e (by omega) hn, K2.2 e he id]
  simp [q1, q4, q6, q7, lf5, l5, hL0, w5, ix5, ld5, E6, r6, A6, lm6, E7, afill, rwH, A8, l8]
  simpa using fin
end Go.Proofs.Ytmoigchjmmjljaa
