/- The law ChainMap returns true for every input of bulk at most 1048576, and its input reads behind the call as it did; no conditions. The kit's model is followed by an abstract machine that is shown to tell what the model does; the contracts of the functions are proved over that machine. -/
import Derived.Test.YtdnjhipgfbhecaaRows
import Derived.Test.YtdnjhipgfbhecaaRuns
import Derived.Test.YtdnjhipgfbhecaaChainK
import Derived.Test.YtdnjhipgfbhecaaBook
import Derived.WalkKit
import Derived.ProofKit
import Derived.OpenShut
import Derived.JoinedCond
namespace Go.Proofs.Ytdnjhipgfbhecaa.cChainMap
open Go Go.ChangeShapes Go.WideShapes Go.ChangeAt Go.RowKit Go.YtdnjhipgfbhecaaAbs
set_option linter.unusedSimpArgs false
set_option linter.unusedVariables false

set_option maxRecDepth 4000
def key2 (i : Nat) : ByteArray := ⟨⟨[UInt8.ofNat i, UInt8.ofNat (i * 7)]⟩⟩
theorem fw_lo (i : Nat) : fwrap .u8 (i : Int) = ((UInt8.ofNat i).toNat : Nat) := by
  have : (UInt8.ofNat i).toNat = i % 256 := by simp
  rw [this]
  simp [fwrap] <;> omega
theorem fw_hi (i : Nat) : fwrap .u8 ((i : Int) * 7) = ((UInt8.ofNat (i * 7)).toNat : Nat) := by
  rw [← fw_lo]; rfl
theorem sl_new2 (h : Heap) (a b : UInt8) (ex : Bool) : Sl 1 2 (h.new (.cells [.int .u8 (a.toNat : Nat), .int .u8 (b.toNat : Nat)] false)) (.sl h.next 0 2 2 1 ex) ([a, b].map bb) :=
  .inr (.inr ⟨h.next, 0, 2, ex, [.int .u8 (a.toNat : Nat), .int .u8 (b.toNat : Nat)], false, rfl, Nat.lt_succ_self _, get_new_self _ _, rfl, by simp, rfl, Nat.le_refl _⟩)
/-- The key is built. -/
theorem key_conv (h : Heap) (i : Nat) (ex : Bool) : ∃ x y : UInt8, fwrap .u8 (i : Int) = (x.toNat : Nat) ∧ fwrap .u8 ((i : Int) * 7) = (y.toNat : Nat) ∧
    aconv Try.prog (h.new (.cells [.int .u8 (x.toNat : Nat), .int .u8 (y.toNat : Nat)] false)) 25 9 (.sl h.next 0 2 2 1 ex) = some (.str (key2 i), h.new (.cells [.int .u8 (x.toNat : Nat), .int .u8 (y.toNat : Nat)] false)) :=
  ⟨UInt8.ofNat i, UInt8.ofNat (i * 7), fw_lo i, fw_hi i, aconv_bs (P := Try.prog) (src := 25) (dst := 9) (sl_new2 h (UInt8.ofNat i) (UInt8.ofNat (i * 7)) ex) Try.underlying25 Try.underlying9 Try.underlying5⟩
def encZ : Option Nat → Int
  | none => -1
  | some i => (i : Nat)
theorem cat_one' (A : List It) : (cat itC A).all AV.one = true := by
  unfold cat
  rw [List.all_flatten, List.all_eq_true]
  intro l hl
  obtain ⟨x, _, rfl⟩ := List.mem_map.1 hl
  rfl
set_option maxHeartbeats 4000000 in
theorem law_run (k : Nat) (hk : 2000000 < k) (h : Heap) (v0 : AV) (a0 : (List (Int × (Int × (ByteArray × Unit))))) (w0 : SlA (kPair (kInt .i64) (kPair (kInt .i64) (kPair kStr kNil))) h v0 a0) (a1 : Int) (w1 : (Lit.int .i64 a1).wf = true) (hb : (kSlice (kPair (kInt .i64) (kPair (kInt .i64) (kPair kStr kNil)))).bulk a0 + ((kInt .i64).bulk a1 + (0)) ≤ 1048576) :
    ∃ v h', afuncT Try.prog [28] (orRuns 3 (acall Try.prog (k + 10))) (k + 10) Try.f7 [v0, .int .i64 a1] h = some (v, h') ∧ v = .bool true := by
  have l0 := bulk_len (K := kIt) (fun x => by show 1 ≤ 1 + _; omega) a0
  have hb : (kSlice kIt).bulk a0 + ((kInt .i64).bulk a1 + 0) ≤ 1048576 := hb
  obtain ⟨s0, r0⟩ := sla_its w0
  obtain ⟨p1, h1, E1, b, vn, vo, rn, ro, e1, O1, f1, k1⟩ := new_ok (k + 9) h
  subst e1
  have k2 : Keep h1.next nob h1 (h1.new (.cells [] false)) := Keep.new (Nat.le_refl _) _
  have M0 : Mine 3 0 (h1.new (.cells [] false)) (.sl h1.next 0 0 0 3 true) [] := by
    have := Mine.new (sz := 3) (n := 0) (m := 0) h1 [] rfl (Nat.le_refl _) rfl true
    simpa using this
  have s2 := (s0.ext k1).ext k2
  obtain ⟨va, h3, E3, Ma, Fa, Ka⟩ := M0.append (P := Try.prog) (st := 39) (xt := 39) el39 (by rw [Try.underlying39]; rfl) s2.alen s2.acells (cat_one' a0) s2.length (by omega)
  rw [Nat.zero_add, List.nil_append] at Ma
  have O2 := O1.ext k2
  have hva : ∀ d, Has va d → h1.next ≤ d := fun d hd => by
    rcases Fa d hd with z | z
    · cases z; exact Nat.le_refl _
    · exact Nat.le_trans k2.1 z
  have O3 : ChO h3 b .new vn vo rn ro := O2.keep Ka fun d hd q => by cases q; have := O1.fp_lt hd; omega
  obtain ⟨A, va', eA, hA, MA, aA⟩ : ∃ (A : List It) (va' : AV), (if 80 < a0.length then aslice Try.prog 39 va none (some (.int .i64 80)) none else some va) = some va' ∧ A.length ≤ 80 ∧ Mine 3 A.length h3 va' (cat itC A) ∧ va'.at? = va.at? := by
    by_cases q : 80 < a0.length
    · obtain ⟨v', z1, z2, z3⟩ := Ma.to (P := Try.prog) (ty := 39) Try.underlying39 ts43 (k := .i64) (j := 80) (by omega)
      refine ⟨a0.take 80, v', by rw [if_pos q]; exact z1, by rw [List.length_take]; omega, ?_, z3⟩
      rw [List.length_take, Nat.min_eq_left (by omega), ← cat_take itC_len]
      exact z2
    · exact ⟨a0, va, by rw [if_neg q], by omega, Ma, rfl⟩
  have S0 : MS h3 b .new vn vo rn ro [] [] A .nils .nils va' := ⟨O3, Mine.nil _ _, Mine.nil _ _, MA, (fun d q => by cases q), (fun d q => by cases q), fun d hd q => by
    have h5 : Has va d := by unfold Has at hd ⊢; rw [← aA]; exact hd
    have := hva d h5; have := O1.fp_lt q; omega, (fun d q => by cases q), (fun d q => by cases q), (fun d q => by cases q)⟩
  have W1 : acall Try.prog (k + 10) 15 [.int .i64 a1, .int .i64 0, .int .i64 60] h3 = _ := within_ok (k + 9) a1 0 60 (by omega) (by omega) (by omega) h3
  obtain ⟨K, hK⟩ : ∃ K : Nat, (0 : Int) + a1 % (60 - 0 + 1) = (K : Int) := ⟨((0 : Int) + a1 % (60 - 0 + 1)).toNat, by omega⟩
  have hK2 : K ≤ 60 := by omega
  rw [hK] at W1
  clear hK
  have la := Ma.sl.len'
  refine afuncT_ex rfl (by simp [Try.f7]) ?_
  simp [Try.f7, E1, aeql, aalloc, afill, E3, la, W_stopL 7, -W_regionL]
  rw [W_regionL rfl]
  simp [la, -W_cond]
  refine W_cutN (fun st => st.h = h3 ∧ st.t.get 1 = some (.int .i64 a1) ∧ st.t.get 5 = some (.ptr b 0) ∧ st.t.get 6 = some .nils ∧ st.t.get 7 = some .nils ∧ st.t.get 8 = some va') ?_ ?_
  · by_cases q : 80 < a0.length
    · rw [if_pos q] at eA
      simp [isLt (show (80 : Int) < (a0.length : Int) by omega), eA]
    · rw [if_neg q] at eA
      cases eA
      simp [isLe (show (a0.length : Int) ≤ 80 by omega)]
  clear E1 E3 Ma Fa Ka M0 s2 la w0 w1 hb l0 k2 O1 O2 O3 f1 k1 s0 r0 hva eA MA aA
  rintro ⟨t, h4⟩ ⟨e4, q1, q5, q6, q7, q8⟩
  simp only at e4 q1 q5 q6 q7 q8
  subst e4
  simp [q1, q5, q6, q7, q8, W1]
  refine W_cutLoop 0 (fun st => st.t.get 5 = some (.ptr b 0) ∧ st.t.get 6 = some .nils ∧ st.t.get 7 = some .nils ∧ ∃ (A : List It) (va : AV), st.t.get 8 = some va ∧ A.length ≤ 140 ∧ MS st.h b .new vn vo rn ro [] [] A .nils .nils va) ?_ ?_
  · refine W_loop (fun m st => ∃ (A : List It) (va : AV), m ≤ 60 ∧ st.t.get 9 = some (.int .i64 (m : Nat)) ∧ st.t.get 5 = some (.ptr b 0) ∧ st.t.get 6 = some .nils ∧ st.t.get 7 = some .nils ∧ st.t.get 8 = some va ∧ A.length + m ≤ 140 ∧ MS st.h b .new vn vo rn ro [] [] A .nils .nils va) K (by omega)
      ⟨A, va', hK2, by simp, by simp [q5], by simp [q6], by simp [q7], by simp [q8], by omega, S0⟩ ?_
    clear S0 hA q1 q5 q6 q7 q8 W1 A va'
    rintro m ⟨t, h2⟩ ⟨A, va, hm, q9, q5, q6, q7, q8, hA, S⟩
    simp only at q9 q5 q6 q7 q8 S
    cases m with
    | zero =>
      simp [q9, q5, q6, q7, q8]
      exact ⟨A, by omega, S⟩
    | succ m =>
      obtain ⟨x, y, fx, fy, cv⟩ := key_conv h2 (m + 1) true
      obtain ⟨h3, hN⟩ : ∃ h3, h3 = h2.new (.cells [.int .u8 (x.toNat : Nat), .int .u8 (y.toNat : Nat)] false) := ⟨_, rfl⟩
      have S3 : MS h3 b .new vn vo rn ro [] [] A .nils .nils va := by rw [hN]; exact S.ext (Keep.new (Nat.le_refl _) _)
      rw [← hN] at cv
      obtain ⟨va4, h4, E4, M4, F4, K4⟩ := S3.a.push (P := Try.prog) el39 (a := itC (1, ((m + 1 : Nat), (key2 (m + 1), ())))) (ex := true) rfl rfl (by omega)
      have S4 := S3.more (x := (1, ((m + 1 : Nat), (key2 (m + 1), ())))) M4 F4 K4
      have q9 : t.get 9 = some (.int .i64 ((m : Int) + 1)) := q9
      have fx : fwrap .u8 ((m : Int) + 1) = (x.toNat : Nat) := fx
      have fy : fwrap .u8 (((m : Int) + 1) * 7) = (y.toNat : Nat) := fy
      have s7 := i64w (((m : Int) + 1) * 7) (by omega) (by omega)
      have sm := i64w (m : Int) (by omega) (by omega)
      have E4 : aappend Try.prog (h3.new (.cells [.int .i64 1, .int .i64 ((m : Int) + 1), .str (key2 (m + 1))] false)) 39 39 va (.sl h3.next 0 1 1 3 true) = some (va4, h4) := E4
      simp [q9, q5, q6, q7, q8, isLt (show (0 : Int) < (m : Int) + 1 by omega), s7, sm, fx, fy, aalloc, afill, AV.row1, AV.row, AV.one, ← hN, cv, E4]
      exact ⟨m, by omega, by omega, rfl, _, by simp; omega, S4⟩
  clear S0 hA q1 q5 q6 q7 q8 W1 A va'
  rintro ⟨t, h2⟩ ⟨q5, q6, q7, A, va, q8, hA, S⟩
  simp only at q5 q6 q7 q8 S
  simp [q5, q6, q7, q8]
  refine W_cutLoop 2 (fun st => st.t.get 5 = some (.ptr b 0) ∧ ∃ (c : Ch) (vn vo : AV) (rn ro : List AV) (ks : List ByteArray) (ns : List Int) (A : List It) (vk vm va : AV), st.t.get 6 = some vk ∧ st.t.get 7 = some vm ∧ MS st.h b c vn vo rn ro ks ns A vk vm va ∧ ChI 200 c ∧ MapI c ks ns ∧ (∀ k, k ∈ ks → k.size ≤ 1000)) ?_ ?_
  · refine W_loop (fun m st => ∃ (i : Nat) (c : Ch) (vn vo : AV) (rn ro : List AV) (ks : List ByteArray) (ns : List Int) (vk vm : AV), m = A.length - i ∧ i ≤ A.length ∧ st.t.get 10 = some (.int .i64 (i : Nat)) ∧ st.t.get 5 = some (.ptr b 0) ∧ st.t.get 6 = some vk ∧ st.t.get 7 = some vm ∧ st.t.get 8 = some va ∧
      MS st.h b c vn vo rn ro ks ns A vk vm va ∧ ChI i c ∧ ChM c ∧ MapI c ks ns ∧ (∀ k, k ∈ ks → k.size ≤ 1000)) A.length (by omega)
      ⟨0, .new, vn, vo, rn, ro, [], [], .nils, .nils, by omega, by omega, by simp, by simp [q5], by simp [q6], by simp [q7], by simp [q8], S, ChI.new 0, ChM.new, MapI.new, fun k hk => by cases hk⟩ ?_
    clear S q5 q6 q7 q8 vn vo rn ro
    rintro m ⟨t, h2⟩ ⟨i, c, vn, vo, rn, ro, ks, ns, vk, vm, rfl, hi, q10, q5, q6, q7, q8, S, I, M, T, hks⟩
    simp only at q10 q5 q6 q7 q8 S
    have hkl : ks.length ≤ 140 := by have := T.cl; have := I.len; omega
    by_cases hlt : i < A.length
    · obtain ⟨x, hx⟩ : ∃ x, A[i]? = some x := ⟨A[i], by simp⟩
      obtain ⟨ix, ld0, ld1, ld2⟩ := S.flds hx
      have hs := short_le x.2.2.1
      have sh : acall Try.prog (k + 10) 14 [.str x.2.2.1] h2 = _ := short_ok (k + 9) x.2.2.1 h2
      generalize short x.2.2.1 = key at *
      have lk := S.k.sl.len'
      have la := S.a.sl.len'
      simp [q5, q6, q7, q8, q10, la, isLt (show (i : Int) < (A.length : Int) by omega), ix, ld2, sh]
      refine W_cutLoop 4 (fun st => st.h = h2 ∧ st.t.get 10 = some (.int .i64 (i : Nat)) ∧ st.t.get 5 = some (.ptr b 0) ∧ st.t.get 6 = some vk ∧ st.t.get 7 = some vm ∧ st.t.get 8 = some va ∧ st.t.get 11 = some (.str key) ∧
        ∃ o, st.t.get 12 = some (.int .i64 (encZ o)) ∧ ((o = none ∧ key ∉ ks) ∨ ∃ i', o = some i' ∧ ks[i']? = some key)) ?_ ?_
      · refine W_loop (fun m st => ∃ (j : Nat) (o : Option Nat), m = ks.length - j ∧ j ≤ ks.length ∧ st.h = h2 ∧ st.t.get 10 = some (.int .i64 (i : Nat)) ∧ st.t.get 5 = some (.ptr b 0) ∧ st.t.get 6 = some vk ∧ st.t.get 7 = some vm ∧ st.t.get 8 = some va ∧ st.t.get 11 = some (.str key) ∧
          st.t.get 13 = some (.int .i64 (j : Nat)) ∧ st.t.get 12 = some (.int .i64 (encZ o)) ∧ ((o = none ∧ ∀ j', j' < j → ks[j']? ≠ some key) ∨ ∃ i', o = some i' ∧ ks[i']? = some key)) ks.length (by omega)
          ⟨0, none, by omega, by omega, rfl, by simp [q10], by simp [q5], by simp [q6], by simp [q7], by simp [q8], by simp, by simp, by simp [encZ], .inl ⟨rfl, fun j hj => absurd hj (Nat.not_lt_zero j)⟩⟩ ?_
        clear q10 q5 q6 q7 q8
        rintro m ⟨t, h3⟩ ⟨j, o, rfl, hj, e3, q10, q5, q6, q7, q8, q11, q13, q12, ho⟩
        simp only at e3 q10 q5 q6 q7 q8 q11 q13 q12
        subst e3
        by_cases hlt2 : j < ks.length
        · obtain ⟨y, hy⟩ : ∃ y, ks[j]? = some y := ⟨ks[j], by simp⟩
          have ixk := S.k.sl.idx1 (P := Try.prog) Try.underlying49 ts9 (j := j) hlt2 .i64
          have ldk := S.k.sl.ld (P := Try.prog) (e := 9) ta9 (j := j) (x := .str y) (by rw [List.getElem?_map, hy]; rfl)
          have sj := i64w ((j : Int) + 1) (by omega) (by omega)
          by_cases hyk : y = key
          · subst hyk
            simp [q5, q6, q7, q8, q10, q11, q12, q13, lk, isLt (show (j : Int) < (ks.length : Int) by omega), ixk, ldk, sj]
            exact ⟨ks.length - (j + 1), by omega, j + 1, rfl, by omega, rfl, some j, rfl, .inr ⟨j, rfl, hy⟩⟩
          · simp [q5, q6, q7, q8, q10, q11, q12, q13, lk, isLt (show (j : Int) < (ks.length : Int) by omega), ixk, ldk, sj, hyk]
            refine ⟨ks.length - (j + 1), by omega, j + 1, rfl, by omega, rfl, o, rfl, ?_⟩
            rcases ho with ⟨h1, h2⟩ | h1
            · refine .inl ⟨h1, fun j' hj' => ?_⟩
              by_cases q : j' = j
              · subst q; rw [hy]; simpa using hyk
              · exact h2 j' (by omega)
            · exact .inr h1
        · simp [q5, q6, q7, q8, q10, q11, q12, q13, lk, isLe (show (ks.length : Int) ≤ (j : Int) by omega)]
          refine ⟨o, rfl, ?_⟩
          rcases ho with ⟨h1, h2⟩ | h1
          · refine .inl ⟨h1, fun q => ?_⟩
            obtain ⟨j', hj'⟩ := List.getElem?_of_mem q
            have := (List.getElem?_eq_some_iff.1 hj').1
            exact h2 j' (by omega) hj'
          · exact .inr h1
      clear q10 q5 q6 q7 q8
      rintro ⟨t, h3⟩ ⟨e3, q10, q5, q6, q7, q8, q11, o, q12, ho⟩
      simp only at e3 q10 q5 q6 q7 q8 q11 q12
      subst e3
      have C := I.ok (by omega)
      have C1 := I.step.ok (by omega)
      have hnl : ns.length = ks.length := T.len
      by_cases c1 : x.1 = 1
      · obtain ⟨_, h4, E4, e4, ⟨vn4, vo4, rn4, ro4, O4, f4⟩, K4⟩ := put_ok (k + 7) (by omega) h3 b c vn vo rn ro S.o C C1 key (by omega) x.2.1
        subst e4
        have S4 := S.chain O4 f4 K4
        have I4 := I.put (key := key) (by omega) x.2.1
        rw [c1] at ld0
        obtain ⟨ix4, _, ld4, _⟩ := S4.flds hx
        rcases ho with ⟨rfl, hno⟩ | ⟨i', rfl, hk'⟩
        · obtain ⟨t1, t2, t3⟩ := T.putNew I M (by omega) hno x.2.1
          rw [t1] at E4
          obtain ⟨vk5, h5, vm5, h6, e1, n1, g1, k1, e2, n2, g2, m1, m2, K6, fk, fm, ap, o1, o2⟩ := push2 (P := Try.prog) el49 el50 S4.k S4.n S4.kn (a1 := [.str key]) (a2 := [.int .i64 x.2.1]) rfl rfl rfl rfl (by omega) (by omega) 14 2 10 (by omega) (by omega)
          have S6 := S4.both (ks' := ks ++ [key]) (ns' := ns ++ [x.2.1]) (by rw [List.length_append, List.length_singleton, List.map_append]; exact m1) (by rw [List.length_append, List.length_singleton, List.map_append]; exact m2) K6 fk fm ap
          have a5 := S4.a.keep k1 fun d hd z => S4.ka d z hd
          have ld5 : aload Try.prog h5 3 va.blk (va.off + i * 3 + 1) = some (.int .i64 x.2.1) := by
            rw [Nat.add_assoc]
            exact a5.sl.ld ta3 (by have := cat_get itC_len hx (o := 1) (by omega); exact this)
          have gv : Has va va.blk := S4.a.blk (by omega)
          have G1 := g1 (Has va) fun c hc => ⟨S4.a.lt hc, fun z => S4.ka c z hc⟩
          have ln : acall Try.prog (k + 10) 13 [.ptr b 0] h6 = _ := len_ok (k + 9) h6 b _ vn4 vo4 rn4 ro4 S6.o
          rw [t3.cl] at ln
          have lk6 := S6.k.sl.len'
          rw [List.length_append, List.length_singleton] at lk6 ln
          simp [q5, q6, q7, q8, q10, q11, q12, encZ, ix, ld0, ld1, E4]
          refine W_lateG [0, 0, 2, 7, 0, 0, 0, 96, 224, 480, 992, 2047, 4095, 8191] [2, 10] 10 (Has va) (by rfl) (by kernel_rfl) (by kernel_rfl) (by kernel_rfl) (by kernel_rfl) (fun c hc => S4.a.lt hc) ?_
          simp [resv, memN, isEff, isAlloc, isStore, mayEff, mayRead, alate_build, aalloc, afill, insFl, oblG, sameAV, AV.row1, AV.row, AV.one, Nat.testBit_eq_decide_div_mod_eq, q5, q6, q7, q8, q10, q11, q12, e1, n1, G1, ix4, ld5, gv, e2, n2, ln, lk6]
          exact ⟨A.length - (i + 1), by omega, i + 1, rfl, by omega, i64w ((i : Int) + 1) (by omega) (by omega), _, _, _, _, _, _, _, S6, I4, t2, t3, fun z hz => by
            rcases List.mem_append.1 hz with hz | hz
            · exact hks z hz
            · rw [List.mem_singleton.1 hz]; omega⟩
        · obtain ⟨t1, t2, t3⟩ := T.putOld I M (by omega) hk' x.2.1
          have hi' := (List.getElem?_eq_some_iff.1 hk').1
          rw [t1] at E4
          obtain ⟨h5, e5, m5, k5, _⟩ := S4.n.lay1 (j := i') (x := .int .i64 x.2.1) (by omega) rfl
          have S5 := S4.both (ks' := ks) (ns' := ns.set i' x.2.1) (S4.k.keep k5 fun d hd z => S4.kn d hd z) (by rw [List.length_set, List.map_set]; exact m5) (k5.weak (Nat.le_refl _) fun _ _ z => .inr z) (From.refl _ _) (From.refl _ _) S4.kn
          have ixn := S4.n.sl.idx1 (P := Try.prog) Try.underlying50 ts3 (j := i') (by omega) .i64
          have ln : acall Try.prog (k + 10) 13 [.ptr b 0] h5 = _ := len_ok (k + 9) h5 b _ vn4 vo4 rn4 ro4 S5.o
          rw [t3.cl] at ln
          have lk5 := S5.k.sl.len'
          simp [q5, q6, q7, q8, q10, q11, q12, encZ, ix, ld0, ld1, E4, ix4, ld4, ixn, AV.row1, AV.row, AV.one, e5, ln, lk5, isLe (show (0 : Int) ≤ (i' : Int) by omega)]
          exact ⟨A.length - (i + 1), by omega, i + 1, rfl, by omega, i64w ((i : Int) + 1) (by omega) (by omega), _, _, _, _, _, _, _, S5, I4, t2, t3, hks⟩
      · by_cases c3 : x.1 = 3
        · have hln : ∀ i, findE key (c.step.row (c.step.sel key)) = some i → 0 < c.step.len := fun i hf => (found_pos I.step hf).2
          obtain ⟨_, h4, E4, e4, ⟨vn4, vo4, rn4, ro4, O4, f4⟩, K4⟩ := drop_ok (k + 7) (by omega) h3 b c vn vo rn ro S.o C C1 key (by omega) hln
          subst e4
          have S4 := S.chain O4 f4 K4
          have I4 := I.drop key
          rw [c3] at ld0
          rcases ho with ⟨rfl, hno⟩ | ⟨i', rfl, hk'⟩
          · obtain ⟨t1, t2, t3⟩ := T.dropNew I M hno
            rw [t1] at E4
            have ln : acall Try.prog (k + 10) 13 [.ptr b 0] h4 = _ := len_ok (k + 9) h4 b _ vn4 vo4 rn4 ro4 S4.o
            rw [t3.cl] at ln
            simp [q5, q6, q7, q8, q10, q11, q12, encZ, ix, ld0, E4, ln, lk]
            exact ⟨A.length - (i + 1), by omega, i + 1, rfl, by omega, i64w ((i : Int) + 1) (by omega) (by omega), _, _, _, _, _, _, _, S4, I4.mono (by omega), t2, t3, hks⟩
          · obtain ⟨t1, t2, t3⟩ := T.dropOld I M hk'
            have hi' := (List.getElem?_eq_some_iff.1 hk').1
            rw [t1] at E4
            obtain ⟨s1, s2, w1, h5, w2, h6, a1, a2, a3, a4, a5, k5, f5⟩ := S4.k.cut (P := Try.prog) el49 (j := i') hi' (by omega)
            have S6n := S4.n.ext k5
            obtain ⟨s3, s4, w3, h7, w4, h8, b1, b2, b3, b4, b5, k7, f7⟩ := S6n.cut (P := Try.prog) el50 (j := i') (by omega) (by omega)
            have hkl' : (ks.take i' ++ ks.drop (i' + 1)).length = ks.length - 1 := by rw [List.length_append, List.length_take, List.length_drop]; omega
            have hnl' : (ns.take i' ++ ns.drop (i' + 1)).length = ns.length - 1 := by rw [List.length_append, List.length_take, List.length_drop]; omega
            have S8 := S4.both (ks' := ks.take i' ++ ks.drop (i' + 1)) (ns' := ns.take i' ++ ns.drop (i' + 1)) (vk' := w2) (vm' := w4)
              (by rw [hkl', List.map_append, List.map_take, List.map_drop]; simpa using a5.ext k7) (by rw [hnl', List.map_append, List.map_take, List.map_drop]; simpa using b5)
              ((k5.trans (k7.weak k5.1 fun _ _ q => q)).weak (Nat.le_refl _) fun _ _ q => q.elim) (fun d hd => .inr (f5 d hd)) (fun d hd => .inr (Nat.le_trans k5.1 (f7 d hd))) (fun d hd z => by have := f7 d z; have := a5.lt hd; omega)
            have ln : acall Try.prog (k + 10) 13 [.ptr b 0] h8 = _ := len_ok (k + 9) h8 b _ vn4 vo4 rn4 ro4 S8.o
            rw [t3.cl] at ln
            have lk8 := S8.k.sl.len'
            have si := i64w ((i' : Int) + 1) (by omega) (by omega)
            simp [q5, q6, q7, q8, q10, q11, q12, encZ, ix, ld0, E4, aalloc, afill, a1, a2, a3, a4, b1, b2, b3, b4, si, ln, lk8, isLe (show (0 : Int) ≤ (i' : Int) by omega)]
            exact ⟨A.length - (i + 1), by omega, i + 1, rfl, by omega, i64w ((i : Int) + 1) (by omega) (by omega), _, _, _, _, _, _, _, S8, I4.mono (by omega), t2, t3, fun z hz => hks z (by
              rcases List.mem_append.1 hz with hz | hz
              · exact List.mem_of_mem_take hz
              · exact List.mem_of_mem_drop hz)⟩
        · have ln : acall Try.prog (k + 10) 13 [.ptr b 0] h3 = _ := len_ok (k + 9) h3 b _ vn vo rn ro S.o
          rw [T.cl] at ln
          simp [q5, q6, q7, q8, q10, q11, q12, ix, ld0, c1, c3, ln, lk]
          exact ⟨A.length - (i + 1), by omega, i + 1, rfl, by omega, i64w ((i : Int) + 1) (by omega) (by omega), _, _, _, _, _, _, _, S, I.mono (by omega), M, T, hks⟩
    · have : i = A.length := by omega
      subst this
      have la := S.a.sl.len'
      simp [q5, q6, q7, q8, q10, la]
      exact ⟨c, vn, vo, rn, ro, ks, ns, ⟨A, va, S⟩, I.mono (by omega), T, hks⟩
  clear S q5 q6 q7 q8 hA
  rintro ⟨t, h2⟩ ⟨q5, c, vn, vo, rn, ro, ks, ns, A, vk, vm, va, q6, q7, S, I, T, hks⟩
  simp only at q5 q6 q7 S
  have C := I.ok (by omega)
  have hkl : ks.length ≤ 200 := by have := T.cl; have := I.len; omega
  have hnl : ns.length = ks.length := T.len
  simp [q5, q6, q7]
  refine W_cutLoop 7 (fun st => True) ?_ ?_
  · refine W_loop (fun m st => ∃ (i : Nat), m = ks.length - i ∧ i ≤ ks.length ∧ st.t.get 5 = some (.ptr b 0) ∧ st.t.get 6 = some vk ∧ st.t.get 7 = some vm ∧ st.t.get 14 = some (.int .i64 (i : Nat)) ∧ MS st.h b c vn vo rn ro ks ns A vk vm va) ks.length (by omega)
      ⟨0, by omega, by omega, by simp [q5], by simp [q6], by simp [q7], by simp, S⟩ ?_
    clear S q5 q6 q7
    rintro m ⟨t, h2⟩ ⟨i, rfl, hi, q5, q6, q7, q14, S⟩
    simp only at q5 q6 q7 q14 S
    have lk := S.k.sl.len'
    by_cases hlt : i < ks.length
    · obtain ⟨y, hy⟩ : ∃ y, ks[i]? = some y := ⟨ks[i], by simp⟩
      obtain ⟨n, hn⟩ : ∃ n, ns[i]? = some n := ⟨ns[i], by simp⟩
      have ixk := S.k.sl.idx1 (P := Try.prog) Try.underlying49 ts9 (j := i) hlt .i64
      have ldk := S.k.sl.ld (P := Try.prog) (e := 9) ta9 (j := i) (x := .str y) (by rw [List.getElem?_map, hy]; rfl)
      obtain ⟨_, h3, E3, e3, k3⟩ := get_ok (k + 7) (by omega) h2 b c vn vo rn ro S.o C y (hks y (List.mem_of_getElem? hy))
      subst e3
      rw [T.has i y n hy hn] at E3
      have S3 := S.ext k3
      have ixn := S3.n.sl.idx1 (P := Try.prog) Try.underlying50 ts3 (j := i) (by omega) .i64
      have ldn := S3.n.sl.ld (P := Try.prog) (e := 3) ta3 (j := i) (x := .int .i64 n) (by rw [List.getElem?_map, hn]; rfl)
      simp [q5, q6, q7, q14, lk, isLt (show (i : Int) < (ks.length : Int) by omega), ixk, ldk, E3, ixn, ldn]
      exact ⟨ks.length - (i + 1), by omega, i + 1, rfl, by omega, i64w ((i : Int) + 1) (by omega) (by omega), S3⟩
    · simp [q5, q6, q7, q14, lk, isLe (show (ks.length : Int) ≤ (i : Int) by omega)]
  rintro ⟨t, h3⟩ _
  simp


mutual
theorem up1 {H : Type} : ∀ d : DataW H, Rows.uptoBulk d = bulkD d
  | .lit (.string b) => rfl
  | .lit .nil => rfl
  | .lit (.bool _) => rfl
  | .lit (.int ..) => rfl
  | .lit (.float ..) => rfl
  | .nil => rfl
  | .ptr d => by simp only [Rows.uptoBulk, bulkD, up1 d]
  | .slice e r => by simp only [Rows.uptoBulk, bulkD, up2 e, up2 r]
  | .agg p => by simp only [Rows.uptoBulk, bulkD, up2 p]
  | .iface _ d => by simp only [Rows.uptoBulk, bulkD, up1 d]
  | .map e => by simp only [Rows.uptoBulk, bulkD, up3 e]
  | .held _ => rfl
theorem up2 {H : Type} : ∀ l : List (DataW H), Rows.uptoBulkAll l = bulkDs l
  | [] => rfl
  | d :: r => by simp only [Rows.uptoBulkAll, bulkDs, up1 d, up2 r]
theorem up3 {H : Type} : ∀ l : List (Lit × DataW H), Rows.uptoBulkEntries l = bulkDe l
  | [] => rfl
  | x :: r => by simp only [Rows.uptoBulkEntries, bulkDe, up4 x, up3 r]
theorem up4 {H : Type} : ∀ x : Lit × DataW H, Rows.uptoBulkEntry x = bulkDx x
  | (.string b, d) => by simp only [Rows.uptoBulkEntry, bulkDx, up1 d]
  | (.nil, d) => by simp only [Rows.uptoBulkEntry, bulkDx, up1 d]
  | (.bool _, d) => by simp only [Rows.uptoBulkEntry, bulkDx, up1 d]
  | (.int .., d) => by simp only [Rows.uptoBulkEntry, bulkDx, up1 d]
  | (.float .., d) => by simp only [Rows.uptoBulkEntry, bulkDx, up1 d]
end
theorem own : ownKnob Try.prog.godebug = none := by kernel_rfl
theorem laid : laidOutB Try.prog = true := by kernel_rfl

set_option maxRecDepth 100000 in
theorem lifted (os : Os) (started : os.Started) (H : Type) (enc : TypeId × Value → H) (F0 : Stop.Interp) :
    ReturnsInHanded {} Try.checked os 7 .any ((Rows.OpenSpec.upto Rows.chainMapSpec).pre6 enc Try.prog Try.f7 Rows.chainMapUptoRow.domain false) (((Rows.OpenSpec.upto Rows.chainMapSpec).at F0).post enc Try.prog Try.f7 false true false false) := by
  refine returnsInHanded_of_cond (C := Try.checked) (s := Rows.OpenSpec.upto Rows.chainMapSpec) (k := Rows.uptoSmall) rfl own started (by kernel_rfl) Try.func7
    (OpenSpec.witness (enc := enc) (C := Try.checked) (s := Rows.OpenSpec.upto Rows.chainMapSpec) (k := Rows.uptoSmall) rfl false ⟨#[], #[.slice none 0 0, .int .i64 0], []⟩ 8 (by kernel_rfl) (by kernel_rfl) (by kernel_rfl)
      (x := ([.nil, .lit (.int .i64 0)], [], [])) (by kernel_rfl) (by kernel_rfl) (by kernel_rfl)) ?_
  intro W base args ds gs before hval0 hW _ hk _
  have hval : ∀ (j : Nat) t v, Try.f7.params.toList[j]? = some t → args.toList[j]? = some v → Value.okWide Try.prog W .any base t v := fun j t v h1 h2 => hval0 j t v (by simpa using h1) (by simpa using h2)
  have hW' := hW
  obtain ⟨p, q, hA0, hV, rfl, hfz, hnd⟩ := hW
  have hA : DataW.TrodAll enc Try.prog W 0 (fun _ => true) true Try.f7.params.toList args.toList ds p := hA0
  obtain ⟨rfl, rfl⟩ := trodVars_none hV
  have hlt : ∀ x ∈ p, x.block < W.heap.size := fun x hx => hW'.lt x (by simp [hx])
  have hps : Try.f7.params.toList = [39, 3] := by rw [Try.params7]
  rw [hps] at hA hval
  obtain ⟨m, h, avs, x, g1, _, _, g2, g3, g4⟩ := (good_as1 (good_slice Try.underlying39 (by kernel_rfl) (by decide) (good_struct Try.underlying43 (by kernel_rfl) (good_fs rfl (good_int Try.underlying3 (by kernel_rfl)) (good_fs rfl (good_int Try.underlying3 (by kernel_rfl)) (good_fs rfl (good_str Try.underlying9 (by kernel_rfl)) (good_fs0 _)))))) rfl (by kernel_rfl) (good_as1 (good_int Try.underlying3 (by kernel_rfl)) rfl (by kernel_rfl) good_as0)) H enc W base args.toList ds p hval hA _ _ (HRo.start W)
  obtain ⟨a0, a1, _⟩ := x
  obtain ⟨v0, _, rfl, ⟨u0, e0, w0⟩, ⟨_, _, rfl, ⟨e1, w1⟩, rfl⟩⟩ := g3
  obtain rfl := (List.cons.inj e0).1
  obtain rfl := (List.cons.inj e1).1
  have hb0 := Nat.le_trans g4 (show bulkDs ds ≤ 1048576 by
    have h1 : decide (Rows.uptoBulkAll (ds ++ []) ≤ 1048576) = true := hk
    rw [List.append_nil] at h1
    rw [← up2]
    exact of_decide_eq_true h1)
  have hcall := law_any mixed (k := 3000000 + 10) Try.func7 (by kernel_rfl) runs_ok g1 g2 (law_run 3000000 (by decide) h v0 a0 w0 a1 w1 hb0)
  refine hcall.mono fun e W' ⟨he, hg⟩ => ?_
  subst he
  simp only [List.append_nil] at hW' hA0 ⊢
  have hlen : ds.length = 2 := trodAll_len hA
  have hvars : (((Rows.OpenSpec.upto Rows.chainMapSpec).at F0).fn H (ds ++ [])).vars = [] ∧ (((Rows.OpenSpec.upto Rows.chainMapSpec).at F0).fn H (ds ++ [])).args = ds ∧ (((Rows.OpenSpec.upto Rows.chainMapSpec).at F0).fn H (ds ++ [])).results = [.lit (.bool true)] := by
    rw [List.append_nil]
    match ds, hlen with
    | [d0, d1], _ => exact ⟨rfl, rfl, rfl⟩
  obtain ⟨hv1, hv2, hv3⟩ := hvars
  refine ⟨_, rfl, law_post hW' rfl hg (fun _ _ _ => ?_) (fun sp hsp => ?_) hv1
    (ok_one (by kernel_rfl) rfl (okWide_bool_mk Try.underlying4 _))⟩
  · rw [hv3]
    exact (trodAll_cons_mk (shut_bool Try.underlying4 _) trodAll_mk0)
  · have hA1 := trodAll_below laid hg sp (ts := [39, 3]) (by decide +kernel) hlt hsp hA
    rw [hv2, hps]
    exact hA1

theorem over : Rows.chainMapUptoRow.holds Try.pinned (Rows.OpenSpec.upto Rows.chainMapSpec) :=
  OpenClaim.holds_of_cond 7 Try.f7 rfl rfl rfl rfl rfl rfl rfl ⟨rfl, rfl, rfl, rfl, rfl⟩ rfl rfl rfl rfl rfl (by kernel_rfl) Try.func7 (by kernel_rfl)
    (of_decide_eq_true (by kernel_rfl)) (by unfold Func.isWrapper; first | (rw [if_pos (by decide +kernel)]; kernel_rfl) | (rw [if_neg (by decide +kernel)]; exact ⟨rfl, rfl⟩))
    (fun os started H enc _ F0 => lifted os started H enc F0)

/-- The statement. -/
theorem proved : Rows.ChainMapUptoSaid :=
  over
#print axioms proved
end Go.Proofs.Ytdnjhipgfbhecaa.cChainMap
