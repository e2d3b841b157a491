/- Contracts of slab: New, Classes, Class. -/
import Derived.Test.YtmoigchjmmjljaaSlab
import Derived.Test.YtmoigchjmmjljaaArgs
namespace Go.Proofs.Ytmoigchjmmjljaa
open Go Go.YtmoigchjmmjljaaAbs
set_option linter.unusedSimpArgs false
set_option linter.unusedVariables false
set_option maxRecDepth 4000

/-- New classes. -/
def FreshC (cls : List Cl) : Prop := ∀ (j : Nat) (c : Cl), cls[j]? = some c → c.size = 64 * 2 ^ j ∧ c.free = [] ∧ c.live = [] ∧ c.cl = 0 ∧ c.count = 0
theorem SlO.new (h : Heap) (P Q : Nat) : SlO (h.new (.cells [.int .i64 (Q : Nat), .int .i64 (P : Nat), .int .i64 0, .nils] false)) h.next ⟨Q, P, 0, []⟩ .nils :=
  ⟨get_new_self _ _, Nat.lt_succ_self _, Mine.nil _ _, fun c hc => by simp at hc, fun c hc => by simp at hc, by show Apart [.ptr h.next 0, .nils]; unfold Apart; simp [blks_cons]⟩
/-- The first class that has room. -/
def clsE (n : Int) : List Cl → Option Nat
  | [] => none
  | c :: L => if n ≤ (c.size : Nat) then some 0 else (clsE n L).map (· + 1)
def clsZ (n : Int) (L : List Cl) : Int := match clsE n L with
  | some i => (i : Nat)
  | none => -1
theorem clsE_skip (n : Int) : ∀ (i : Nat) (L : List Cl), (∀ c, c ∈ L.take i → (c.size : Int) < n) → clsE n L = (clsE n (L.drop i)).map (· + i)
  | 0, L, h => by simp
  | i + 1, [], h => by simp [clsE]
  | i + 1, c :: L, h => by
    have h1 := h c (by simp)
    simp only [clsE]
    rw [if_neg (by omega), clsE_skip n i L (fun c' hc => h c' (by simp [hc])), Option.map_map]
    simp only [List.drop_succ_cons]
    congr 1
set_option maxHeartbeats 1000000 in
theorem new_ok (k : Nat) (hk : 30 < k) (h : Heap) (P Q : Nat) (hP : 1 ≤ P) (hP2 : P ≤ 64) (hQ : 64 ≤ Q) (hQ2 : Q ≤ 65536) :
    ∃ v' h', acall Try.prog (k + 1) 8 [.int .i64 (P : Nat), .int .i64 (Q : Nat)] h = some (v', h') ∧ ∃ (b : Nat) (cls : List Cl) (vc : AV), v' = .tup [.ptr b 0, .int .i64 0] ∧ SlO h' b ⟨Q, P, 0, cls⟩ vc ∧ FreshC cls ∧
      1 ≤ cls.length ∧ cls.length ≤ 11 ∧ 64 * 2 ^ (cls.length - 1) ≤ Q ∧ Q < 64 * 2 ^ cls.length ∧ (∀ d, d ∈ fpS b ⟨Q, P, 0, cls⟩ vc → h.next ≤ d) ∧ Keep h.next nob h h' := by
  have O1 := SlO.new h P Q
  have k1 : Keep h.next nob h (h.new (.cells [.int .i64 (Q : Nat), .int .i64 (P : Nat), .int .i64 0, .nils] false)) := Keep.new (Nat.le_refl _) _
  have f1 : ∀ d, d ∈ fpS h.next ⟨Q, P, 0, []⟩ .nils → h.next ≤ d := fun d hd => by
    have : d ∈ blks [.ptr h.next 0, .nils] := hd
    simp [blks_cons] at this
    omega
  obtain ⟨h1, e1⟩ : ∃ h1, h.new (.cells [.int .i64 (Q : Nat), .int .i64 (P : Nat), .int .i64 0, .nils] false) = h1 := ⟨_, rfl⟩
  rw [e1] at O1 k1
  have rwN : (AV.agg [.int .i64 (Q : Nat), .int .i64 (P : Nat), .int .i64 0, .nils]).row1 = some [.int .i64 (Q : Nat), .int .i64 (P : Nat), .int .i64 0, .nils] := rfl
  rw [acall_text [] Try.func8 (by kernel_rfl)]
  refine afuncT_ex rfl (by simp [Try.f8]) ?_
  simp [Try.f8, isLe (show (1 : Int) ≤ (P : Int) by omega), isLe (show (P : Int) ≤ 64 by omega), isLe (show (64 : Int) ≤ (Q : Int) by omega), isLe (show (Q : Int) ≤ 65536 by omega), afill, aalloc, rwN, e1]
  obtain ⟨b, hb⟩ : ∃ b, b = h.next := ⟨_, rfl⟩
  rw [← hb] at O1 f1 k1 ⊢
  have pw : ∀ i : Nat, 64 * 2 ^ i ≤ Q → i ≤ 10 := fun i hi => by
    have : ¬ 11 ≤ i := fun q => by
      have : 2 ^ 11 ≤ 2 ^ i := Nat.pow_le_pow_right (by omega) q
      have : (2 : Nat) ^ 11 = 2048 := rfl
      omega
    omega
  refine W_cutLoop 0 (fun st => st.t.get 6 = some (.ptr b 0) ∧ ∃ (cls : List Cl) (vc : AV), SlO st.h b ⟨Q, P, 0, cls⟩ vc ∧ FreshC cls ∧ 1 ≤ cls.length ∧ cls.length ≤ 11 ∧ 64 * 2 ^ (cls.length - 1) ≤ Q ∧ Q < 64 * 2 ^ cls.length ∧ (∀ d, d ∈ fpS b ⟨Q, P, 0, cls⟩ vc → b ≤ d) ∧ Keep b nob h st.h) ?_ ?_
  · refine W_loop (fun m st => ∃ (cls : List Cl) (vc : AV), m = 12 - cls.length ∧ st.t.get 1 = some (.int .i64 (Q : Nat)) ∧ st.t.get 6 = some (.ptr b 0) ∧ st.t.get 7 = some (.int .i64 ((64 * 2 ^ cls.length : Nat) : Int)) ∧ (cls.length = 0 ∨ 64 * 2 ^ (cls.length - 1) ≤ Q) ∧
      SlO st.h b ⟨Q, P, 0, cls⟩ vc ∧ FreshC cls ∧ (∀ d, d ∈ fpS b ⟨Q, P, 0, cls⟩ vc → b ≤ d) ∧ Keep b nob h st.h) 12 (by omega)
      ⟨[], .nils, rfl, rfl, by simp [hb], rfl, .inl rfl, O1, fun j c hc => by simp at hc, f1, k1⟩ ?_
    rintro m ⟨t, h2⟩ ⟨cls, vc, rfl, q1, q6, q7, hl, O, F, fp, K⟩
    simp only at q1 q6 q7 O K
    have hl10 : cls.length ≤ 11 := by
      rcases hl with z | z
      · omega
      · have := pw _ z; omega
    obtain ⟨S, hS⟩ : ∃ S, S = 64 * 2 ^ cls.length := ⟨_, rfl⟩
    have hS2 : 64 * 2 ^ (cls.length + 1) = 2 * S := by rw [hS, Nat.pow_succ]; omega
    have hS3 : S ≤ 131072 := by
      have : 2 ^ cls.length ≤ 2 ^ 11 := Nat.pow_le_pow_right (by omega) hl10
      have e : (2 : Nat) ^ 11 = 2048 := rfl
      omega
    rw [← hS] at q7
    by_cases hlt : S ≤ Q
    · have := pw _ (hS ▸ hlt)
      obtain ⟨v', h5, h6, E5, ov, E6, O6, f6, K6⟩ := O.snoc (by simp only; omega) S
      have ro := row1_one ov
      have rwC : (AV.agg [.int .i64 (S : Nat), .nils, .mp h2.next, .int .i64 0]).row1 = some [.int .i64 (S : Nat), .nils, .mp h2.next, .int .i64 0] := rfl
      have ld := O.ext (Keep.new (Nat.le_refl _) (.map [] 0))
      have w7 := i64w ((S : Int) * 2) (by omega) (by omega)
      have F' : FreshC (cls ++ [⟨S, [], [], 0, 0, .nils, h2.next⟩]) := fun j c hc => by
        rw [List.getElem?_append] at hc
        split at hc
        · exact F j c hc
        · rename_i hj
          have hj2 : j - cls.length = 0 := by
            have := (List.getElem?_eq_some_iff.1 hc).1
            simp at this
            exact this
          rw [hj2] at hc
          have : j = cls.length := by omega
          simp at hc
          subst hc
          subst this
          exact ⟨hS, rfl, rfl, rfl, rfl⟩
      have K1 := K.1
      have K7 : Keep b nob h h6 := ⟨Nat.le_trans K.1 K6.1, fun d hd _ => by rw [K6.2 d (by omega) (fun q => by have := fp d q; omega), K.2 d hd id]⟩
      have f7 : ∀ d, d ∈ fpS b ⟨Q, P, 0, cls ++ [⟨S, [], [], 0, 0, .nils, h2.next⟩]⟩ v' → b ≤ d := fun d hd => by
        rcases f6 d hd with z | z
        · exact fp d z
        · omega
      simp [q1, q6, q7, isLe (show (S : Int) ≤ (Q : Int) by omega), O.ld3, afill, aalloc, ro, rwC, E5, E6, w7]
      have hS4 : (S : Int) * 2 = 64 * 2 ^ (cls.length + 1) := by
        have : ((64 * 2 ^ (cls.length + 1) : Nat) : Int) = ((2 * S : Nat) : Int) := by rw [hS2]
        push_cast at this
        rw [this]; omega
      refine ⟨12 - (cls.length + 1), by omega, cls ++ [⟨S, [], [], 0, 0, .nils, h2.next⟩], by simp, ?_, .inr ?_, v', O6, F', f7, K7⟩
      · rw [List.length_append, List.length_singleton]; exact hS4
      · rw [List.length_append, List.length_singleton, Nat.add_sub_cancel, ← hS]; exact hlt
    · simp [q1, q6, q7, isLt (show (Q : Int) < (S : Int) by omega)]
      rw [hS] at hlt
      have h0 : cls.length ≠ 0 := fun z => by rw [z] at hlt; omega
      exact ⟨cls, vc, O, F, by omega, hl10, hl.resolve_left h0, by omega, fp, K⟩
  rintro ⟨t, h2⟩ ⟨q6, cls, vc, O, F, l1, l2, l3, l4, fp, K⟩
  simp only at q6 O K
  simp [q6]
  exact ⟨cls, vc, O, F, l1, l2, l3, l4, fp, K⟩

theorem classes_ok (k : Nat) (hk : 30 < k) (h : Heap) (b : Nat) (s : Sb) (vc : AV) (O : SlO h b s vc) (hl : s.cls.length ≤ 20) (szs : List Nat) (hz : szs = s.cls.map (·.size)) :
    ∃ v' h', acall Try.prog (k + 1) 10 [.ptr b 0] h = some (v', h') ∧ Vec h.next nob 1 s.cls.length h' v' (szs.map nn) ∧ Keep h.next nob h h' := by
  rw [acall_text [] Try.func10 (by kernel_rfl)]
  refine afuncT_ex rfl (by simp [Try.f10]) ?_
  have sl := O.own.sl
  have hzl : szs.length = s.cls.length := by rw [hz, List.length_map]
  have hzg : ∀ (i : Nat) (c : Cl), s.cls[i]? = some c → szs[i]? = some c.size := fun i c hc => by rw [hz, List.getElem?_map, hc]; rfl
  clear hz
  simp [Try.f10, O.ld3, sl.len']
  refine W_cutLoop 0 (fun st => ∃ y, st.t.get 3 = some y ∧ Vec h.next nob 1 s.cls.length st.h y (szs.map nn) ∧ Keep h.next nob h st.h) ?_ ?_
  · refine W_loop (fun m st => ∃ (i : Nat) (y : AV), m = s.cls.length - i ∧ i ≤ s.cls.length ∧ st.t.get 3 = some y ∧ st.t.get 9 = some vc ∧ st.t.get 10 = some (.int .i64 (s.cls.length : Nat)) ∧ st.t.get 11 = some (.int .i64 (i : Nat)) ∧
      Vec h.next nob 1 i st.h y ((szs.take i).map nn) ∧ Keep h.next nob h st.h) s.cls.length (by omega)
      ⟨0, .nils, by simp, by omega, by simp, by simp, by simp, by simp, Vec.nil _ _ _ _, Keep.refl _ _ _⟩ ?_
    rintro m ⟨t, h2⟩ ⟨i, y, rfl, hi, q3, q9, q10, q11, Y, K⟩
    simp only at q3 q9 q10 q11 Y K
    by_cases hlt : i < s.cls.length
    · obtain ⟨c, hc⟩ : ∃ c, s.cls[i]? = some c := ⟨s.cls[i], by simp⟩
      have sl2 := (O.ext K).own.sl
      have ix := sl2.idx (P := Try.prog) Try.underlying61 ts66 (j := i) hlt .i64
      have ld := sl2.lds (P := Try.prog) ta66 ts66 (j := i * 4) (by rw [cat_len Cl.c_len]; omega) (by omega)
      rw [cat_at Cl.c_len hc] at ld
      have one : c.fv.one = true := (O.free c (List.mem_of_getElem? hc)).oneV
      have rwc : (AV.agg c.c).row1 = some c.c := row1_agg (by simp [Cl.c, one])
      have al : alay (h2.new (.cells [.int .i64 0, .nils, .nilm, .int .i64 0] false)) h2.next 0 c.c = some (h2.new (.cells c.c false)) := alay_new rfl
      obtain ⟨h3, e3⟩ : ∃ h3, h2.new (.cells c.c false) = h3 := ⟨_, rfl⟩
      have k3 : Keep h2.next nob h2 h3 := by rw [← e3]; exact Keep.new (Nat.le_refl _) _
      have g3 : h3.get h2.next = some (.cells c.c false) := by rw [← e3]; exact get_new_self _ _
      rw [e3] at al
      have l0 := ldc (P := Try.prog) (ty := 3) g3 ta3 (i := 0) (x := .int .i64 (c.size : Nat)) rfl
      have cl := Cl.c_len c
      obtain ⟨y4, h4, E4, Y4, k4⟩ := vec_push (P := Try.prog) el27 (Y.ext k3) (a := [.int .i64 (c.size : Nat)]) (ex := true) rfl rfl (by omega) (Nat.le_trans K.1 k3.1)
      have et : szs.take (i + 1) = szs.take i ++ [c.size] := by rw [List.take_add_one, hzg i c hc]; rfl
      have Y5 : Vec h.next nob 1 (i + 1) h4 y4 ((szs.take (i + 1)).map nn) := by rw [et, List.map_append]; exact Y4
      have K4 : Keep h.next nob h h4 := (K.trans (k3.weak K.1 fun _ _ q => q)).trans k4
      simp [q3, q9, q10, q11, isLt (show (i : Int) < (s.cls.length : Int) by omega), ix, ld, rwc, cl, al, l0, afill, aalloc, E4, i64w ((i : Int) + 1) (by omega) (by omega)]
      exact ⟨s.cls.length - (i + 1), by omega, i + 1, rfl, by omega, rfl, by simpa using Y5, K4⟩
    · have : i = s.cls.length := by omega
      subst this
      simp [q3, q9, q10, q11]
      rw [List.take_of_length_le (by omega)] at Y
      exact ⟨Y, K⟩
  rintro ⟨t, h2⟩ ⟨y, q3, Y, K⟩
  simp only at q3 Y K
  simp [q3]
  exact ⟨Y, K⟩
theorem class_ok (k : Nat) (hk : 30 < k) (h : Heap) (b : Nat) (s : Sb) (vc : AV) (O : SlO h b s vc) (hl : s.cls.length ≤ 20) (n : Int) :
    ∃ v' h', acall Try.prog (k + 1) 16 [.ptr b 0, .int .i64 n] h = some (v', h') ∧ v' = .int .i64 (if n < 0 then -1 else clsZ n s.cls) ∧ Keep h.next nob h h' := by
  rw [acall_text [] Try.func16 (by kernel_rfl)]
  refine afuncT_ex rfl (by simp [Try.f16]) ?_
  by_cases hn : n < 0
  · rw [if_pos hn]
    simp [Try.f16, isLt hn]
    exact Keep.refl _ _ _
  rw [if_neg hn]
  have sl := O.own.sl
  simp [Try.f16, O.ld3, sl.len', isLe (show 0 ≤ n by omega)]
  refine W_loop (fun m st => ∃ (i : Nat), m = s.cls.length - i ∧ i ≤ s.cls.length ∧ (∀ c, c ∈ s.cls.take i → (c.size : Int) < n) ∧ st.t.get 1 = some (.int .i64 n) ∧ st.t.get 12 = some vc ∧ st.t.get 13 = some (.int .i64 (s.cls.length : Nat)) ∧ st.t.get 14 = some (.int .i64 (i : Nat)) ∧ Keep h.next nob h st.h) s.cls.length (by omega)
    ⟨0, by simp, by omega, fun c hc => by simp at hc, by simp, by simp, by simp, by simp, Keep.refl _ _ _⟩ ?_
  rintro m ⟨t, h2⟩ ⟨i, rfl, hi, hno, q1, q12, q13, q14, K⟩
  simp only at q1 q12 q13 q14 K
  have hs := clsE_skip n i s.cls hno
  by_cases hlt : i < s.cls.length
  · obtain ⟨c, hc⟩ : ∃ c, s.cls[i]? = some c := ⟨s.cls[i], by simp⟩
    have sl2 := (O.ext K).own.sl
    have ix := sl2.idx (P := Try.prog) Try.underlying61 ts66 (j := i) hlt .i64
    have ld := sl2.lds (P := Try.prog) ta66 ts66 (j := i * 4) (by rw [cat_len Cl.c_len]; omega) (by omega)
    rw [cat_at Cl.c_len hc] at ld
    have one : c.fv.one = true := (O.free c (List.mem_of_getElem? hc)).oneV
    have rwc : (AV.agg c.c).row1 = some c.c := row1_agg (by simp [Cl.c, one])
    have al : alay (h2.new (.cells [.int .i64 0, .nils, .nilm, .int .i64 0] false)) h2.next 0 c.c = some (h2.new (.cells c.c false)) := alay_new rfl
    obtain ⟨h3, e3⟩ : ∃ h3, h2.new (.cells c.c false) = h3 := ⟨_, rfl⟩
    have k3 : Keep h2.next nob h2 h3 := by rw [← e3]; exact Keep.new (Nat.le_refl _) _
    have g3 : h3.get h2.next = some (.cells c.c false) := by rw [← e3]; exact get_new_self _ _
    rw [e3] at al
    have l0 := ldc (P := Try.prog) (ty := 3) g3 ta3 (i := 0) (x := .int .i64 (c.size : Nat)) rfl
    have cl := Cl.c_len c
    have K3 : Keep h.next nob h h3 := K.trans (k3.weak K.1 fun _ _ q => q)
    have hd : s.cls.drop i = c :: s.cls.drop (i + 1) := by
      obtain ⟨z1, z2⟩ := List.getElem?_eq_some_iff.1 hc
      rw [List.drop_eq_getElem_cons z1, z2]
    rw [hd] at hs
    simp only [clsE] at hs
    by_cases hc2 : n ≤ (c.size : Nat)
    · rw [if_pos hc2] at hs
      have e4 : clsZ n s.cls = (i : Nat) := by unfold clsZ; rw [hs]; simp
      simp [q1, q12, q13, q14, isLt (show (i : Int) < (s.cls.length : Int) by omega), ix, ld, rwc, cl, al, l0, afill, aalloc, isLe hc2, e4]
      exact K3
    · simp [q1, q12, q13, q14, isLt (show (i : Int) < (s.cls.length : Int) by omega), ix, ld, rwc, cl, al, l0, afill, aalloc, isLt (show (c.size : Int) < n by omega), i64w ((i : Int) + 1) (by omega) (by omega)]
      refine ⟨s.cls.length - (i + 1), by omega, i + 1, rfl, by omega, fun c' hc' => ?_, rfl, K3⟩
      rw [List.take_add_one, hc] at hc'
      rcases List.mem_append.1 hc' with z | z
      · exact hno c' z
      · simp at z; subst z; omega
  · rw [List.drop_of_length_le (by omega)] at hs
    simp only [clsE, Option.map_none] at hs
    have e4 : clsZ n s.cls = -1 := by unfold clsZ; rw [hs]
    have : i = s.cls.length := by omega
    subst this
    simp [q1, q12, q13, q14, e4]
    exact K
end Go.Proofs.Ytmoigchjmmjljaa
