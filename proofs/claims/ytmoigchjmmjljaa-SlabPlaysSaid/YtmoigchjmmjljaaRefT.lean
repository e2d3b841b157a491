/- Contracts of depotref5.Slab: NewSlab, Class, there, Read. -/
import Derived.Test.YtmoigchjmmjljaaRefS
namespace Go.Proofs.Ytmoigchjmmjljaa
open Go Go.YtmoigchjmmjljaaAbs
set_option linter.unusedSimpArgs false
set_option linter.unusedVariables false
set_option maxRecDepth 4000

def rc0 (sz : Nat) : Rc := ⟨sz, 0, [], [], [], .nils, .nils, .nils⟩
def FreshR (cls : List Rc) : Prop := ∀ (j : Nat) (c : Rc), cls[j]? = some c → c.size = 64 * 2 ^ j ∧ c.free = [] ∧ c.count = 0 ∧ c.data = [] ∧ c.live = []
theorem hold_rc0 {h : Heap} {L : List Th} (O : Hold h L) (sz : Nat) : Hold h (L ++ (rc0 sz).th) ∧ ∀ d, Inn (L ++ (rc0 sz).th) d → Inn L d := by
  have no : ∀ d, ¬ Inn (rc0 sz).th d := fun d q => by
    obtain ⟨x, hx, hd⟩ := in_iff.1 q
    simp [Rc.th, rc0] at hx
    rcases hx with rfl | rfl | rfl <;> cases hd
  refine ⟨own_append.2 ⟨O, ⟨fun x hx => ?_, ?_⟩, fun d _ hd => no d hd⟩, fun d hd => (in_append.1 hd).resolve_right (no d)⟩
  · simp [Rc.th, rc0] at hx
    rcases hx with rfl | rfl | rfl <;> exact Mine.nil _ _
  · show (blks _).Nodup
    simp [Rc.th, rc0, blks_cons]
theorem RO.snoc {h : Heap} {b : Nat} {r : Rb} {vc : AV} (O : RO h b r vc) (hl : r.cls.length < 100000) (sz : Nat) :
    ∃ v' h5 h6, aappend Try.prog (h.new (.cells [.int .i64 (sz : Nat), .int .i64 0, .nils, .nils, .nils] false)) 54 54 vc (.sl h.next 0 1 1 5 true) = some (v', h5) ∧ v'.one = true ∧
      alay h5 b 2 [v'] = some h6 ∧ RO h6 b { r with cls := r.cls ++ [rc0 sz] } v' ∧ Fresh h (r.th b vc) (Rb.th { r with cls := r.cls ++ [rc0 sz] } b v') ∧ Keep h.next (Inn (r.th b vc)) h h6 := by
  obtain ⟨v', h5, E5, M5, F5, K5⟩ := (RO.own O).push (P := Try.prog) el54 (a := (rc0 sz).c) (ex := true) rfl rfl (by omega)
  obtain ⟨p1, p2, p3⟩ := Hold.upd O (i := 1) rfl K5 (o' := .vec 5 (r.cls.length + 1) (cat Rc.c r.cls ++ (rc0 sz).c)) M5 F5
  obtain ⟨b', e, hb, g5⟩ := p1.get (i := 0) (v := .ptr b 0) (o := .blk [.int .i64 (r.page : Nat), .int .i64 (r.left : Nat), vc]) rfl
  cases e
  have e6 : alay h5 b 2 [v'] = some (h5.set b (.cells [.int .i64 (r.page : Nat), .int .i64 (r.left : Nat), v'] false)) := by unfold alay; rw [g5]; rfl
  have K6 : Keep h5.next (Has (.ptr b 0)) h5 (h5.set b (.cells [.int .i64 (r.page : Nat), .int .i64 (r.left : Nat), v'] false)) := Keep.set (F := Has (.ptr b 0)) (.inl rfl) _
  obtain ⟨q1, q2, q3⟩ := Hold.upd p1 (i := 0) rfl K6 (o' := .blk [.int .i64 (r.page : Nat), .int .i64 (r.left : Nat), v']) ⟨b, rfl, hb, get_set_self _ _ _⟩ (From.refl _ _)
  obtain ⟨s1, s2⟩ := hold_rc0 q1 sz
  have eth : Rb.th { r with cls := r.cls ++ [rc0 sz] } b v' = (((r.th b vc).set 1 (v', .vec 5 (r.cls.length + 1) (cat Rc.c r.cls ++ (rc0 sz).c))).set 0 (.ptr b 0, .blk [.int .i64 (r.page : Nat), .int .i64 (r.left : Nat), v'])) ++ (rc0 sz).th := by
    unfold Rb.th
    simp only [List.length_append, List.length_singleton, cat_append, cat_one, gcat_append, gcat_one]
    rfl
  refine ⟨v', h5, _, E5, M5.oneV, e6, ?_, fun d hd => ?_, keep_two p3 p2 q3⟩
  · show Hold _ _
    rw [eth]; exact s1
  · rw [eth] at hd
    exact (p2.trans q2 K5.1) d (s2 d hd)
set_option maxHeartbeats 1000000 in
theorem rnew_ok (k : Nat) (hk : 30 < k) (h : Heap) (P Q : Nat) (hP : 1 ≤ P) (hP2 : P ≤ 64) (hQ : 64 ≤ Q) (hQ2 : Q ≤ 65536) :
    ∃ v' h', acall Try.prog (k + 1) 17 [.int .i64 (P : Nat), .int .i64 (Q : Nat)] h = some (v', h') ∧ ∃ (b : Nat) (cls : List Rc) (vc : AV), v' = .tup [.ptr b 0, .int .i64 0] ∧ Wd h h' (Rb.th ⟨Q, P, cls⟩ b vc) ∧ FreshR cls ∧
      1 ≤ cls.length ∧ cls.length ≤ 11 ∧ 64 * 2 ^ (cls.length - 1) ≤ Q ∧ Q < 64 * 2 ^ cls.length := by
  have W1 : Wd h (h.new (.cells [.int .i64 (Q : Nat), .int .i64 (P : Nat), .nils] false)) (Rb.th ⟨Q, P, []⟩ h.next .nils) :=
    ((Wd.start h).cons (Keep.refl _ _ _) (v := .nils) (o := .vec 5 0 []) (Mine.nil _ _) (fun d hd => by cases hd)).cons (Keep.new (Nat.le_refl _) _) (v := .ptr h.next 0) (o := .blk [.int .i64 (Q : Nat), .int .i64 (P : Nat), .nils]) ⟨h.next, rfl, Nat.lt_succ_self _, get_new_self _ _⟩ (fun d hd => by cases hd; exact Nat.le_refl _)
  obtain ⟨h1, e1⟩ : ∃ h1, h.new (.cells [.int .i64 (Q : Nat), .int .i64 (P : Nat), .nils] false) = h1 := ⟨_, rfl⟩
  rw [e1] at W1
  have rwN : (AV.agg [.int .i64 (Q : Nat), .int .i64 (P : Nat), .nils]).row1 = some [.int .i64 (Q : Nat), .int .i64 (P : Nat), .nils] := rfl
  rw [acall_text [] Try.func17 (by kernel_rfl)]
  refine afuncT_ex rfl (by simp [Try.f17]) ?_
  simp [Try.f17, isLe (show (1 : Int) ≤ (P : Int) by omega), isLe (show (P : Int) ≤ 64 by omega), isLe (show (64 : Int) ≤ (Q : Int) by omega), isLe (show (Q : Int) ≤ 65536 by omega), afill, aalloc, rwN, e1]
  obtain ⟨b, hb⟩ : ∃ b, b = h.next := ⟨_, rfl⟩
  rw [← hb] at W1 ⊢
  have pw : ∀ i : Nat, 64 * 2 ^ i ≤ Q → i ≤ 10 := fun i hi => by
    have : ¬ 11 ≤ i := fun q => by
      have : 2 ^ 11 ≤ 2 ^ i := Nat.pow_le_pow_right (by omega) q
      have : (2 : Nat) ^ 11 = 2048 := rfl
      omega
    omega
  refine W_cutLoop 0 (fun st => st.t.get 6 = some (.ptr b 0) ∧ ∃ (cls : List Rc) (vc : AV), Wd h st.h (Rb.th ⟨Q, P, cls⟩ b vc) ∧ FreshR cls ∧ 1 ≤ cls.length ∧ cls.length ≤ 11 ∧ 64 * 2 ^ (cls.length - 1) ≤ Q ∧ Q < 64 * 2 ^ cls.length) ?_ ?_
  · refine W_loop (fun m st => ∃ (cls : List Rc) (vc : AV), m = 12 - cls.length ∧ st.t.get 1 = some (.int .i64 (Q : Nat)) ∧ st.t.get 6 = some (.ptr b 0) ∧ st.t.get 7 = some (.int .i64 ((64 * 2 ^ cls.length : Nat) : Int)) ∧ (cls.length = 0 ∨ 64 * 2 ^ (cls.length - 1) ≤ Q) ∧
      Wd h st.h (Rb.th ⟨Q, P, cls⟩ b vc) ∧ FreshR cls) 12 (by omega)
      ⟨[], .nils, rfl, rfl, by simp [hb], rfl, .inl rfl, W1, fun j c hc => by simp at hc⟩ ?_
    rintro m ⟨t, h2⟩ ⟨cls, vc, rfl, q1, q6, q7, hl, W, F⟩
    simp only at q1 q6 q7 W
    have hl10 : cls.length ≤ 11 := by
      rcases hl with z | z
      · omega
      · have := pw _ z; omega
    obtain ⟨S, hS⟩ : ∃ S, S = 64 * 2 ^ cls.length := ⟨_, rfl⟩
    have hS2 : 64 * 2 ^ (cls.length + 1) = 2 * S := by rw [hS, Nat.pow_succ]; omega
    have hS3 : S ≤ 131072 := by
      have : 2 ^ cls.length ≤ 2 ^ 11 := Nat.pow_le_pow_right (by omega) hl10
      have e : (2 : Nat) ^ 11 = 2048 := rfl
      omega
    rw [← hS] at q7
    by_cases hlt : S ≤ Q
    · have := pw _ (hS ▸ hlt)
      obtain ⟨v', h5, h6, E5, ov, E6, O6, f6, K6⟩ := RO.snoc W.own (by simp only; omega) S
      have ro := row1_one ov
      have rwC : (AV.agg [.int .i64 (S : Nat), .int .i64 0, .nils, .nils, .nils]).row1 = some [.int .i64 (S : Nat), .int .i64 0, .nils, .nils, .nils] := rfl
      have l2 := RO.ld2 W.own (ty := 54) ta54
      have w7 := i64w ((S : Int) * 2) (by omega) (by omega)
      have F' : FreshR (cls ++ [rc0 S]) := fun j c hc => by
        rw [List.getElem?_append] at hc
        split at hc
        · exact F j c hc
        · rename_i hj
          have hj2 : j - cls.length = 0 := by
            have := (List.getElem?_eq_some_iff.1 hc).1
            simp at this
            exact this
          rw [hj2] at hc
          have : j = cls.length := by omega
          simp at hc
          subst hc
          subst this
          exact ⟨hS, rfl, rfl, rfl, rfl⟩
      have W6 := W.step O6 f6 K6
      simp [q1, q6, q7, isLe (show (S : Int) ≤ (Q : Int) by omega), l2, afill, aalloc, ro, rwC, E5, E6, w7]
      have hS4 : (S : Int) * 2 = 64 * 2 ^ (cls.length + 1) := by
        have : ((64 * 2 ^ (cls.length + 1) : Nat) : Int) = ((2 * S : Nat) : Int) := by rw [hS2]
        push_cast at this
        rw [this]; omega
      refine ⟨12 - (cls.length + 1), by omega, cls ++ [rc0 S], by simp, ?_, .inr ?_, ⟨v', W6⟩, F'⟩
      · rw [List.length_append, List.length_singleton]; exact hS4
      · rw [List.length_append, List.length_singleton, Nat.add_sub_cancel, ← hS]; exact hlt
    · simp [q1, q6, q7, isLt (show (Q : Int) < (S : Int) by omega)]
      rw [hS] at hlt
      have h0 : cls.length ≠ 0 := fun z => by rw [z] at hlt; omega
      exact ⟨cls, ⟨vc, W⟩, F, by omega, hl10, hl.resolve_left h0, by omega⟩
  rintro ⟨t, h2⟩ ⟨q6, cls, vc, W, F, l1, l2, l3, l4⟩
  simp only at q6 W
  simp [q6]
  exact ⟨cls, ⟨vc, W⟩, F, l1, l2, l3, l4⟩
theorem rclass_ok (k : Nat) (hk : 30 < k) (h : Heap) (b : Nat) (r : Rb) (vc : AV) (O : RO h b r vc) (hl : r.cls.length ≤ 20) (n : Nat) :
    ∃ v' h', acall Try.prog (k + 1) 20 [.ptr b 0, .int .i64 (n : Nat)] h = some (v', h') ∧ h' = h ∧ v' = .int .i64 (match clsS (n : Nat) (r.cls.map (·.size)) with | some i => (i : Nat) | none => -1) := by
  rw [acall_text [] Try.func20 (by kernel_rfl)]
  refine afuncT_ex rfl (by simp [Try.f20]) ?_
  have l2 := RO.ld2 O (ty := 54) ta54
  have sl := (RO.own O).sl
  have ll := sl.len'
  simp [Try.f20]
  refine W_loop (fun m st => ∃ (i : Nat), m = r.cls.length - i ∧ i ≤ r.cls.length ∧ (∀ c : Nat, c ∈ (r.cls.map (·.size)).take i → (c : Int) < (n : Nat)) ∧ st.t.get 0 = some (.ptr b 0) ∧ st.t.get 1 = some (.int .i64 (n : Nat)) ∧ st.t.get 5 = some (.int .i64 (i : Nat)) ∧ st.h = h) r.cls.length (by omega)
    ⟨0, by simp, by omega, fun c hc => by simp at hc, by simp, by simp, by simp, rfl⟩ ?_
  rintro m ⟨t, h2⟩ ⟨i, rfl, hi, hno, q0, q1, q5, e2⟩
  simp only at q0 q1 q5 e2
  replace e2 := e2.symm
  subst e2
  have hs := clsS_skip (n : Nat) i _ hno
  by_cases hlt : i < r.cls.length
  · obtain ⟨c, hc⟩ : ∃ c, r.cls[i]? = some c := ⟨r.cls[i], by simp⟩
    have ix := sl.idx (P := Try.prog) Try.underlying54 ts70 (j := i) hlt .i64
    have l0 := RO.ldc O hc (o := 0) (x := .int .i64 (c.size : Nat)) (by omega) rfl (ty := 3) ta3
    have hd : (r.cls.map (·.size)).drop i = c.size :: (r.cls.map (·.size)).drop (i + 1) := by
      rw [← List.map_drop, ← List.map_drop]
      obtain ⟨z1, z2⟩ := List.getElem?_eq_some_iff.1 hc
      rw [List.drop_eq_getElem_cons z1, z2]; rfl
    rw [hd] at hs
    simp only [clsS] at hs
    simp only [Nat.add_zero] at l0
    by_cases hc2 : n ≤ c.size
    · rw [if_pos (by omega)] at hs
      simp [q0, q1, q5, l2, ll, isLt (show (i : Int) < (r.cls.length : Int) by omega), isLe (show (0 : Int) ≤ (n : Int) by omega), ix, l0, isLe (show (n : Int) ≤ (c.size : Int) by omega), hs]
    · rw [if_neg (by omega)] at hs
      simp [q0, q1, q5, l2, ll, isLt (show (i : Int) < (r.cls.length : Int) by omega), isLe (show (0 : Int) ≤ (n : Int) by omega), ix, l0, isLt (show (c.size : Int) < (n : Int) by omega), i64w ((i : Int) + 1) (by omega) (by omega)]
      refine ⟨r.cls.length - (i + 1), by omega, i + 1, rfl, by omega, fun c' hc' => ?_, by omega⟩
      rw [List.take_add_one, List.getElem?_map, hc] at hc'
      rcases List.mem_append.1 hc' with z | z
      · have := hno c' z; omega
      · simp at z; subst z; omega
  · rw [List.drop_of_length_le (by rw [List.length_map]; omega)] at hs
    simp only [clsS, Option.map_none] at hs
    have : i = r.cls.length := by omega
    subst this
    simp [q0, q1, q5, l2, ll, hs]
/-- Is a chunk live? -/
def thereR (r : Rb) (ci ch : Int) : Bool := if ci < 0 then false else match r.cls[ci.toNat]? with
  | none => false
  | some c => if ch < 0 then false else (c.live[ch.toNat]?).getD false
theorem there_ok (k : Nat) (h : Heap) (b : Nat) (r : Rb) (vc : AV) (O : RO h b r vc) (hl : ∀ (j : Nat) (c : Rc), r.cls[j]? = some c → c.live.length = c.count) (ci ch : Int) :
    ∃ v' h', acall Try.prog (k + 1) 25 [.ptr b 0, .agg [.int .i64 ci, .int .i64 ch]] h = some (v', h') ∧ v' = .bool (thereR r ci ch) ∧ Keep h.next nob h h' := by
  have rwH : (AV.agg [.int .i64 ci, .int .i64 ch]).row1 = some [.int .i64 ci, .int .i64 ch] := rfl
  obtain ⟨h1, e1⟩ : ∃ h1, h.new (.cells [.int .i64 ci, .int .i64 ch] false) = h1 := ⟨_, rfl⟩
  have k1 : Keep h.next nob h h1 := by rw [← e1]; exact Keep.new (Nat.le_refl _) _
  have g1 : h1.get h.next = some (.cells [.int .i64 ci, .int .i64 ch] false) := by rw [← e1]; exact get_new_self _ _
  have l0 := ldc (P := Try.prog) (ty := 3) g1 ta3 (i := 0) (x := .int .i64 ci) rfl
  have l1 := ldc (P := Try.prog) (ty := 3) g1 ta3 (i := 1) (x := .int .i64 ch) rfl
  have O1 : RO h1 b r vc := Hold.ext O k1
  have sl := (RO.own O1).sl.len'
  have l2 := RO.ld2 O1 (ty := 54) ta54
  unfold thereR
  rw [acall_text [] Try.func25 (by kernel_rfl)]
  refine afuncT_ex rfl (by simp [Try.f25]) ?_
  by_cases c0 : ci < 0
  · rw [if_pos c0]
    simp [Try.f25, rwH, e1, l0, isLt c0]
    exact k1
  rw [if_neg c0]
  obtain ⟨i, rfl⟩ := Int.eq_ofNat_of_zero_le (show 0 ≤ ci by omega)
  rw [Int.toNat_natCast]
  by_cases hil : i < r.cls.length
  rotate_left
  · rw [List.getElem?_eq_none (by omega)]
    simp [Try.f25, rwH, e1, l0, l2, sl, isLe (show (0 : Int) ≤ (i : Int) by omega), isLe (show (r.cls.length : Int) ≤ (i : Int) by omega)]
    exact k1
  obtain ⟨c, hc⟩ : ∃ c, r.cls[i]? = some c := ⟨r.cls[i], by simp⟩
  rw [hc]
  simp only
  by_cases d0 : ch < 0
  · rw [if_pos d0]
    simp [Try.f25, rwH, e1, l0, l1, l2, sl, isLe (show (0 : Int) ≤ (i : Int) by omega), isLt (show (i : Int) < (r.cls.length : Int) by omega), isLt d0]
    exact k1
  rw [if_neg d0]
  obtain ⟨K, rfl⟩ := Int.eq_ofNat_of_zero_le (show 0 ≤ ch by omega)
  rw [Int.toNat_natCast]
  have hcl := hl i c hc
  have ix := (RO.own O1).sl.idx (P := Try.prog) Try.underlying54 ts70 (j := i) hil .i64
  have lc := RO.ldc O1 hc (o := 1) (x := .int .i64 (c.count : Nat)) (by omega) rfl (ty := 3) ta3
  by_cases hK : K < c.count
  rotate_left
  · rw [List.getElem?_eq_none (by omega)]
    simp [Try.f25, rwH, e1, l0, l1, l2, sl, isLe (show (0 : Int) ≤ (i : Int) by omega), isLt (show (i : Int) < (r.cls.length : Int) by omega), isLe (show (0 : Int) ≤ (K : Int) by omega), ix, lc, isLe (show (c.count : Int) ≤ (K : Int) by omega)]
    exact k1
  obtain ⟨B, hB⟩ : ∃ B, c.live[K]? = some B := ⟨c.live[K]'(by omega), by simp⟩
  rw [hB]
  have ll := RO.ldc O1 hc (o := 4) (x := c.lv) (by omega) rfl (ty := 68) ta68
  have ixl := (RO.live O1 hc).sl.idx1 (P := Try.prog) Try.underlying68 ts4 (j := K) (by omega) .i64
  have ldl := (RO.live O1 hc).sl.ld (P := Try.prog) (e := 4) ta4 (j := K) (x := .bool B) (by rw [List.getElem?_map, hB]; rfl)
  simp [Try.f25, rwH, e1, l0, l1, l2, sl, isLe (show (0 : Int) ≤ (i : Int) by omega), isLt (show (i : Int) < (r.cls.length : Int) by omega), isLe (show (0 : Int) ≤ (K : Int) by omega), ix, lc, isLt (show (K : Int) < (c.count : Int) by omega), ll, ixl, ldl]
  exact k1
/-- What is read. -/
def readR (r : Rb) (ci ch : Int) : Option ByteArray := if thereR r ci ch = true then some ((((r.cls[ci.toNat]?).bind fun c => c.data[ch.toNat]?)).getD .empty) else none
theorem there_at {r : Rb} {ci ch : Int} (h : thereR r ci ch = true) : ∃ (i K : Nat) (c : Rc), ci = (i : Nat) ∧ ch = (K : Nat) ∧ r.cls[i]? = some c ∧ c.live[K]? = some true := by
  unfold thereR at h
  split at h
  · cases h
  · rename_i h0
    split at h
    · cases h
    · rename_i c hc
      split at h
      · cases h
      · rename_i h1
        obtain ⟨i, rfl⟩ := Int.eq_ofNat_of_zero_le (show 0 ≤ ci by omega)
        obtain ⟨K, rfl⟩ := Int.eq_ofNat_of_zero_le (show 0 ≤ ch by omega)
        rw [Int.toNat_natCast] at hc h
        refine ⟨i, K, c, rfl, rfl, hc, ?_⟩
        cases hq : c.live[K]? with
        | none => rw [hq] at h; cases h
        | some B => rw [hq] at h; rw [show B = true from h]
theorem rread_ok (k : Nat) (h : Heap) (b : Nat) (r : Rb) (vc : AV) (O : RO h b r vc) (hl : ∀ (j : Nat) (c : Rc), r.cls[j]? = some c → c.live.length = c.count ∧ c.data.length = c.count) (ci ch : Int) :
    ∃ v' h', acall Try.prog (k + 2) 23 [.ptr b 0, .agg [.int .i64 ci, .int .i64 ch]] h = some (v', h') ∧ v' = .tup [.str ((readR r ci ch).getD .empty), .bool (readR r ci ch).isSome] ∧ Keep h.next nob h h' := by
  have rwH : (AV.agg [.int .i64 ci, .int .i64 ch]).row1 = some [.int .i64 ci, .int .i64 ch] := rfl
  obtain ⟨h1, e1⟩ : ∃ h1, h.new (.cells [.int .i64 ci, .int .i64 ch] false) = h1 := ⟨_, rfl⟩
  have k1 : Keep h.next nob h h1 := by rw [← e1]; exact Keep.new (Nat.le_refl _) _
  have n1 : h.next < h1.next := by rw [← e1]; exact Nat.lt_succ_self _
  have g1 : h1.get h.next = some (.cells [.int .i64 ci, .int .i64 ch] false) := by rw [← e1]; exact get_new_self _ _
  have lH : aload Try.prog h1 34 h.next 0 = some (.agg [.int .i64 ci, .int .i64 ch]) := by simp [aload, Heap.row, g1, ta34, ts34]
  obtain ⟨_, h2, E2, rfl, k2⟩ := there_ok k h1 b r vc (Hold.ext O k1) (fun j c hc => (hl j c hc).1) ci ch
  have K2 := k1.trans (k2.weak k1.1 fun _ _ q => q)
  unfold readR
  rw [acall_text [] Try.func23 (by kernel_rfl)]
  refine afuncT_ex rfl (by simp [Try.f23]) ?_
  cases ht : thereR r ci ch with
  | false =>
    rw [ht] at E2
    simp [Try.f23, rwH, e1, lH, E2]
    exact ⟨rfl, K2⟩
  | true =>
    rw [ht] at E2
    obtain ⟨i, K, c, rfl, rfl, hc, hB⟩ := there_at ht
    have hil := (List.getElem?_eq_some_iff.1 hc).1
    have hKl := (List.getElem?_eq_some_iff.1 hB).1
    obtain ⟨hl1, hl2⟩ := hl i c hc
    obtain ⟨d, hd⟩ : ∃ d, c.data[K]? = some d := ⟨c.data[K]'(by omega), by simp⟩
    have g2 : h2.get h.next = some (.cells [.int .i64 (i : Nat), .int .i64 (K : Nat)] false) := (k2.2 _ n1 id).trans g1
    have l0 := ldc (P := Try.prog) (ty := 3) g2 ta3 (i := 0) (x := .int .i64 (i : Nat)) rfl
    have l1 := ldc (P := Try.prog) (ty := 3) g2 ta3 (i := 1) (x := .int .i64 (K : Nat)) rfl
    have O2 : RO h2 b r vc := Hold.ext O K2
    have l2 := RO.ld2 O2 (ty := 54) ta54
    have ix := (RO.own O2).sl.idx (P := Try.prog) Try.underlying54 ts70 (j := i) hil .i64
    have ld := RO.ldc O2 hc (o := 3) (x := c.dv) (by omega) rfl (ty := 59) ta59
    have ixd := (RO.data O2 hc).sl.idx1 (P := Try.prog) Try.underlying59 ts9 (j := K) (by omega) .i64
    have ldd := (RO.data O2 hc).sl.ld (P := Try.prog) (e := 9) ta9 (j := K) (x := .str d) (by rw [List.getElem?_map, hd]; rfl)
    simp [Try.f23, rwH, e1, lH, E2, l0, l1, l2, ix, ld, ixd, ldd, hc, hd]
    exact K2
end Go.Proofs.Ytmoigchjmmjljaa
