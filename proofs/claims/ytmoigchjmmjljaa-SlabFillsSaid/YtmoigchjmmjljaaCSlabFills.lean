/- The law SlabFills returns true for every input, and its input reads behind the call as it did; no conditions. The kit's model is followed by an abstract machine that is shown to tell what the model does; the contracts of the functions are proved over that machine. -/
import Derived.Test.YtmoigchjmmjljaaRows
import Derived.Test.YtmoigchjmmjljaaRuns
import Derived.Test.YtmoigchjmmjljaaSlabP
import Derived.Test.YtmoigchjmmjljaaBook
import Derived.WalkKit
import Derived.ProofKit
import Derived.OpenShut
import Derived.JoinedCond
namespace Go.Proofs.Ytmoigchjmmjljaa.cSlabFills
open Go Go.ChangeShapes Go.WideShapes Go.ChangeAt Go.RowKit Go.YtmoigchjmmjljaaAbs
set_option linter.unusedSimpArgs false
set_option linter.unusedVariables false

set_option maxRecDepth 4000
def hC (K : Nat) : List AV := [.int .i64 0, .int .i64 (K : Nat)]
theorem hC_len (K : Nat) : (hC K).length = 2 := rfl
structure St0 (b Q p n : Nat) (vc : AV) (c1 : Cl) (R : List Cl) (h : Heap) (left : Nat) (ks : List Nat) (c : Cl) (used : Nat) : Prop where
  o : SlO h b ⟨Q, left, used, c :: c1 :: R⟩ vc
  size : c.size = 64
  live : c.live.map (·.1) = ks
  fl : FL n p c.count left c.free ks
  us : used + left = p
def zeros (n : Nat) : ByteArray := ⟨⟨List.replicate n 0⟩⟩
theorem zeros_size (n : Nat) : (zeros n).size = n := by show (List.replicate n (0 : UInt8)).toArray.size = n; simp
theorem zeros_conv (h : Heap) (n : Nat) : aconv Try.prog (h.new (.cells (List.replicate n (.int .u8 0)) false)) 30 9 (.sl h.next 0 n n 1 true) = some (.str (zeros n), h.new (.cells (List.replicate n (.int .u8 0)) false)) := by
  have e : List.replicate n (AV.int .u8 0) = (List.replicate n (0 : UInt8)).map bb := by rw [List.map_replicate]; rfl
  refine aconv_bs (P := Try.prog) (src := 30) (dst := 9) (n := n) (l := List.replicate n 0) ?_ Try.underlying30 Try.underlying9 Try.underlying5
  rw [e]
  exact .inr (.inr ⟨h.next, 0, n, true, _, false, rfl, Nat.lt_succ_self _, get_new_self _ _, by simp, by simp, by simp, Nat.le_refl _⟩)
section
variable {b Q p n left used : Nat} {vc : AV} {c1 c : Cl} {R : List Cl} {h : Heap} {ks : List Nat}
theorem St0.ext {h' : Heap} (S : St0 b Q p n vc c1 R h left ks c used) (K : Keep h.next nob h h') : St0 b Q p n vc c1 R h' left ks c used := ⟨S.o.ext K, S.size, S.live, S.fl, S.us⟩
/-- A chunk more. -/
theorem St0.alloc (S : St0 b Q p n vc c1 R h left ks c used) (k : Nat) (hk : 70000 < k) (hR : R.length ≤ 10) (hQ : 64 ≤ Q ∧ Q ≤ 1000) (hp : p ≤ 6) (hn : n = Q / 64) (hlt : ks.length < n * p) (d : ByteArray) (hd : d.size ≤ 64) :
    ∃ h' left' c' used' K, acall Try.prog (k + 2) 13 [.ptr b 0, .str d] h = some (.tup [.agg (hC K), .int .i64 0], h') ∧ St0 b Q p n vc c1 R h' left' (ks ++ [K]) c' used' ∧
      (∀ e, e ∈ fpS b ⟨Q, left', used', c' :: c1 :: R⟩ vc → e ∈ fpS b ⟨Q, left, used, c :: c1 :: R⟩ vc ∨ h.next ≤ e) ∧ Keep h.next (fun e => e ∈ fpS b ⟨Q, left, used, c :: c1 :: R⟩ vc) h h' := by
  have hsz := S.size
  have us := S.us
  have hn1 : 1 ≤ n := by rw [hn]; omega
  have hn2 : n ≤ 15 := by rw [hn]; omega
  have ml : n * p ≤ 15 * 6 := Nat.mul_le_mul hn2 hp
  have fl := S.fl
  have hcl := fl.len
  have hpg := fl.pages
  have hc : clsE (d.size : Nat) (c :: c1 :: R) = some 0 := by
    simp only [clsE]; rw [if_pos (by rw [hsz]; omega)]
  obtain ⟨room, hK⟩ := fl.pop hn1 hlt rfl rfl rfl
  obtain ⟨v', h', E, c2, F, cnt, left', used', K, eF, ecnt, eleft, eused, hKF, ev, z1, z2, z3, z4, O', fp', K'⟩ := alloc_ok k hk h b _ vc S.o (by simp; omega) d (by have : maxLen = 9223372036854775807 := rfl; omega) hc (i := 0) (c := c) rfl (by simp only; omega) (by simp only; omega) (by simp only; omega) (by omega) (by omega) room
  subst ev
  simp only at eF ecnt eleft eused O' fp' K'
  rw [hsz, ← hn] at eF ecnt
  rw [← eF] at hK
  obtain ⟨k1, k2⟩ := hK K hKF
  rw [← ecnt, ← eleft, ← z3] at k2
  refine ⟨h', left', c2, used', K, E, ⟨O', z1.trans hsz, ?_, by rw [z2]; exact k2, ?_⟩, fp', K'⟩
  · rw [← S.live]
    exact lput_keys (by rw [S.live]; exact k1) z4
  · rw [eleft, eused]
    split
    · rename_i q
      have := room.resolve_left (fun z => z q)
      omega
    · exact us
/-- A chunk less. -/
theorem St0.free {K : Nat} (S : St0 b Q p n vc c1 R h left (K :: ks) c used) (k : Nat) (hk : 70000 < k) (hR : R.length ≤ 10) (hC' : n * p ≤ 1000) :
    ∃ h' c', acall Try.prog (k + 2) 14 [.ptr b 0, .agg (hC K)] h = some (.bool true, h') ∧ St0 b Q p n vc c1 R h' left ks c' used ∧
      (∀ e, e ∈ fpS b ⟨Q, left, used, c' :: c1 :: R⟩ vc → e ∈ fpS b ⟨Q, left, used, c :: c1 :: R⟩ vc ∨ h.next ≤ e) ∧ Keep h.next (fun e => e ∈ fpS b ⟨Q, left, used, c :: c1 :: R⟩ vc) h h' := by
  have fl := S.fl
  have hcl := fl.len
  have hpg := fl.pages
  obtain ⟨y, y1, y2, y3⟩ := lk_head S.live
  obtain ⟨_, h', E, rfl, c2, z1, z2, z3, z4, z5, O', fp', K'⟩ := free_ok k hk h b _ vc S.o (by simp; omega) (i := 0) (K := K) (c := c) rfl y1 (by omega)
  exact ⟨h', c2, E, ⟨O', z1.trans S.size, by rw [z4]; exact y3, by rw [z2, z3]; exact fl.give, S.us⟩, fp', K'⟩
end
set_option maxHeartbeats 4000000 in
theorem law_run (k : Nat) (hk : 90000 < k) (h : Heap) (a0 : Int) (w0 : (Lit.int .i64 a0).wf = true) (a1 : Int) (w1 : (Lit.int .i64 a1).wf = true) (a2 : Int) (w2 : (Lit.int .i64 a2).wf = true) :
    ∃ v h', afuncT Try.prog [] (orRuns 3 (acall Try.prog (k + 10))) (k + 10) Try.f7 [.int .i64 a0, .int .i64 a1, .int .i64 a2] h = some (v, h') ∧ v = .bool true := by
  have W1 : acall Try.prog (k + 10) 15 [.int .i64 a0, .int .i64 1, .int .i64 6] h = _ := within_ok (k + 9) a0 1 6 (by omega) (by omega) (by omega) h
  obtain ⟨p, hp⟩ : ∃ p : Nat, (1 : Int) + a0 % (6 - 1 + 1) = (p : Int) := ⟨((1 : Int) + a0 % (6 - 1 + 1)).toNat, by omega⟩
  have hp2 : 1 ≤ p ∧ p ≤ 6 := by omega
  rw [hp] at W1
  have W2 : acall Try.prog (k + 10) 15 [.int .i64 a1, .int .i64 128, .int .i64 1000] h = _ := within_ok (k + 9) a1 128 1000 (by omega) (by omega) (by omega) h
  obtain ⟨Q, hQ⟩ : ∃ Q : Nat, (128 : Int) + a1 % (1000 - 128 + 1) = (Q : Int) := ⟨((128 : Int) + a1 % (1000 - 128 + 1)).toNat, by omega⟩
  have hQ2 : 128 ≤ Q ∧ Q ≤ 1000 := by omega
  rw [hQ] at W2
  have W3 : acall Try.prog (k + 10) 15 [.int .i64 a2, .int .i64 0, .int .i64 64] h = _ := within_ok (k + 9) a2 0 64 (by omega) (by omega) (by omega) h
  obtain ⟨N, hN⟩ : ∃ N : Nat, (0 : Int) + a2 % (64 - 0 + 1) = (N : Int) := ⟨((0 : Int) + a2 % (64 - 0 + 1)).toNat, by omega⟩
  have hN2 : N ≤ 64 := by omega
  rw [hN] at W3
  clear hp hQ hN
  obtain ⟨_, h1, E1, b, cls, vc, rfl, O, F, l1, l2, l3, l4, f1, k1⟩ := new_ok (k + 9) (by omega) h p Q (by omega) (by omega) (by omega) (by omega)
  obtain ⟨n, hn⟩ : ∃ n, n = Q / 64 := ⟨_, rfl⟩
  have hn1 : 1 ≤ n ∧ n ≤ 15 := by omega
  have ml : n * p ≤ 15 * 6 := Nat.mul_le_mul hn1.2 hp2.2
  have mp : 1 ≤ n * p := Nat.mul_le_mul hn1.1 hp2.1
  obtain ⟨M, hM⟩ : ∃ M, M = n * p := ⟨_, rfl⟩
  have eq64 : (Q : Int) / 64 = (n : Nat) := by rw [hn]; rfl
  have eM : (p : Int) * (n : Int) = (M : Nat) := by rw [hM, Nat.mul_comm]; rfl
  obtain ⟨c, c1, R, rfl⟩ : ∃ c c1 R, cls = c :: c1 :: R := by
    match cls, l4, l1 with
    | [], _, q => simp at q
    | [_], q, _ => simp at q; omega
    | c :: c1 :: R, _, _ => exact ⟨c, c1, R, rfl⟩
  have hR : R.length ≤ 10 := by simp at l2; omega
  obtain ⟨q1, q2, q3, q4, q5⟩ := F 0 c rfl
  obtain ⟨r1, r2, r3, r4, r5⟩ := F 1 c1 rfl
  have S1 : St0 b Q p n vc c1 R h1 p [] c 0 := ⟨O, q1, by rw [q3]; rfl, by rw [q2, q5]; exact FL.new n p, by omega⟩
  have others : ∀ x, x ∈ R → x.live = [] := fun x hx => by
    obtain ⟨j, hj⟩ := List.getElem?_of_mem hx
    exact (F (j + 2) x (by simpa using hj)).2.2.1
  have lR : ∀ L : List Cl, (∀ x, x ∈ L → x.live = []) → liveN L = 0 := fun L hL => by
    induction L with
    | nil => rfl
    | cons x L ih =>
      have h1 := hL x (by simp)
      have h2 := ih fun z hz => hL z (by simp [hz])
      unfold liveN at *
      simp [h1] at h2 ⊢
      exact h2
  have lv0 := lR (c1 :: R) (fun x hx => by rcases List.mem_cons.1 hx with rfl | hx; exact r3; exact others x hx)
  clear l1 l2 l3 l4 q1 q2 q3 q4 q5 F O
  refine afuncT_ex rfl (by simp [Try.f7]) ?_
  have wM := i64w (M : Int) (by omega) (by omega)
  have wn := i64w (n : Int) (by omega) (by omega)
  simp [Try.f7, W1, W2, W3, E1, aeql, eq64, wn, eM, wM]
  refine W_cutLoop 0 (fun st => st.t.get 10 = some (.ptr b 0) ∧ ∃ c used, St0 b Q p n vc c1 R st.h 0 [] c used) ?_ ?_
  · refine W_loop (fun m st => ∃ (r left : Nat) (c : Cl) (used : Nat), m = 2 - r ∧ r ≤ 2 ∧ st.t.get 9 = some (.int .i64 (N : Nat)) ∧ st.t.get 10 = some (.ptr b 0) ∧ st.t.get 12 = some (.int .i64 (M : Nat)) ∧ st.t.get 13 = some (.int .i64 (r : Nat)) ∧
      (r = 0 ∨ left = 0) ∧ St0 b Q p n vc c1 R st.h left [] c used) 2 (by omega)
      ⟨0, p, c, 0, by omega, by omega, by simp, by simp, by simp, by simp, .inl rfl, S1⟩ ?_
    rintro m ⟨t, h2⟩ ⟨r, left, c, used, rfl, hr, q9, q10, q12, q13, hl0, S⟩
    simp only at q9 q10 q12 q13 S
    by_cases hlt : r < 2
    · simp [q9, q10, q12, q13, isLt (show (r : Int) < 2 by omega)]
      refine W_cutLoop 2 (fun st => ∃ (y : AV) (ks : List Nat) (left : Nat) (c : Cl) (used : Nat), st.t.get 9 = some (.int .i64 (N : Nat)) ∧ st.t.get 10 = some (.ptr b 0) ∧ st.t.get 12 = some (.int .i64 (M : Nat)) ∧ st.t.get 13 = some (.int .i64 (r : Nat)) ∧ st.t.get 14 = some y ∧ ks.length = M ∧
        St0 b Q p n vc c1 R st.h left ks c used ∧ Mine 2 M st.h y (cat hC ks) ∧ (∀ d, Has y d → d ∉ fpS b ⟨Q, left, used, c :: c1 :: R⟩ vc)) ?_ ?_
      · refine W_loop (fun m st => ∃ (i : Nat) (y : AV) (ks : List Nat) (left : Nat) (c : Cl) (used : Nat), m = M - i ∧ i ≤ M ∧ st.t.get 9 = some (.int .i64 (N : Nat)) ∧ st.t.get 10 = some (.ptr b 0) ∧ st.t.get 12 = some (.int .i64 (M : Nat)) ∧ st.t.get 13 = some (.int .i64 (r : Nat)) ∧ st.t.get 14 = some y ∧ st.t.get 15 = some (.int .i64 (i : Nat)) ∧ ks.length = i ∧
          St0 b Q p n vc c1 R st.h left ks c used ∧ Mine 2 i st.h y (cat hC ks) ∧ (∀ d, Has y d → d ∉ fpS b ⟨Q, left, used, c :: c1 :: R⟩ vc)) M (by omega)
          ⟨0, .nils, [], left, c, used, by omega, by omega, by simp [q9], by simp [q10], by simp [q12], by simp [q13], by simp, by simp, rfl, S, Mine.nil _ _, fun d hd => by cases hd⟩ ?_
        rintro m ⟨t, h3⟩ ⟨i, y, ks, left, c, used, rfl, hi, q9, q10, q12, q13, q14, q15, hks, S, Y, ap⟩
        simp only at q9 q10 q12 q13 q14 q15 S Y
        by_cases hlt2 : i < M
        · have zc := zeros_conv h3 N
          have k4 : Keep h3.next nob h3 (h3.new (.cells (List.replicate N (.int .u8 0)) false)) := Keep.new (Nat.le_refl _) _
          obtain ⟨h4, e4⟩ : ∃ h4, h3.new (.cells (List.replicate N (.int .u8 0)) false) = h4 := ⟨_, rfl⟩
          rw [e4] at zc k4
          have S4 := S.ext k4
          have Y4 := Y.ext k4
          obtain ⟨h5, left5, cc, used5, K, E5, S5, fp5, K5⟩ := S4.alloc (k + 8) (by omega) hR (by omega) hp2.2 hn (by rw [← hM]; omega) (zeros N) (by rw [zeros_size]; exact hN2)
          have Y5 := Y4.keep K5 fun d hd => ap d hd
          have k6 : Keep h5.next nob h5 (h5.new (.cells (hC K) false)) := Keep.new (Nat.le_refl _) _
          have al6 : alay (h5.new (.cells [.int .i64 0, .int .i64 0] false)) h5.next 0 (hC K) = some (h5.new (.cells (hC K) false)) := alay_new rfl
          have g6 : (h5.new (.cells (hC K) false)).get h5.next = some (.cells (hC K) false) := get_new_self _ _
          obtain ⟨h6, e6⟩ : ∃ h6, h5.new (.cells (hC K) false) = h6 := ⟨_, rfl⟩
          rw [e6] at k6 al6 g6
          have l6 : aload Try.prog h6 34 h5.next 0 = some (.agg (hC K)) := by simp [aload, Heap.row, g6, ta34, ts34, hC]
          have S6 := S5.ext k6
          have Y6 := Y5.ext k6
          obtain ⟨y7, h7, E7, Y7, Fr7, K7⟩ := Y6.push (P := Try.prog) el46 (a := hC K) (ex := true) rfl rfl (by omega)
          have h56 := k6.1
          have h45 := K5.1
          have apy : ∀ d, Has y d → d ∉ fpS b ⟨Q, left5, used5, cc :: c1 :: R⟩ vc := fun d hd q => by
            rcases fp5 d q with z | z
            · exact ap d hd z
            · have := Y4.lt hd; omega
          have S7 : St0 b Q p n vc c1 R h7 left5 (ks ++ [K]) cc used5 := ⟨S6.o.keep K7 fun d hd q => apy d q hd, S6.size, S6.live, S6.fl, S6.us⟩
          have ap7 : ∀ d, Has y7 d → d ∉ fpS b ⟨Q, left5, used5, cc :: c1 :: R⟩ vc := fun d hd q => by
            rcases Fr7 d hd with z | z
            · exact apy d z q
            · have := S5.o.fp_lt q; omega
          have rwH : (AV.agg (hC K)).row1 = some (hC K) := rfl
          have hcl := hC_len K
          have Y8 : Mine 2 (i + 1) h7 y7 (cat hC (ks ++ [K])) := by rw [cat_append, cat_one]; exact Y7
          have one : (hC K).all AV.one = true := rfl
          have mk := fun {t : Tr AV} {d : Option Tmp} {ty : TypeId} {pos : String} {af : Array Edge} {g : Option (Nat × Bool)} {x y : Operand} (hx : ev t x = .int .i64 (N : Nat)) (hy : ev t y = .int .i64 (N : Nat)) => aalloc_make (P := Try.prog) el30 (z := [.int .u8 0]) az5 rfl rfl N N (Nat.le_refl _) (by omega) (t := t) (d := d) (ty := ty) (pos := pos) (af := af) (g := g) hx hy
          rw [flat1] at mk
          obtain ⟨Z, hZ⟩ : ∃ Z, List.replicate N (AV.int .u8 0) = Z := ⟨_, rfl⟩
          rw [hZ] at mk e4
          simp [q9, q10, q12, q13, q14, q15, isLt (show (i : Int) < (M : Int) by omega), mk, e4, zc, E5]
          simp [q9, q10, q12, q13, q14, q15, al6, rwH, hcl, l6, aalloc, afill, one, E7, i64w ((i : Int) + 1) (by omega) (by omega)]
          exact ⟨M - (i + 1), by omega, i + 1, rfl, by omega, rfl, ks ++ [K], by simp [hks], left5, cc, used5, S7, Y8, ap7⟩
        · have : i = M := by omega
          subst this
          simp [q9, q10, q12, q13, q14, q15]
          exact ⟨ks, hks, left, c, used, S, Y, ap⟩
      rintro ⟨t, h3⟩ ⟨y, ks, left, c, used, q9, q10, q12, q13, q14, hks, S, Y, ap⟩
      simp only at q9 q10 q12 q13 q14 S Y
      obtain ⟨ff, fl0⟩ := S.fl.full hn1.1 (by rw [hks, hM])
      subst fl0
      have hsz := S.size
      have hc0 : clsE ((ByteArray.empty).size : Nat) (c :: c1 :: R) = some 0 := by
        simp only [clsE]
        rw [if_pos (by rw [hsz]; decide)]
      obtain ⟨_, h4, E4, rfl, k4⟩ := alloc_full (k + 8) h3 b _ vc (by omega) S.o (by simp; omega) .empty (by decide) hc0 (i := 0) (c := c) rfl ff rfl
      have S4 := S.ext k4
      have Y4 := Y.ext k4
      have k5 : Keep h4.next nob h4 (h4.new (.cells [.int .i64 0, .int .i64 0] false)) := Keep.new (Nat.le_refl _) _
      obtain ⟨h5, e5⟩ : ∃ h5, h4.new (.cells [.int .i64 0, .int .i64 0] false) = h5 := ⟨_, rfl⟩
      have al5 : alay h5 h4.next 0 [.int .i64 0, .int .i64 0] = some h5 := by rw [← e5]; exact alay_new rfl
      rw [e5] at k5
      have S5 := S4.ext k5
      have Y5 := Y4.ext k5
      have rwH : (AV.agg [.int .i64 0, .int .i64 0]).row1 = some [.int .i64 0, .int .i64 0] := rfl
      have E4 : acall Try.prog (k + 10) 13 [.ptr b 0, .str ⟨⟨[]⟩⟩] h3 = _ := E4
      simp [q9, q10, q12, q13, q14, E4, e5, rwH, al5]
      refine W_cutLoop 4 (fun st => st.t.get 9 = some (.int .i64 (N : Nat)) ∧ st.t.get 10 = some (.ptr b 0) ∧ st.t.get 12 = some (.int .i64 (M : Nat)) ∧ st.t.get 13 = some (.int .i64 (r : Nat)) ∧ ∃ c used, St0 b Q p n vc c1 R st.h 0 [] c used) ?_ ?_
      · refine W_loop (fun m st => ∃ (j : Nat) (c : Cl) (used : Nat), m = M - j ∧ j ≤ M ∧ st.t.get 9 = some (.int .i64 (N : Nat)) ∧ st.t.get 10 = some (.ptr b 0) ∧ st.t.get 12 = some (.int .i64 (M : Nat)) ∧ st.t.get 13 = some (.int .i64 (r : Nat)) ∧ st.t.get 14 = some y ∧ st.t.get 20 = some (.int .i64 (j : Nat)) ∧
          St0 b Q p n vc c1 R st.h 0 (ks.drop j) c used ∧ Mine 2 M st.h y (cat hC ks) ∧ (∀ d, Has y d → d ∉ fpS b ⟨Q, 0, used, c :: c1 :: R⟩ vc)) M (by omega)
          ⟨0, c, used, by omega, by omega, by simp [q9], by simp [q10], by simp [q12], by simp [q13], by simp [q14], by simp, S5, Y5, ap⟩ ?_
        rintro m ⟨t, h6⟩ ⟨j, c, used, rfl, hj, q9, q10, q12, q13, q14, q20, S, Y, ap⟩
        simp only at q9 q10 q12 q13 q14 q20 S Y
        by_cases hlt3 : j < M
        · obtain ⟨K, hK⟩ : ∃ K, ks[j]? = some K := ⟨ks[j]'(by omega), by simp⟩
          have hd : ks.drop j = K :: ks.drop (j + 1) := by
            obtain ⟨z1, z2⟩ := List.getElem?_eq_some_iff.1 hK
            rw [List.drop_eq_getElem_cons z1, z2]
          rw [hd] at S
          have ix := Y.sl.idx (P := Try.prog) Try.underlying46 ts34 (j := j) hlt3 .i64
          have ld := Y.sl.lds (P := Try.prog) ta34 ts34 (j := j * 2) (by rw [cat_len hC_len]; omega) (by omega)
          rw [cat_at hC_len hK] at ld
          obtain ⟨h7, c7, E7, S7, fp7, K7⟩ := S.free (k + 8) (by omega) hR (by omega)
          have Y7 := Y.keep K7 fun d hd => ap d hd
          have ap7 : ∀ d, Has y d → d ∉ fpS b ⟨Q, 0, used, c7 :: c1 :: R⟩ vc := fun d hd q => by
            rcases fp7 d q with z | z
            · exact ap d hd z
            · have := Y.lt hd; omega
          simp [q9, q10, q12, q13, q14, q20, Y.sl.len', isLt (show (j : Int) < (M : Int) by omega), ix, ld, E7, i64w ((j : Int) + 1) (by omega) (by omega)]
          exact ⟨M - (j + 1), by omega, j + 1, rfl, by omega, rfl, c7, used, S7, Y7, ap7⟩
        · have : j = M := by omega
          subst this
          rw [List.drop_of_length_le (by omega)] at S
          simp [q9, q10, q12, q13, q14, q20, Y.sl.len']
          exact ⟨c, used, S⟩
      rintro ⟨t, h6⟩ ⟨q9, q10, q12, q13, c, used, S⟩
      simp only at q9 q10 q12 q13 S
      simp [q9, q10, q12, q13, i64w ((r : Int) + 1) (by omega) (by omega)]
      exact ⟨2 - (r + 1), by omega, r + 1, by omega, by omega, rfl, .inr ⟨c, used, S⟩⟩
    · have : r = 2 := by omega
      subst this
      have : left = 0 := by omega
      subst this
      simp [q9, q10, q12, q13]
      exact ⟨c, used, S⟩
  rintro ⟨t, h2⟩ ⟨q10, c, used, S⟩
  simp only at q10 S
  have zc := zeros_conv h2 65
  obtain ⟨h3, e3⟩ : ∃ h3, h2.new (.cells (List.replicate 65 (.int .u8 0)) false) = h3 := ⟨_, rfl⟩
  have k3 : Keep h2.next nob h2 h3 := by rw [← e3]; exact Keep.new (Nat.le_refl _) _
  rw [e3] at zc
  have S3 := S.ext k3
  have hsz := S.size
  have hc65 : clsE ((zeros 65).size : Nat) (c :: c1 :: R) = some 1 := by
    rw [zeros_size]
    simp only [clsE]
    rw [if_neg (by rw [hsz]; omega), if_pos (by rw [r1]; omega)]
    rfl
  obtain ⟨_, h4, E4, rfl, k4⟩ := alloc_full (k + 8) h3 b _ vc (by omega) S3.o (by simp; omega) (zeros 65) (by rw [zeros_size]; decide) hc65 (i := 1) (c := c1) rfl r2 rfl
  have S4 := S3.ext k4
  have k5 : Keep h4.next nob h4 (h4.new (.cells [.int .i64 0, .int .i64 0] false)) := Keep.new (Nat.le_refl _) _
  obtain ⟨h5, e5⟩ : ∃ h5, h4.new (.cells [.int .i64 0, .int .i64 0] false) = h5 := ⟨_, rfl⟩
  have al5 : alay h5 h4.next 0 [.int .i64 0, .int .i64 0] = some h5 := by rw [← e5]; exact alay_new rfl
  rw [e5] at k5
  have S5 := S4.ext k5
  have lv : liveN (c :: c1 :: R) = 0 := by
    have : c.live = [] := List.map_eq_nil_iff.1 S.live
    unfold liveN at *
    simp [this] at lv0 ⊢
    exact lv0
  obtain ⟨_, h6, E6, rfl, k6⟩ := live_ok (k + 9) h5 b _ vc (by omega) S5.o (by simp; omega) (by simp only [lv]; omega)
  simp only [lv] at E6
  have rwH : (AV.agg [.int .i64 0, .int .i64 0]).row1 = some [.int .i64 0, .int .i64 0] := rfl
  have mk := fun {t : Tr AV} {d : Option Tmp} {ty : TypeId} {pos : String} {af : Array Edge} {g : Option (Nat × Bool)} => aalloc_makeC (P := Try.prog) el30 (z := [.int .u8 0]) az5 rfl rfl 65 65 (Nat.le_refl _) (by omega) (N := 65) (M := 65) rfl rfl (t := t) (d := d) (ty := ty) (pos := pos) (af := af) (g := g)
  rw [flat1] at mk
  obtain ⟨Z, hZ⟩ : ∃ Z, List.replicate 65 (AV.int .u8 0) = Z := ⟨_, rfl⟩
  rw [hZ] at mk e3
  simp [q10, mk, e3, zc, E4, e5, rwH, al5, E6]


theorem own : ownKnob Try.prog.godebug = none := by kernel_rfl
theorem laid : laidOutB Try.prog = true := by kernel_rfl

set_option maxRecDepth 100000 in
theorem lifted (os : Os) (started : os.Started) (H : Type) (enc : TypeId × Value → H) :
    ReturnsInHanded {} Try.checked os 7 .any (Rows.slabFillsSpec.pre6 enc Try.prog Try.f7 Rows.slabFillsRow.domain false) (Rows.slabFillsSpec.post enc Try.prog Try.f7 false true false false) := by
  refine returnsInHanded_of_change (C := Try.checked) own started (by kernel_rfl) Try.func7
    (ChangeSpec.witness6 (enc := enc) (C := Try.checked) false ⟨#[], #[.int .i64 0, .int .i64 0, .int .i64 0], []⟩ 8 (by kernel_rfl) (by kernel_rfl) (by kernel_rfl) (by kernel_rfl)) ?_
  intro W base args ds gs before hval0 hW hcnd _
  have hval : ∀ (j : Nat) t v, Try.f7.params.toList[j]? = some t → args.toList[j]? = some v → Value.okWide Try.prog W .any base t v := fun j t v h1 h2 => hval0 j t v (by simpa using h1) (by simpa using h2)
  have hW' := hW
  obtain ⟨p, q, hA0, hV, rfl, hfz, hnd⟩ := hW
  have hA : DataW.TrodAll enc Try.prog W 0 (fun _ => true) true Try.f7.params.toList args.toList ds p := hA0
  obtain ⟨rfl, rfl⟩ := trodVars_none hV
  have hlt : ∀ x ∈ p, x.block < W.heap.size := fun x hx => hW'.lt x (by simp [hx])
  have hps : Try.f7.params.toList = [3, 3, 3] := by rw [Try.params7]
  rw [hps] at hA hval
  obtain ⟨m, h, avs, x, g1, _, _, g2, g3, g4⟩ := (good_as1 (good_int Try.underlying3 (by kernel_rfl)) rfl (by kernel_rfl) (good_as1 (good_int Try.underlying3 (by kernel_rfl)) rfl (by kernel_rfl) (good_as1 (good_int Try.underlying3 (by kernel_rfl)) rfl (by kernel_rfl) good_as0))) H enc W base args.toList ds p hval hA _ _ (HRo.start W)
  obtain ⟨a0, a1, a2, _⟩ := x
  obtain ⟨_, _, rfl, ⟨e0, w0⟩, ⟨_, _, rfl, ⟨e1, w1⟩, ⟨_, _, rfl, ⟨e2, w2⟩, rfl⟩⟩⟩ := g3
  obtain rfl := (List.cons.inj e0).1
  obtain rfl := (List.cons.inj e1).1
  obtain rfl := (List.cons.inj e2).1
  have hcall := law_any mixed (k := 100000 + 10) Try.func7 (by kernel_rfl) runs_ok g1 g2 (law_run 100000 (by decide) h a0 w0 a1 w1 a2 w2)
  refine hcall.mono fun e W' ⟨he, hg⟩ => ?_
  subst he
  simp only [List.append_nil] at hW' hA0 ⊢
  have hlen : ds.length = 3 := trodAll_len hA
  have hvars : (Rows.slabFillsSpec.fn H (ds ++ [])).vars = [] ∧ (Rows.slabFillsSpec.fn H (ds ++ [])).args = ds ∧ (Rows.slabFillsSpec.fn H (ds ++ [])).results = [.lit (.bool true)] := by
    rw [List.append_nil]
    match ds, hlen with
    | [d0, d1, d2], _ => exact ⟨rfl, rfl, rfl⟩
  obtain ⟨hv1, hv2, hv3⟩ := hvars
  refine ⟨_, rfl, law_post hW' rfl hg (fun _ _ _ => ?_) (fun sp hsp => ?_) hv1
    (ok_one (by kernel_rfl) rfl (okWide_bool_mk Try.underlying4 _))⟩
  · rw [hv3]
    exact (trodAll_cons_mk (shut_bool Try.underlying4 _) trodAll_mk0)
  · have hA1 := trodAll_below laid hg sp (ts := [3, 3, 3]) (by decide +kernel) hlt hsp hA
    rw [hv2, hps]
    exact hA1

theorem over : Rows.slabFillsRow.holds Try.pinned (OpenSpec.ofChange Rows.slabFillsSpec) :=
  OpenClaim.holds_of_wide 7 Try.f7 rfl rfl rfl rfl rfl rfl rfl ⟨rfl, rfl, rfl, rfl, rfl⟩ rfl rfl rfl rfl rfl (by kernel_rfl) Try.func7 (by kernel_rfl)
    (of_decide_eq_true (by kernel_rfl)) (by unfold Func.isWrapper; first | (rw [if_pos (by decide +kernel)]; kernel_rfl) | (rw [if_neg (by decide +kernel)]; exact ⟨rfl, rfl⟩))
    (fun os started H enc _ => lifted os started H enc)

/-- The statement. -/
theorem proved : Rows.SlabFillsSaid :=
  over
#print axioms proved
end Go.Proofs.Ytmoigchjmmjljaa.cSlabFills
