/- chain.Chain: step. -/
import Derived.Test.YtdnjhipgfbhecaaChainB
namespace Go.Proofs.Ytdnjhipgfbhecaa
open Go Go.YtdnjhipgfbhecaaAbs
set_option linter.unusedSimpArgs false
set_option linter.unusedVariables false
set_option maxRecDepth 4000

def move1 (now : List (List Ent)) (e : Ent) : List (List Ent) := now.set (hsh e.1 % now.length) ((now[hsh e.1 % now.length]?).getD [] ++ [e])
def Ch.step (c : Ch) : Ch := if c.old.length = 0 then c else
  if c.moved + 1 = c.old.length then ⟨((c.old[c.moved]?).getD []).foldl move1 c.now, [], 0, c.len⟩ else ⟨((c.old[c.moved]?).getD []).foldl move1 c.now, c.old.set c.moved [], c.moved + 1, c.len⟩
theorem move1_len (now : List (List Ent)) (e : Ent) : (move1 now e).length = now.length := by unfold move1; rw [List.length_set]
theorem moves_len : ∀ (l : List Ent) (now : List (List Ent)), (l.foldl move1 now).length = now.length
  | [], now => rfl
  | e :: l, now => by rw [List.foldl_cons, moves_len l, move1_len]
theorem move1_small {N : Nat} {now : List (List Ent)} (e : Ent) (h : ∀ L, L ∈ now → L.length ≤ N) : ∀ L, L ∈ move1 now e → L.length ≤ N + 1 := by
  intro L hL
  unfold move1 at hL
  rcases List.mem_or_eq_of_mem_set hL with q | rfl
  · have := h L q; omega
  · rw [List.length_append, List.length_singleton]
    cases hq : now[hsh e.1 % now.length]? with
    | none => simp
    | some M =>
      have := h M (List.mem_of_getElem? hq)
      simp
      omega
theorem moves_small : ∀ (l : List Ent) {N : Nat} {now : List (List Ent)}, (∀ L, L ∈ now → L.length ≤ N) → ∀ L, L ∈ l.foldl move1 now → L.length ≤ N + l.length
  | [], N, now, h, L, hL => h L hL
  | e :: l, N, now, h, L, hL => by
    have := moves_small l (move1_small e h) L hL
    rw [List.length_cons]
    omega
/-- What is asked of a table. -/
structure ChOk (c : Ch) : Prop where
  n0 : 0 < c.now.length
  n1 : c.now.length ≤ 10000
  o1 : c.old.length ≤ 10000
  mv : c.old.length ≠ 0 → c.moved < c.old.length
  m1 : c.moved ≤ 10000
  small : ∀ L, L ∈ c.now ++ c.old → L.length ≤ 100000
  keys : ∀ L, L ∈ c.now ++ c.old → ∀ e : Ent, e ∈ L → e.1.size ≤ 1000
  len : c.len ≤ 100000

theorem step_ok (k : Nat) (hk : 200000 < k) (h : Heap) (b : Nat) (c : Ch) (vn vo : AV) (rn ro : List AV) (O : ChO h b c vn vo rn ro) (C : ChOk c) :
    ∃ v' h', acall Try.prog (k + 2) 25 [.ptr b 0] h = some (v', h') ∧ (∃ vn' vo' rn' ro', ChO h' b c.step vn' vo' rn' ro' ∧ ∀ d, d ∈ fpC b vn' vo' rn' ro' → d ∈ fpC b vn vo rn ro ∨ h.next ≤ d) ∧ Keep h.next (fun d => d ∈ fpC b vn vo rn ro) h h' := by
  rw [acall_text [7, 8] Try.func25 (by kernel_rfl)]
  refine afuncT_ex rfl (by simp [Try.f25]) ?_
  unfold Ch.step
  by_cases c0 : c.old.length = 0
  · rw [if_pos c0]
    simp [Try.f25, O.ld1, O.lenO, c0]
    exact ⟨⟨vn, vo, rn, ro, O, fun d hd => .inl hd⟩, Keep.refl _ _ _⟩
  · rw [if_neg c0]
    have hm := C.mv c0
    have hm1 := C.m1
    obtain ⟨l, hl⟩ : ∃ l, c.old[c.moved]? = some l := ⟨c.old[c.moved], by simp [hm]⟩
    have hll : l.length ≤ 100000 := C.small l (List.mem_append.2 (.inr (List.mem_of_getElem? hl)))
    have hlk : ∀ e : Ent, e ∈ l → e.1.size ≤ 1000 := C.keys l (List.mem_append.2 (.inr (List.mem_of_getElem? hl)))
    rw [hl, Option.getD_some]
    obtain ⟨r, hr, Mr⟩ := O.old.row hl
    have hr' : (pick2 true ro rn)[c.moved]? = some r := hr
    have ix := O.idxO (P := Try.prog) Try.underlying54 ts60 hm .i64
    have ldr := O.old.own.sl.ld (P := Try.prog) ta60 hr
    have hrj : c.moved < ro.length := by rw [O.old.len]; exact hm
    -- the moved bucket goes
    obtain ⟨h2, rn2, ro2, a1, O2, f2, k2, k2'⟩ := O.upd true hr' (Keep.refl _ _ _) (Mine.nil 2 h) (r' := .nils) (L' := []) (fun c hc => by cases hc)
    have a1 : alay h vo.blk (vo.off + c.moved) [.nils] = some h2 := a1
    have O2 : ChO h2 b ⟨c.now, c.old.set c.moved [], c.moved, c.len⟩ vn vo rn2 ro2 := O2
    obtain ⟨h3, a3, O3, k3, n3⟩ := O2.put2 (c.moved + 1)
    have a3 : alay h2 b 2 [.int .i64 ((c.moved : Int) + 1)] = some h3 := a3
    have O3 : ChO h3 b ⟨c.now, c.old.set c.moved [], c.moved + 1, c.len⟩ vn vo rn2 ro2 := O3
    obtain ⟨x1, x2⟩ := O.rest true hr'
    -- its entries stay
    have rfp2 : ∀ d, Has r d → d ∉ fpC b vn vo rn2 ro2 := fun d hd q => by
      rcases f2 d q with z | z
      · have := z.2 hd; cases this
      · have := O.fp_lt (ChO.inFp true hr' hd); omega
    have fp2 : ∀ d, d ∈ fpC b vn vo rn2 ro2 → d ∈ fpC b vn vo rn ro ∨ h.next ≤ d := fun d hd => (f2 d hd).imp (fun q => q.1) id
    have k3' : Keep h.next (fun d => d ∈ fpC b vn vo rn ro) h h3 := k2.trans (k3.weak k2.1 fun d _ q => by
      have q : d = b := q
      rw [q]; exact ChO.atB rn ro vn vo)
    have M2 : Mine 2 l.length h2 r (cat ec l) := Mr.keep k2' fun d hd q => (O.rest true hr').2 d q |>.2 |> fun z => by
      have := O.apart.get (i := 2) (j := rn.length + c.moved + 3) (v := vo) (w := r) rfl (by simp only [List.getElem?_cons_succ]; rw [List.getElem?_append_right (by omega), Nat.add_sub_cancel_left]; exact hr) q hd
      omega
    have M3 : Mine 2 l.length h3 r (cat ec l) := M2.keep k3 fun d hd q => (x1 d hd).1 q
    have S3 := M3.sl
    have hpos3 : h.next ≤ h3.next := k3'.1
    -- the loop
    have mvd : ∀ i, (l.take (i + 1)).foldl move1 c.now = match l[i]? with | some e => move1 ((l.take i).foldl move1 c.now) e | none => (l.take i).foldl move1 c.now := fun i => by
      rw [List.take_add_one]
      cases l[i]? with
      | none => simp
      | some e => simp
    simp [Try.f25, O.ld1, O.lenO, c0, O.ld2, ix, ldr, a1, O2.ld2, i64s (n := (c.moved : Int) + 1) (by omega) (by omega), a3, Mr.sl.len']
    refine W_cutLoop 0 (fun st => st.t.get 0 = some (.ptr b 0) ∧ ∃ rn' ro', ChO st.h b ⟨l.foldl move1 c.now, c.old.set c.moved [], c.moved + 1, c.len⟩ vn vo rn' ro' ∧ (∀ d, d ∈ fpC b vn vo rn' ro' → d ∈ fpC b vn vo rn ro ∨ h.next ≤ d) ∧ Keep h.next (fun d => d ∈ fpC b vn vo rn ro) h st.h) ?_ ?_
    · refine W_loop (fun m st => ∃ (i : Nat) (rn' ro' : List AV), m = l.length - i ∧ i ≤ l.length ∧ st.t.get 0 = some (.ptr b 0) ∧ st.t.get 38 = some r ∧ st.t.get 39 = some (.int .i64 (l.length : Nat)) ∧ st.t.get 40 = some (.int .i64 (i : Nat)) ∧
        ChO st.h b ⟨(l.take i).foldl move1 c.now, c.old.set c.moved [], c.moved + 1, c.len⟩ vn vo rn' ro' ∧ (∀ d, d ∈ fpC b vn vo rn' ro' → d ∈ fpC b vn vo rn ro ∨ h.next ≤ d) ∧ Keep h.next (fun d => d ∈ fpC b vn vo rn ro) h st.h ∧ Mine 2 l.length st.h r (cat ec l) ∧ (∀ d, Has r d → d ∉ fpC b vn vo rn' ro')) l.length (by omega)
        ⟨0, rn2, ro2, by simp, by omega, rfl, rfl, rfl, rfl, O3, fp2, k3', M3, rfp2⟩ ?_
      rintro m ⟨t, h4⟩ ⟨i, rn4, ro4, rfl, hi, q0, q38, q39, q40, O4, f4, K4, M4, r4⟩
      simp only at q0 q38 q39 q40 O4 K4 M4
      have S4 := M4.sl
      by_cases hlt : i < l.length
      · obtain ⟨e, he⟩ : ∃ e, l[i]? = some e := ⟨l[i], by simp [hlt]⟩
        have hes := hlk e (List.mem_of_getElem? he)
        have mve := mvd i
        rw [he] at mve
        simp only at mve
        have hnl : ((l.take i).foldl move1 c.now).length = c.now.length := moves_len _ _
        have hsm := moves_small (l.take i) (N := 100000) (now := c.now) (fun L hL => C.small L (List.mem_append.2 (.inl hL)))
        have n0 := C.n0
        have n1 := C.n1
        generalize (l.take i).foldl move1 c.now = nw at *
        have ix := S4.idx (P := Try.prog) Try.underlying60 ts62 (j := i) hlt .i64
        have ld := S4.lds (P := Try.prog) ta62 ts62 (j := i * 2) (by rw [cat_len ec_len]; omega) (by omega)
        rw [cat_at ec_len he] at ld
        have al : alay (h4.new (.cells [.str .empty, .int .i64 0] false)) h4.next 0 (ec e) = some (h4.new (.cells (ec e) false)) := alay_new rfl
        have g : (h4.new (.cells (ec e) false)).get h4.next = some (.cells (ec e) false) := get_new_self _ _
        have k45 : Keep h4.next nob h4 (h4.new (.cells (ec e) false)) := Keep.new (Nat.le_refl _) _
        have n45 : h4.next < (h4.new (.cells (ec e) false)).next := Nat.lt_succ_self _
        have rw1 : (AV.agg (ec e)).row1 = some (ec e) := rfl
        have le1 : (ec e).length = 2 := rfl
        have ldS : aload Try.prog (h4.new (.cells (ec e) false)) 62 h4.next 0 = some (.agg (ec e)) := by simp [aload, Heap.row, g, ec]
        generalize h4.new (.cells (ec e) false) = h5 at al g k45 n45 ldS
        have O5 := O4.ext k45
        have l0 := ldc (P := Try.prog) (ty := 9) g ta9 (i := 0) (x := .str e.1) rfl
        obtain ⟨j, hj⟩ : ∃ j, j = hsh e.1 % nw.length := ⟨_, rfl⟩
        have hjn : j < nw.length := by rw [hj]; exact Nat.mod_lt _ (by omega)
        obtain ⟨L, hL⟩ : ∃ L, nw[j]? = some L := ⟨nw[j], by simp [hjn]⟩
        have hLl := hsm L (List.mem_of_getElem? hL)
        rw [List.length_take] at hLl
        obtain ⟨u, u', h6, h7, rn6, ro6, b1, b2, b3, b3', b4, b5, b6, b7⟩ := O5.app false hL (by omega) e el60
        simp [q0, q38, q39, q40, isLt (show (i : Int) < (l.length : Int) by omega), ix, ld, rw1, le1, al]
        have hh := hash_ok k e.1 (by omega) (by omega) h5
        have cv := hash_cv e.1
        have hlt32 := hsh_lt e.1
        have tm := tmodN (hsh e.1) nw.length
        rw [← hj] at tm
        have ne : ¬ nw.length = 0 := by omega
        have wj := i64s (n := (j : Int)) (by omega) (by omega)
        have ixN := O5.idxN (P := Try.prog) Try.underlying54 ts60 (j := j) hjn .i64
        have blt := O5.lt
        have smN := O5.now.own.sl.same
        have ag : Agree h5.next h5 h5 := fun _ _ => rfl
        refine W_drawn h5.next (by rfl) (by kernel_rfl) ?_
        simp [obl, mayEff, mayRead, sameAV, q0, q38, q39, q40, O5.ld0, O5.lenN, blt, smN, l0, n45, hh, ag, cv, tm, ne, wj, ixN, isMap]
        have b1 : rn4[j]? = some u := b1
        have b4 : alay h6 vn.blk (vn.off + j) [u'] = some h7 := b4
        have ldu := O5.now.own.sl.ld (P := Try.prog) ta60 b1
        have vlt := O5.now.own.sl.blk_lt (by have := O5.now.len; simp only at this; omega)
        have smu := b2.same
        have sme : sameAVs (ec e) (ec e) = true := by simp [sameAVs, sameAV, ec]
        have rwu := row1_one b3'
        have oneE : ∀ x : AV, x ∈ ec e → x.one = true := fun x hx => by
          simp only [ec, List.mem_cons, List.not_mem_nil, or_false] at hx
          rcases hx with rfl | rfl <;> rfl
        have ag2 : Agree h5.next h5 (h5.new (.cells (ec e) false)) := fun c hc => get_new_old hc
        refine W_split 6 h5.next (by rfl) (by kernel_rfl) (by rfl) ?_
        dsimp only [List.take, List.drop]
        simp [obl, mayEff, mayRead, sameAV, q0, q38, q39, q40, ldu, vlt, smu, ldS, n45, sme, aalloc, afill, rw1, le1, ag2, isMap]
        rw [if_pos oneE]
        simp [obl, mayEff, mayRead, ag2, b3, b4, rwu, q0, q38, q39, q40, i64s (n := (i : Int) + 1) (by omega) (by omega)]
        have nb := k45.1
        have n7 : h5.next ≤ h7.next := b7.1
        have cs : Ch.setRow ⟨nw, c.old.set c.moved [], c.moved + 1, c.len⟩ (false, j) (L ++ [e]) = ⟨(l.take (i + 1)).foldl move1 c.now, c.old.set c.moved [], c.moved + 1, c.len⟩ := by
          rw [mve]
          unfold move1
          rw [← hj, hL]
          rfl
        rw [cs] at b5
        refine ⟨l.length - (i + 1), by omega, i + 1, rfl, by omega, by omega, rn6, ro6, b5, fun d hd => ?_, ?_, ?_, fun d hd q => ?_⟩
        · rcases b6 d hd with z | z
          · exact f4 d z
          · have := K4.1; exact .inr (by omega)
        · refine K4.trans ⟨Nat.le_trans nb n7, fun d hd hn => ?_⟩
          have hd4 : d < h4.next := Nat.lt_of_lt_of_le hd K4.1
          rw [b7.2 d (by omega) (fun z => (f4 d z).elim hn (by omega)), k45.2 d hd4 id]
        · exact (M4.ext k45).keep b7 r4
        · rcases b6 d q with z | z
          · exact r4 d hd z
          · have := M4.lt hd; omega
      · obtain rfl : i = l.length := by omega
        rw [List.take_length] at O4
        simp [q0, q38, q39, q40]
        exact ⟨rn4, ro4, O4, f4, K4⟩
    · rintro ⟨t, h4⟩ ⟨q0, rn4, ro4, O4, f4, K4⟩
      simp only at q0 O4 K4
      have hol : (c.old.set c.moved []).length = c.old.length := by rw [List.length_set]
      have lO := O4.lenO
      simp only [hol] at lO
      have l2 := O4.ld2 (ty := 3) ta3
      simp only at l2
      by_cases hlast : c.moved + 1 = c.old.length
      · rw [if_pos hlast]
        have A' : Apart (.ptr b 0 :: vn :: .nils :: (rn4 ++ [])) := by
          have : Apart (.ptr b 0 :: vn :: rn4) := O4.apart.sub (.cons_cons _ (.cons_cons _ (.cons _ (List.sublist_append_left _ _))))
          unfold Apart at this ⊢
          have e : blks (.ptr b 0 :: vn :: .nils :: (rn4 ++ [])) = blks (.ptr b 0 :: vn :: rn4) := by
            rw [blks_cons, blks_cons, blks_cons, List.append_nil, blks_cons (.ptr b 0), blks_cons vn]
            rfl
          rw [e]
          exact this
        have aa : alay h4 b 1 [.nils] = some (h4.set b (.cells [vn, .nils, .int .i64 ((c.moved + 1 : Nat) : Int), .int .i64 (c.len : Nat)] false)) := by unfold alay; rw [O4.str]; rfl
        obtain ⟨w1, _⟩ := O4.setStr (.cells [vn, .nils, .int .i64 0, .int .i64 (c.len : Nat)] false)
        have bb : alay (h4.set b (.cells [vn, .nils, .int .i64 ((c.moved + 1 : Nat) : Int), .int .i64 (c.len : Nat)] false)) b 2 [.int .i64 0] = some (h4.set b (.cells [vn, .nils, .int .i64 0, .int .i64 (c.len : Nat)] false)) := by
          unfold alay; rw [get_set_self]; simp [layAt_cons, layAt_zero, layOver_cons, layOver_nil]
        have KK : Keep h4.next (fun d => d = b) h4 (h4.set b (.cells [vn, .nils, .int .i64 0, .int .i64 (c.len : Nat)] false)) := Keep.set (F := fun d => d = b) (.inl rfl) _
        have gg : (h4.set b (.cells [vn, .nils, .int .i64 0, .int .i64 (c.len : Nat)] false)).get b = some (.cells [vn, .nils, .int .i64 0, .int .i64 (c.len : Nat)] false) := get_set_self _ _ _
        have nn : b < (h4.set b (.cells [vn, .nils, .int .i64 0, .int .i64 (c.len : Nat)] false)).next := O4.lt
        generalize h4.set b (.cells [vn, .nils, .int .i64 ((c.moved + 1 : Nat) : Int), .int .i64 (c.len : Nat)] false) = h5 at aa bb
        generalize h4.set b (.cells [vn, .nils, .int .i64 0, .int .i64 (c.len : Nat)] false) = h6 at bb w1 KK gg nn
        have heq : ((c.moved : Int) + 1 = (c.old.length : Int)) := by omega
        simp [q0, l2, O4.ld1, lO, heq, aa, bb]
        refine ⟨⟨vn, .nils, rn4, [], ⟨gg, nn, w1, ⟨Mine.nil 1 h6, rfl, fun i r L hr _ => by simp at hr⟩, A'⟩, fun d hd => f4 d ?_⟩, K4.trans (KK.weak K4.1 fun d _ q => ?_)⟩
        · obtain ⟨u, hu, hu'⟩ := mem_blks.1 hd
          refine mem_blks.2 ⟨u, ?_, hu'⟩
          simp only [List.mem_cons, List.append_nil] at hu
          rcases hu with rfl | rfl | rfl | hu
          · simp
          · simp
          · cases hu'
          · simp [hu]
        · have q : d = b := q
          rw [q]
          exact ChO.atB rn ro vn vo
      · rw [if_neg hlast]
        have hne : ¬ ((c.moved : Int) + 1 = (c.old.length : Int)) := by omega
        simp [q0, l2, O4.ld1, lO, hne]
        exact ⟨⟨vn, vo, rn4, ro4, O4, f4⟩, K4⟩
end Go.Proofs.Ytdnjhipgfbhecaa
