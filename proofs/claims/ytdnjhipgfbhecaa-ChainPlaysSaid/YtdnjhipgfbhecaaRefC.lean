/- depotref5.Chain: NewChain, bucket, Shape, step. -/
import Derived.Test.YtdnjhipgfbhecaaChainE
namespace Go.Proofs.Ytdnjhipgfbhecaa
open Go Go.YtdnjhipgfbhecaaAbs
set_option linter.unusedSimpArgs false
set_option linter.unusedVariables false
set_option maxRecDepth 4000

theorem rcbucket_ok (k : Nat) (h : Heap) (b : Nat) (c : Ch) (vn vo : AV) (rn ro : List AV) (O : ChO h b c vn vo rn ro) (key : ByteArray) (hk : key.size + 5 < k) (hm : key.size < 1000000000) (h0 : 0 < c.now.length) (h1 : c.now.length < 100000) (h2 : c.old.length < 100000) (h3 : c.moved < 100000) :
    acall Try.prog (k + 2) 29 [.ptr b 0, .str key] h = some (.ptr (pick2 (c.sel key).1 vo vn).blk ((pick2 (c.sel key).1 vo vn).off + (c.sel key).2), h) := by
  rw [acall_text [] Try.func29 (by kernel_rfl)]
  refine afuncT_of rfl (by simp [Try.f29]) ?_
  have hh := rhash_ok k key (by omega) (by omega) h
  have cv := hash_cv key
  have hl := hsh_lt key
  unfold Ch.sel
  generalize hsh key = H at *
  by_cases c1 : 0 < c.old.length
  · by_cases c2 : c.moved ≤ H % c.old.length
    · have hj := Nat.mod_lt H c1
      have ix := O.idxO (P := Try.prog) Try.underlying45 ts65 hj .i64
      rw [if_pos ⟨c1, c2⟩]
      have tm := tmodN H c.old.length
      have ne : ¬ c.old.length = 0 := by omega
      generalize H % c.old.length = j at *
      have wj := i64s (n := (j : Int)) (by omega) (by omega)
      have wl := i64s (n := ((c.old.length : Nat) : Int)) (by omega) (by omega)
      simp [Try.f29, hh, cv, O.ld0, O.ld1, O.ld2, O.lenO, O.lenN, isLt (show (0 : Int) < (c.old.length : Int) by omega), tm, ne, isLe (show (c.moved : Int) ≤ (j : Int) by omega), ix, pick2, wj]
    · have hj := Nat.mod_lt H h0
      have hj' := Nat.mod_lt H c1
      have ix := O.idxN (P := Try.prog) Try.underlying45 ts65 hj .i64
      rw [if_neg (fun q => c2 q.2)]
      have tm := tmodN H c.old.length
      have tm2 := tmodN H c.now.length
      have ne : ¬ c.old.length = 0 := by omega
      have ne2 : ¬ c.now.length = 0 := by omega
      generalize H % c.old.length = j at *
      generalize H % c.now.length = j2 at *
      have wj := i64s (n := (j : Int)) (by omega) (by omega)
      have wj2 := i64s (n := (j2 : Int)) (by omega) (by omega)
      simp [Try.f29, hh, cv, O.ld0, O.ld1, O.ld2, O.lenO, O.lenN, isLt (show (0 : Int) < (c.old.length : Int) by omega), tm, tm2, ne, ne2, isLt (show (j : Int) < (c.moved : Int) by omega), ix, pick2, wj, wj2]
  · have hj := Nat.mod_lt H h0
    have ix := O.idxN (P := Try.prog) Try.underlying45 ts65 hj .i64
    rw [if_neg (fun q => c1 q.1)]
    have tm2 := tmodN H c.now.length
    have ne2 : ¬ c.now.length = 0 := by omega
    have e0 : c.old.length = 0 := by omega
    generalize H % c.now.length = j2 at *
    have wj2 := i64s (n := (j2 : Int)) (by omega) (by omega)
    simp [Try.f29, hh, cv, O.ld0, O.ld1, O.ld2, O.lenO, O.lenN, e0, tm2, ne2, ix, pick2, wj2]
theorem rcnew_ok (k : Nat) (h : Heap) : ∃ v' h', acall Try.prog (k + 1) 17 [] h = some (v', h') ∧ ∃ (b : Nat) (vn vo : AV) (rn ro : List AV), v' = .ptr b 0 ∧ ChO h' b .new vn vo rn ro ∧ (∀ d, d ∈ fpC b vn vo rn ro → h.next ≤ d) ∧ Keep h.next nob h h' := by
  rw [acall_text [] Try.func17 (by kernel_rfl)]
  refine afuncT_ex rfl (by simp [Try.f17]) ?_
  simp [Try.f17, aalloc_makeC (P := Try.prog) el45 (z := [.nils]) az65 rfl rfl 4 4 (Nat.le_refl _) (by omega) (N := 4) (M := 4) rfl rfl, flat1, afill, row1_agg]
  have M : Mine 1 4 (h.new (.cells (List.replicate 4 AV.nils) false)) (.sl h.next 0 4 4 1 true) (List.replicate 4 AV.nils) := Mine.new (sz := 1) (n := 4) (m := 4) h (List.replicate 4 AV.nils) rfl (Nat.le_refl _) rfl true
  have M' := M.ext (Keep.new (Nat.le_refl _) (.cells [.sl h.next 0 4 4 1 true, .nils, .int .i64 0, .int .i64 0] false))
  have KK : Keep h.next nob h ((h.new (.cells (List.replicate 4 AV.nils) false)).new (.cells [.sl h.next 0 4 4 1 true, .nils, .int .i64 0, .int .i64 0] false)) := (Keep.new (Nat.le_refl _) _).trans (Keep.new (Nat.le_succ _) _)
  have gg : ((h.new (.cells (List.replicate 4 AV.nils) false)).new (.cells [.sl h.next 0 4 4 1 true, .nils, .int .i64 0, .int .i64 0] false)).get (h.next + 1) = some (.cells [.sl h.next 0 4 4 1 true, .nils, .int .i64 0, .int .i64 0] false) := get_new_self _ _
  have nn : h.next + 1 < ((h.new (.cells (List.replicate 4 AV.nils) false)).new (.cells [.sl h.next 0 4 4 1 true, .nils, .int .i64 0, .int .i64 0] false)).next := Nat.lt_succ_self _
  have key : ∃ (vn vo : AV) (rn ro : List AV), ChO ((h.new (.cells (List.replicate 4 AV.nils) false)).new (.cells [.sl h.next 0 4 4 1 true, .nils, .int .i64 0, .int .i64 0] false)) (h.next + 1) .new vn vo rn ro ∧ (∀ d, d ∈ fpC (h.next + 1) vn vo rn ro → h.next ≤ d) ∧
      Keep h.next nob h ((h.new (.cells (List.replicate 4 AV.nils) false)).new (.cells [.sl h.next 0 4 4 1 true, .nils, .int .i64 0, .int .i64 0] false)) := by
    refine ⟨.sl h.next 0 4 4 1 true, .nils, List.replicate 4 AV.nils, [], ⟨gg, nn, ⟨M', rfl, fun i r L hr hL => ?_⟩, ⟨Mine.nil 1 _, rfl, fun i r L hr _ => by simp at hr⟩, ?_⟩, ?_, KK⟩
    · have e1 : r = .nils := by
        rw [List.getElem?_replicate] at hr
        split at hr
        · exact (Option.some.inj hr).symm
        · cases hr
      have e2 : L = [] := by
        have : Ch.new.now = List.replicate 4 ([] : List Ent) := rfl
        rw [this, List.getElem?_replicate] at hL
        split at hL
        · exact (Option.some.inj hL).symm
        · cases hL
      subst e1 e2
      exact Mine.nil 2 _
    · unfold Apart
      simp [blks_cons]
    · intro d hd
      simp [fpC, blks_cons] at hd
      omega
  simpa using key

theorem rcshape_ok (k : Nat) (h : Heap) (b : Nat) (c : Ch) (vn vo : AV) (rn ro : List AV) (O : ChO h b c vn vo rn ro) : acall Try.prog (k + 1) 23 [.ptr b 0] h = some (.tup [.int .i64 (c.now.length : Nat), .int .i64 (c.old.length : Nat), .int .i64 (c.moved : Nat)], h) := by
  rw [acall_text [] Try.func23 (by kernel_rfl)]
  refine afuncT_of rfl (by simp [Try.f23]) ?_
  simp [Try.f23, O.ld0, O.ld1, O.ld2, O.lenN, O.lenO]
theorem ChO.appK {h : Heap} {b : Nat} {c : Ch} {vn vo : AV} {rn ro : List AV} (O : ChO h b c vn vo rn ro) (s : Bool) {j : Nat} {L : List Ent} (hL : (c.rows s)[j]? = some L) (hl : L.length < 1000000) (e : Ent) {st el : TypeId} {by_ : Nat} (E : Elem Try.prog st el 2 by_) :
    ∃ r r' h1 h2 rn' ro', (pick2 s ro rn)[j]? = some r ∧ Sl 2 L.length h r (cat ec L) ∧ aappend Try.prog (h.new (.cells (ec e) false)) st st r (.sl h.next 0 1 1 2 true) = some (r', h1) ∧ r'.one = true ∧ alay h1 (pick2 s vo vn).blk ((pick2 s vo vn).off + j) [r'] = some h2 ∧
      ChO h2 b (c.setRow (s, j) (L ++ [e])) vn vo rn' ro' ∧ (∀ d, d ∈ fpC b vn vo rn' ro' → d ∈ fpC b vn vo rn ro ∨ h.next ≤ d) ∧ Keep h.next (fun d => d ∈ fpC b vn vo rn ro) h h2 ∧ Keep h.next (Has r) h h1 := by
  obtain ⟨R, A⟩ := O.sub s
  obtain ⟨r, hr, Mr⟩ := R.row hL
  obtain ⟨r', h1, a1, a2, a3, a4⟩ := Mr.push E (a := ec e) (ex := true) rfl rfl (by omega)
  rw [← cat_one (f := ec), ← cat_append] at a2
  have a2 : Mine 2 (L ++ [e]).length h1 r' (cat ec (L ++ [e])) := by rw [List.length_append]; exact a2
  obtain ⟨h2, rn', ro', b1, b2, b3, b4, b5⟩ := O.upd s hr a4 a2 a3
  exact ⟨r, r', h1, h2, rn', ro', hr, Mr.sl, a1, a2.oneV, b1, b2, fun d hd => (b3 d hd).imp (fun q => q.1) id, b4, a4⟩
theorem rcstep_ok (k : Nat) (hk : 200000 < k) (h : Heap) (b : Nat) (c : Ch) (vn vo : AV) (rn ro : List AV) (O : ChO h b c vn vo rn ro) (C : ChOk c) :
    ∃ v' h', acall Try.prog (k + 2) 28 [.ptr b 0] h = some (v', h') ∧ (∃ vn' vo' rn' ro', ChO h' b c.step vn' vo' rn' ro' ∧ ∀ d, d ∈ fpC b vn' vo' rn' ro' → d ∈ fpC b vn vo rn ro ∨ h.next ≤ d) ∧ Keep h.next (fun d => d ∈ fpC b vn vo rn ro) h h' := by
  rw [acall_text [7, 8] Try.func28 (by kernel_rfl)]
  refine afuncT_ex rfl (by simp [Try.f28]) ?_
  unfold Ch.step
  by_cases c0 : c.old.length = 0
  · rw [if_pos c0]
    simp [Try.f28, O.ld1, O.lenO, c0]
    exact ⟨⟨vn, vo, rn, ro, O, fun d hd => .inl hd⟩, Keep.refl _ _ _⟩
  · rw [if_neg c0]
    have hm := C.mv c0
    have hm1 := C.m1
    obtain ⟨l, hl⟩ : ∃ l, c.old[c.moved]? = some l := ⟨c.old[c.moved], by simp [hm]⟩
    have hll : l.length ≤ 100000 := C.small l (List.mem_append.2 (.inr (List.mem_of_getElem? hl)))
    have hlk : ∀ e : Ent, e ∈ l → e.1.size ≤ 1000 := C.keys l (List.mem_append.2 (.inr (List.mem_of_getElem? hl)))
    rw [hl, Option.getD_some]
    obtain ⟨r, hr, Mr⟩ := O.old.row hl
    have hr' : (pick2 true ro rn)[c.moved]? = some r := hr
    have ix := O.idxO (P := Try.prog) Try.underlying45 ts65 hm .i64
    have ldr := O.old.own.sl.ld (P := Try.prog) ta65 hr
    have hrj : c.moved < ro.length := by rw [O.old.len]; exact hm
    -- the moved bucket goes
    obtain ⟨h2, rn2, ro2, a1, O2, f2, k2, k2'⟩ := O.upd true hr' (Keep.refl _ _ _) (Mine.nil 2 h) (r' := .nils) (L' := []) (fun c hc => by cases hc)
    have a1 : alay h vo.blk (vo.off + c.moved) [.nils] = some h2 := a1
    have O2 : ChO h2 b ⟨c.now, c.old.set c.moved [], c.moved, c.len⟩ vn vo rn2 ro2 := O2
    obtain ⟨h3, a3, O3, k3, n3⟩ := O2.put2 (c.moved + 1)
    have a3 : alay h2 b 2 [.int .i64 ((c.moved : Int) + 1)] = some h3 := a3
    have O3 : ChO h3 b ⟨c.now, c.old.set c.moved [], c.moved + 1, c.len⟩ vn vo rn2 ro2 := O3
    obtain ⟨x1, x2⟩ := O.rest true hr'
    -- its entries stay
    have rfp2 : ∀ d, Has r d → d ∉ fpC b vn vo rn2 ro2 := fun d hd q => by
      rcases f2 d q with z | z
      · have := z.2 hd; cases this
      · have := O.fp_lt (ChO.inFp true hr' hd); omega
    have fp2 : ∀ d, d ∈ fpC b vn vo rn2 ro2 → d ∈ fpC b vn vo rn ro ∨ h.next ≤ d := fun d hd => (f2 d hd).imp (fun q => q.1) id
    have k3' : Keep h.next (fun d => d ∈ fpC b vn vo rn ro) h h3 := k2.trans (k3.weak k2.1 fun d _ q => by
      have q : d = b := q
      rw [q]; exact ChO.atB rn ro vn vo)
    have M2 : Mine 2 l.length h2 r (cat ec l) := Mr.keep k2' fun d hd q => (O.rest true hr').2 d q |>.2 |> fun z => by
      have := O.apart.get (i := 2) (j := rn.length + c.moved + 3) (v := vo) (w := r) rfl (by simp only [List.getElem?_cons_succ]; rw [List.getElem?_append_right (by omega), Nat.add_sub_cancel_left]; exact hr) q hd
      omega
    have M3 : Mine 2 l.length h3 r (cat ec l) := M2.keep k3 fun d hd q => (x1 d hd).1 q
    have S3 := M3.sl
    have hpos3 : h.next ≤ h3.next := k3'.1
    -- the loop
    have mvd : ∀ i, (l.take (i + 1)).foldl move1 c.now = match l[i]? with | some e => move1 ((l.take i).foldl move1 c.now) e | none => (l.take i).foldl move1 c.now := fun i => by
      rw [List.take_add_one]
      cases l[i]? with
      | none => simp
      | some e => simp
    simp [Try.f28, O.ld1, O.lenO, c0, O.ld2, ix, ldr, a1, O2.ld2, i64s (n := (c.moved : Int) + 1) (by omega) (by omega), a3, Mr.sl.len']
    refine W_cutLoop 0 (fun st => st.t.get 0 = some (.ptr b 0) ∧ ∃ rn' ro', ChO st.h b ⟨l.foldl move1 c.now, c.old.set c.moved [], c.moved + 1, c.len⟩ vn vo rn' ro' ∧ (∀ d, d ∈ fpC b vn vo rn' ro' → d ∈ fpC b vn vo rn ro ∨ h.next ≤ d) ∧ Keep h.next (fun d => d ∈ fpC b vn vo rn ro) h st.h) ?_ ?_
    · refine W_loop (fun m st => ∃ (i : Nat) (rn' ro' : List AV), m = l.length - i ∧ i ≤ l.length ∧ st.t.get 0 = some (.ptr b 0) ∧ st.t.get 2 = some r ∧ st.t.get 3 = some (.int .i64 (i : Nat)) ∧
        ChO st.h b ⟨(l.take i).foldl move1 c.now, c.old.set c.moved [], c.moved + 1, c.len⟩ vn vo rn' ro' ∧ (∀ d, d ∈ fpC b vn vo rn' ro' → d ∈ fpC b vn vo rn ro ∨ h.next ≤ d) ∧ Keep h.next (fun d => d ∈ fpC b vn vo rn ro) h st.h ∧ Mine 2 l.length st.h r (cat ec l) ∧ (∀ d, Has r d → d ∉ fpC b vn vo rn' ro')) l.length (by omega)
        ⟨0, rn2, ro2, by simp, by omega, rfl, rfl, rfl, O3, fp2, k3', M3, rfp2⟩ ?_
      rintro m ⟨t, h4⟩ ⟨i, rn4, ro4, rfl, hi, q0, q2, q3, O4, f4, K4, M4, r4⟩
      simp only at q0 q2 q3 O4 K4 M4
      have S4 := M4.sl
      by_cases hlt : i < l.length
      · obtain ⟨e, he⟩ : ∃ e, l[i]? = some e := ⟨l[i], by simp [hlt]⟩
        have hes := hlk e (List.mem_of_getElem? he)
        have mve := mvd i
        rw [he] at mve
        simp only at mve
        have hnl : ((l.take i).foldl move1 c.now).length = c.now.length := moves_len _ _
        have hsm := moves_small (l.take i) (N := 100000) (now := c.now) (fun L hL => C.small L (List.mem_append.2 (.inl hL)))
        have n0 := C.n0
        have n1 := C.n1
        generalize (l.take i).foldl move1 c.now = nw at *
        have ix := S4.idx (P := Try.prog) Try.underlying65 ts67 (j := i) hlt .i64
        have ld := S4.lds (P := Try.prog) ta67 ts67 (j := i * 2) (by rw [cat_len ec_len]; omega) (by omega)
        rw [cat_at ec_len he] at ld
        have l0 := S4.ld (P := Try.prog) (e := 9) ta9 (j := i * 2) (x := .str e.1) (by have := cat_get ec_len he (o := 0) (by omega); exact this)
        have rlt := S4.blk_lt (by omega)
        obtain ⟨j, hj⟩ : ∃ j, j = hsh e.1 % nw.length := ⟨_, rfl⟩
        have hjn : j < nw.length := by rw [hj]; exact Nat.mod_lt _ (by omega)
        obtain ⟨L, hL⟩ : ∃ L, nw[j]? = some L := ⟨nw[j], by simp [hjn]⟩
        have hLl := hsm L (List.mem_of_getElem? hL)
        rw [List.length_take] at hLl
        obtain ⟨u, u', h6, h7, rn6, ro6, b1, b2, b3, b3', b4, b5, b6, b7, b8⟩ := O4.appK false hL (by omega) e el65
        have hh := rhash_ok k e.1 (by omega) (by omega) h4
        have cv := hash_cv e.1
        have hlt32 := hsh_lt e.1
        have tm := tmodN (hsh e.1) nw.length
        rw [← hj] at tm
        have ne : ¬ nw.length = 0 := by omega
        have wj := i64s (n := (j : Int)) (by omega) (by omega)
        have ixN := O4.idxN (P := Try.prog) Try.underlying45 ts65 (j := j) hjn .i64
        have blt := O4.lt
        have smN := O4.now.own.sl.same
        have ag : Agree h4.next h4 h4 := fun _ _ => rfl
        simp [q0, q2, q3, S4.len', isLt (show (i : Int) < (l.length : Int) by omega)]
        refine W_drawn h4.next (by rfl) (by kernel_rfl) ?_
        simp [obl, mayEff, mayRead, sameAV, q0, q2, q3, ix, O4.ld0, O4.lenN, blt, smN, l0, rlt, hh, ag, cv, tm, ne, wj, isMap]
        have b1 : rn4[j]? = some u := b1
        have b4 : alay h6 vn.blk (vn.off + j) [u'] = some h7 := b4
        have ldu := O4.now.own.sl.ld (P := Try.prog) ta65 b1
        have vlt := O4.now.own.sl.blk_lt (by have := O4.now.len; simp only at this; omega)
        have smu := b2.same
        have sme : sameAVs (ec e) (ec e) = true := by simp [sameAVs, sameAV, ec]
        have rwu := row1_one b3'
        have hu4 : u ∈ rn4 := List.mem_of_getElem? b1
        have hub : ¬ Has u b := fun z => (O4.rest false (j := j) (r := u) b1).1 b z |>.1 rfl
        have huv : ¬ Has u vn.blk := fun z => by
          have hv : Has vn vn.blk := O4.now.own.blk (by have := O4.now.len; simp only at this; omega)
          have := O4.apart.get (i := 1) (j := j + 3) (v := vn) (w := u) rfl (by simp only [List.getElem?_cons_succ]; rw [List.getElem?_append_left (List.getElem?_eq_some_iff.1 b1).1]; exact b1) hv z
          omega
        have hur : ∀ d, Has r d → ¬ Has u d := fun d hd z => r4 d hd (ChO.inFp false b1 z)
        have hrr : Has r r.blk := M4.blk (by omega)
        have G0 : AgreeG (fun c => c = b ∨ c = vn.blk ∨ c = r.blk) h4 (h4.new (.cells (ec e) false)) := fun c hc => get_new_old (by rcases hc with rfl | rfl | rfl <;> assumption)
        have G1 : AgreeG (fun c => c = b ∨ c = vn.blk ∨ c = r.blk) (h4.new (.cells (ec e) false)) h6 := fun c hc => by
          have hc4 : c < h4.next := by rcases hc with rfl | rfl | rfl <;> assumption
          rw [get_new_old hc4]
          refine b8.2 c hc4 ?_
          rcases hc with z | z | z
          · rw [z]; exact hub
          · rw [z]; exact huv
          · rw [z]; exact hur _ hrr
        have oneE : ∀ x : AV, x ∈ ec e → x.one = true := fun x hx => by
          simp only [ec, List.mem_cons, List.not_mem_nil, or_false] at hx
          rcases hx with rfl | rfl <;> rfl
        have rw1 : (AV.agg (ec e)).row1 = some (ec e) := rfl
        have le1 : (ec e).length = 2 := rfl
        have nkA : nextOk h4.next 0 (h4.new (.cells (ec e) false)) = true := rfl
        have nkB : nextOk h4.next 0 h6 = true := rfl
        have nkC : nextOk h4.next 0 h7 = true := rfl
        refine W_lateG [0, 1, 3, 7, 0, 0, 32, 96, 224, 0, 992, 2016, 0, 0, 12288, 28672, 61440, 131040, 262143, 524287] [] 18 (fun c => c = b ∨ c = vn.blk ∨ c = r.blk) (by rfl) (by kernel_rfl) (by kernel_rfl) (by kernel_rfl) (by kernel_rfl) (fun c hc => by rcases hc with rfl | rfl | rfl <;> assumption) ?_
        simp [resv, memN, isEff, isAlloc, isStore, mayEff, mayRead, aalloc, afill, insFl, oblG, sameAV, bump_zero, nkA, nkB, nkC, q0, q2, q3, O4.ld0, smN, ixN, ldu, smu, ix, ld, sme, rw1, le1, G0, G1, b3, b4, rwu, i64s (n := (i : Int) + 1) (by omega) (by omega)]
        rw [if_pos oneE]
        simp [resv, memN, isEff, isAlloc, isStore, mayEff, mayRead, aalloc, afill, insFl, oblG, sameAV, bump_zero, freeOk, nkA, nkB, nkC, q0, q2, q3, O4.ld0, smN, ixN, ldu, smu, ix, ld, sme, rw1, le1, G0, G1, b3, b4, rwu, i64s (n := (i : Int) + 1) (by omega) (by omega)]
        have n7 : h4.next ≤ h7.next := b7.1
        have cs : Ch.setRow ⟨nw, c.old.set c.moved [], c.moved + 1, c.len⟩ (false, j) (L ++ [e]) = ⟨(l.take (i + 1)).foldl move1 c.now, c.old.set c.moved [], c.moved + 1, c.len⟩ := by
          rw [mve]
          unfold move1
          rw [← hj, hL]
          rfl
        rw [cs] at b5
        refine ⟨l.length - (i + 1), by omega, i + 1, rfl, by omega, by omega, rn6, ro6, b5, fun d hd => ?_, ?_, ?_, fun d hd q => ?_⟩
        · rcases b6 d hd with z | z
          · exact f4 d z
          · have := K4.1; exact .inr (by omega)
        · refine K4.trans ⟨n7, fun d hd hn => ?_⟩
          have hd4 : d < h4.next := Nat.lt_of_lt_of_le hd K4.1
          exact b7.2 d hd4 (fun z => (f4 d z).elim hn (by omega))
        · exact M4.keep b7 r4
        · rcases b6 d q with z | z
          · exact r4 d hd z
          · have := M4.lt hd; omega
      · obtain rfl : i = l.length := by omega
        rw [List.take_length] at O4
        simp [q0, q2, q3, S4.len']
        exact ⟨rn4, ro4, O4, f4, K4⟩
    · rintro ⟨t, h4⟩ ⟨q0, rn4, ro4, O4, f4, K4⟩
      simp only at q0 O4 K4
      have hol : (c.old.set c.moved []).length = c.old.length := by rw [List.length_set]
      have lO := O4.lenO
      simp only [hol] at lO
      have l2 := O4.ld2 (ty := 3) ta3
      simp only at l2
      by_cases hlast : c.moved + 1 = c.old.length
      · rw [if_pos hlast]
        have A' : Apart (.ptr b 0 :: vn :: .nils :: (rn4 ++ [])) := by
          have : Apart (.ptr b 0 :: vn :: rn4) := O4.apart.sub (.cons_cons _ (.cons_cons _ (.cons _ (List.sublist_append_left _ _))))
          unfold Apart at this ⊢
          have e : blks (.ptr b 0 :: vn :: .nils :: (rn4 ++ [])) = blks (.ptr b 0 :: vn :: rn4) := by
            rw [blks_cons, blks_cons, blks_cons, List.append_nil, blks_cons (.ptr b 0), blks_cons vn]
            rfl
          rw [e]
          exact this
        have aa : alay h4 b 1 [.nils] = some (h4.set b (.cells [vn, .nils, .int .i64 ((c.moved + 1 : Nat) : Int), .int .i64 (c.len : Nat)] false)) := by unfold alay; rw [O4.str]; rfl
        obtain ⟨w1, _⟩ := O4.setStr (.cells [vn, .nils, .int .i64 0, .int .i64 (c.len : Nat)] false)
        have bb : alay (h4.set b (.cells [vn, .nils, .int .i64 ((c.moved + 1 : Nat) : Int), .int .i64 (c.len : Nat)] false)) b 2 [.int .i64 0] = some (h4.set b (.cells [vn, .nils, .int .i64 0, .int .i64 (c.len : Nat)] false)) := by
          unfold alay; rw [get_set_self]; simp [layAt_cons, layAt_zero, layOver_cons, layOver_nil]
        have KK : Keep h4.next (fun d => d = b) h4 (h4.set b (.cells [vn, .nils, .int .i64 0, .int .i64 (c.len : Nat)] false)) := Keep.set (F := fun d => d = b) (.inl rfl) _
        have gg : (h4.set b (.cells [vn, .nils, .int .i64 0, .int .i64 (c.len : Nat)] false)).get b = some (.cells [vn, .nils, .int .i64 0, .int .i64 (c.len : Nat)] false) := get_set_self _ _ _
        have nn : b < (h4.set b (.cells [vn, .nils, .int .i64 0, .int .i64 (c.len : Nat)] false)).next := O4.lt
        generalize h4.set b (.cells [vn, .nils, .int .i64 ((c.moved + 1 : Nat) : Int), .int .i64 (c.len : Nat)] false) = h5 at aa bb
        generalize h4.set b (.cells [vn, .nils, .int .i64 0, .int .i64 (c.len : Nat)] false) = h6 at bb w1 KK gg nn
        have heq : ((c.moved : Int) + 1 = (c.old.length : Int)) := by omega
        simp [q0, l2, O4.ld1, lO, heq, aa, bb]
        refine ⟨⟨vn, .nils, rn4, [], ⟨gg, nn, w1, ⟨Mine.nil 1 h6, rfl, fun i r L hr _ => by simp at hr⟩, A'⟩, fun d hd => f4 d ?_⟩, K4.trans (KK.weak K4.1 fun d _ q => ?_)⟩
        · obtain ⟨u, hu, hu'⟩ := mem_blks.1 hd
          refine mem_blks.2 ⟨u, ?_, hu'⟩
          simp only [List.mem_cons, List.append_nil] at hu
          rcases hu with rfl | rfl | rfl | hu
          · simp
          · simp
          · cases hu'
          · simp [hu]
        · have q : d = b := q
          rw [q]
          exact ChO.atB rn ro vn vo
      · rw [if_neg hlast]
        have hne : ¬ ((c.moved : Int) + 1 = (c.old.length : Int)) := by omega
        simp [q0, l2, O4.ld1, lO, hne]
        exact ⟨⟨vn, vo, rn4, ro4, O4, f4⟩, K4⟩
end Go.Proofs.Ytdnjhipgfbhecaa
