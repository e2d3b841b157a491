/- Contracts of the functions that the law reaches, over the abstract machine. -/
import Derived.Test.YtelnkdgpghndgaaItemPlaysB
import Derived.Test.YtelnkdgpghndgaaMachA
import Derived.Test.YtelnkdgpghndgaaMachB
import Derived.Test.YtelnkdgpghndgaaMachC
import Derived.Test.YtelnkdgpghndgaaMachD
import Derived.Test.YtelnkdgpghndgaaItemPlaysA
/- depotref5.Store: Get, Put, NewStore. -/
namespace Go.Proofs.Ytelnkdgpghndgaa
open Go Go.YtelnkdgpghndgaaAbs
set_option linter.unusedSimpArgs false
set_option linter.unusedVariables false
set_option maxRecDepth 4000

/-- An append to what is newer than m. -/
theorem app_new {m n k : Nat} {h : Heap} {v x : AV} {l new : List AV} (M : Mine 4 n h v l) (F : ∀ d, Has v d → m ≤ d) (hm : m ≤ h.next) (X : Sl 4 k h x new) (o : new.all AV.one = true) (hn : n + k ≤ 1000000000) :
    ∃ w h2, aappend Try.prog h 54 54 v x = some (w, h2) ∧ Mine 4 (n + k) h2 w (l ++ new) ∧ (∀ d, Has w d → m ≤ d) ∧ Keep m nob h h2 := by
  obtain ⟨w, h2, a1, a2, a3, a4⟩ := M.append (P := Try.prog) (st := 54) (xt := 54) el54 (by rw [Try.underlying54]; rfl) X.alen X.acells o X.length hn
  refine ⟨w, h2, a1, a2, fun d hd => ?_, ⟨a4.1, fun d hd _ => a4.2 d (by omega) fun q => by have := F d q; omega⟩⟩
  rcases a3 d hd with z | z
  · exact F d z
  · exact Nat.le_trans hm z
theorem cat_one4 (L : List Itm) : (cat rC L).all AV.one = true := rC_one L
/-- One goes to the front of a row. -/
theorem front_ok {L : List Itm} {h : Heap} {lv : AV} (M : Mine 4 L.length h lv (cat rC L)) (y : Itm) (hl : L.length < 100000) :
    ∃ w h2, aappend Try.prog (h.new (.cells (rC y) false)) 54 54 (.sl h.next 0 1 1 4 true) lv = some (w, h2) ∧ Mine 4 (y :: L).length h2 w (cat rC (y :: L)) ∧ (∀ d, Has w d → h.next ≤ d) ∧ Keep h.next nob h h2 ∧ Agree h.next (h.new (.cells (rC y) false)) h2 := by
  have k1 : Keep h.next nob h (h.new (.cells (rC y) false)) := Keep.new (Nat.le_refl _) _
  have M0 : Mine 4 1 (h.new (.cells (rC y) false)) (.sl h.next 0 1 1 4 true) (rC y) := Mine.whole (get_new_self _ _) (Nat.lt_succ_self _) rfl rfl true
  obtain ⟨w, h2, a1, a2, a3, a4⟩ := app_new M0 (m := h.next) (fun d hd => by cases hd; exact Nat.le_refl _) k1.1 (M.sl.ext k1) (rC_one L) (by omega)
  refine ⟨w, h2, a1, ?_, a3, ⟨Nat.le_trans k1.1 a4.1, fun d hd _ => by rw [a4.2 d hd id, k1.2 d hd id]⟩, fun c hc => a4.2 c hc id⟩
  rw [List.length_cons, Nat.add_comm, cat_cons]
  exact a2
/-- One that is there goes to the front. -/
theorem turn_ok {A B : List Itm} {y : Itm} {h : Heap} {lv : AV} (M : Mine 4 (A ++ y :: B).length h lv (cat rC (A ++ y :: B))) (hl : (A ++ y :: B).length < 100000) :
    ∃ s1 s2 w1 h2 w2 h3, aslice Try.prog 54 lv none (some (.int .i64 (A.length : Nat))) none = some s1 ∧ aappend Try.prog (h.new (.cells (rC y) false)) 54 54 (.sl h.next 0 1 1 4 true) s1 = some (w1, h2) ∧
      aslice Try.prog 54 lv (some (.int .i64 ((A.length : Int) + 1))) none none = some s2 ∧ aappend Try.prog h2 54 54 w1 s2 = some (w2, h3) ∧ Mine 4 (y :: (A ++ B)).length h3 w2 (cat rC (y :: (A ++ B))) ∧ (∀ d, Has w2 d → h.next ≤ d) ∧ Keep h.next nob h h3 ∧ Keep h.next nob h h2 := by
  have k1 : Keep h.next nob h (h.new (.cells (rC y) false)) := Keep.new (Nat.le_refl _) _
  have M0 : Mine 4 1 (h.new (.cells (rC y) false)) (.sl h.next 0 1 1 4 true) (rC y) := Mine.whole (get_new_self _ _) (Nat.lt_succ_self _) rfl rfl true
  have hlen : (A ++ y :: B).length = A.length + 1 + B.length := by simp; omega
  obtain ⟨s1, c1, N1, _⟩ := M.to (P := Try.prog) (ty := 54) Try.underlying54 ts60 (k := .i64) (j := A.length) (by omega)
  obtain ⟨s2, c2, N2⟩ := M.sl.from (P := Try.prog) (ty := 54) Try.underlying54 ts60 (k := .i64) (j := A.length + 1) (by omega)
  have e1 : (cat rC (A ++ y :: B)).take (A.length * 4) = cat rC A := by rw [cat_take rC_len, List.take_left]
  have e2 : (cat rC (A ++ y :: B)).drop ((A.length + 1) * 4) = cat rC B := by
    rw [cat_drop rC_len]
    congr 1
    rw [show A ++ y :: B = (A ++ [y]) ++ B by simp, List.drop_left' (by simp)]
  rw [e1] at N1
  rw [e2, hlen, show A.length + 1 + B.length - (A.length + 1) = B.length by omega] at N2
  obtain ⟨w1, h2, a1, a2, a3, a4⟩ := app_new M0 (m := h.next) (fun d hd => by cases hd; exact Nat.le_refl _) k1.1 (N1.sl.ext k1) (rC_one A) (by omega)
  have k2 : Keep h.next nob h h2 := ⟨Nat.le_trans k1.1 a4.1, fun d hd _ => by rw [a4.2 d hd id, k1.2 d hd id]⟩
  obtain ⟨w2, h3, b1, b2, b3, b4⟩ := app_new a2 (m := h.next) a3 k2.1 (N2.ext k2) (rC_one B) (by omega)
  refine ⟨s1, s2, w1, h2, w2, h3, c1, a1, c2, b1, ?_, b3, ⟨Nat.le_trans k2.1 b4.1, fun d hd _ => by rw [b4.2 d hd id, k2.2 d hd id]⟩, k2⟩
  have : (y :: (A ++ B)).length = 1 + A.length + B.length := by simp; omega
  rw [this, cat_cons, cat_append, ← List.append_assoc]
  exact b2
section
variable {h : Heap} {b : Nat} {q : Rst} {L : List Itm}
theorem r2_lv' {rb : Nat} {lv w : AV} {L' : List Itm} {h3 : Heap} (O : Hold h (r2 b rb lv L)) (M : Mine 4 L'.length h3 w (cat rC L')) (F : ∀ d, Has w d → h.next ≤ d) (K : Keep h.next nob h h3) : ∃ h4, alay h3 b 1 [w] = some h4 ∧ Stp h (r2 b rb lv L) h4 (r2 b rb w L') := by
  obtain ⟨bl, bg⟩ := r2_blk O
  have T3 := (Stp.refl O).upd (i := 1) (v := lv) (o := .vec 4 L.length (cat rC L)) rfl (K.weak (Nat.le_refl _) fun _ _ z => z.elim) (v' := w) (o' := .vec 4 L'.length (cat rC L')) M (fun d hd => .inr (F d hd))
  have bg3 : h3.get b = some (.cells [.ptr rb 0, lv] false) := by rw [K.2 b bg id]; exact bl
  have K4 : Keep h3.next (Has (.ptr b 0)) h3 (h3.set b (.cells [.ptr rb 0, w] false)) := Keep.set (F := Has (.ptr b 0)) (.inl rfl) _
  have T4 := T3.upd (i := 0) (v := .ptr b 0) (o := .blk [.ptr rb 0, lv]) rfl K4 (v' := .ptr b 0) (o' := .blk [.ptr rb 0, w]) ⟨b, rfl, Nat.lt_of_lt_of_le bg K.1, get_set_self _ _ _⟩ (From.refl _ _)
  exact ⟨_, by unfold alay; rw [bg3]; rfl, T4⟩
set_option maxHeartbeats 1000000 in
theorem rget_ok {P Q : Nat} {s : Sb} (I : SlI P Q s) (R : RelS s q.r) {key : ByteArray} {L' : List Itm} (D : TouchR key L L') (nd : (L.map (·.key)).Nodup) (rd : ∀ y, y ∈ L → rdS s y.ci y.ch = some (y.key ++ y.data)) (hl : L.length < 100000) (hm : key.size ≤ 1000) (k : Nat) (hk : 200000 < k) (O : Hold h (q.th b L)) :
    ∃ (q' : Rst) (h' : Heap), acall Try.prog (k + 4) 21 [.ptr b 0, .str key] h = some (.tup [.str (((findK key L).map (·.data)).getD .empty), .bool (findK key L).isSome], h') ∧ Stp h (q.th b L) h' (q'.th b L') ∧ RelS s q'.r := by
  obtain ⟨f1, f2⟩ := rfind_ok (k + 2) O hl (by omega) key
  suffices main : ∃ v' h', acall Try.prog (k + 4) 21 [.ptr b 0, .str key] h = some (v', h') ∧ ∃ q' : Rst, v' = .tup [.str (((findK key L).map (·.data)).getD .empty), .bool (findK key L).isSome] ∧ Stp h (q.th b L) h' (q'.th b L') ∧ RelS s q'.r by
    obtain ⟨v', h', E, q', rfl, a, c⟩ := main
    exact ⟨q', h', E, a, c⟩
  rw [acall_text [5] Try.func21 (by kernel_rfl)]
  refine afuncT_ex rfl (by simp [Try.f21]) ?_
  cases D with
  | no hno =>
    have E1 := f1 hno
    rw [hno]
    simp [Try.f21, E1]
    exact ⟨rfl, q, Stp.refl O, R⟩
  | @yes A B y hk' =>
    subst hk'
    have E1 := f2 A B y rfl rfl (findK_pre nd)
    obtain ⟨O2, _⟩ := rst_hold O
    obtain ⟨l0, l1⟩ := r2_ld O2
    have M := r2_lv O2
    obtain ⟨s1, s2, _⟩ := split_at (A := A) (B := B) (y := y) rfl
    have ix := rC_idx M s2
    have hlM := M.length
    have ag : aload Try.prog h 60 q.lv.blk (q.lv.off + A.length * 4) = some (.agg (rC y)) := by
      have := M.sl.lds (P := Try.prog) (e := 60) (m := 4) ta60 ts60 (j := A.length * 4) (by omega) (by omega)
      rw [cat_at rC_len s1] at this
      exact this
    have rwy : (AV.agg (rC y)).row1 = some (rC y) := rfl
    have ly : alay (h.new (.cells [.str .empty, .int .i64 0, .int .i64 0, .bool false] false)) h.next 0 (rC y) = some (h.new (.cells (rC y) false)) := alay_new rfl
    have K1 : Keep h.next nob h (h.new (.cells (rC y) false)) := Keep.new (Nat.le_refl _) _
    have gz : (h.new (.cells (rC y) false)).get h.next = some (.cells (rC y) false) := get_new_self _ _
    have lz : h.next < (h.new (.cells (rC y) false)).next := Nat.lt_succ_self _
    obtain ⟨zb, hzb⟩ : ∃ zb, h.next = zb := ⟨_, rfl⟩
    obtain ⟨h1, e1⟩ : ∃ h1, h.new (.cells (rC y) false) = h1 := ⟨_, rfl⟩
    have O1 : Hold h1 (q.th b (A ++ y :: B)) := by rw [← e1]; exact O.ext K1
    rw [e1] at K1 gz lz ly
    rw [hzb] at gz lz ly
    obtain ⟨O12, _⟩ := rst_hold O1
    obtain ⟨_, l11⟩ := r2_ld O12
    have M1 := r2_lv O12
    have lag : aload Try.prog h1 60 zb 0 = some (.agg (rC y)) := by simp [aload, Heap.row, gz, ta60, ts60, rC]
    obtain ⟨sA, sB, w1, h2, w2, h3, c1, c2, c3, c4, c5, c6, c7, c8⟩ := turn_ok M1 hl
    obtain ⟨h4, a4, T4⟩ := r2_lv' O12 c5 c6 c7
    have S4 : Stp h (q.th b (A ++ y :: B)) h4 (r2 b q.rb w2 (y :: (A ++ B)) ++ q.r.th q.rb q.rv) := ((Stp.refl O).ext K1).op T4
    have O4 := S4.own
    have gz4 : h4.get zb = some (.cells (rC y) false) := by
      have nz : ¬ Inn (r2 b q.rb q.lv (A ++ y :: B)) zb := fun z => by have := (rst_hold O).1.lt z; omega
      rw [T4.k.2 zb lz nz]
      exact gz
    have hh4 : aload Try.prog h4 58 zb 1 = some (.agg [.int .i64 (y.ci : Nat), .int .i64 (y.ch : Nat)]) := by simp [aload, Heap.row, gz4, ta58, ts58, rC]
    obtain ⟨l40, _⟩ := r2_ld (own_append.1 O4).1
    obtain ⟨h5, E5, K5⟩ := r_read I R (k + 1) (by omega) y.ci y.ch h4 q.rb q.rv (own_append.1 O4).2.1
    rw [rd y (by simp)] at E5
    simp at E5
    have sl := aslice_strFrom (P := Try.prog) (ty := 9) Try.underlying9 (s := y.key ++ y.data) (k := .i64) (n := (y.key.size : Nat)) (by omega) (by rw [ByteArray.size_append]; omega)
    rw [Int.toNat_natCast, ba_from] at sl
    have row := row1_one c5.oneV
    have Kn : Keep h1.next nob h1 (h1.new (.cells (rC y) false)) := Keep.new (Nat.le_refl _) _
    obtain ⟨hn, en⟩ : ∃ hn, h1.new (.cells (rC y) false) = hn := ⟨_, rfl⟩
    rw [en] at c2 Kn
    have ln : ∀ {ty : TypeId}, tagg Try.prog ty = some false → aload Try.prog hn ty b 1 = some q.lv := (r2_ld (O12.ext Kn)).2
    have l2' : ∀ {ty : TypeId}, tagg Try.prog ty = some false → aload Try.prog h2 ty b 1 = some q.lv := (r2_ld (O12.ext c8)).2
    have agn : Agree h1.next h1 hn := fun c hc => Kn.2 c hc id
    have ag12 : Agree h1.next hn h2 := fun c hc => by rw [c8.2 c hc id, Kn.2 c hc id]
    have ssl := M1.sl.same
    have say : sameAVs (rC y) (rC y) = true := by simp [rC, sameAVs, sameAV]
    have oy : ∀ v : AV, v ∈ rC y → v.one = true := fun v hv => by simp [rC] at hv; rcases hv with rfl | rfl | rfl | rfl <;> rfl
    have fj : fwrap .i64 ((A.length : Int) + 1) = (A.length : Int) + 1 := i64w _ (by omega) (by omega)
    have bg := (r2_blk O12).2
    rw [findK_at nd]
    simp [Try.f21, E1, isLe (show (0 : Int) ≤ (A.length : Int) by omega), l1, ix, ag, rwy, hzb, rC_len, ly]
    refine W_split 14 h1.next (by rfl) (by kernel_rfl) (by rfl) ?_
    dsimp only [List.take, List.drop]
    simp [obl, mayEff, mayRead, sameAV, say, bg, lz, lag, rwy, rC_len, eq_true oy, aalloc, afill, en, agn, ln, ssl, c1, c2, ag12, l2', fj, c3, c4, row, a4, l40, hh4, E5, sl]
    exact ⟨⟨q.rb, q.r, q.rv, w2⟩, S4.ext K5, R⟩
theorem oldI_ex {cls : Nat} {y : Itm} (hy : y ∈ L) (h1 : y.pin = false) (h2 : y.ci = cls) : oldI cls L ≠ none := by
  intro e
  unfold oldI at e
  rw [List.find?_eq_none] at e
  have := e y (List.mem_reverse.2 hy)
  simp [h1, h2] at this
theorem old_last {cls p : Nat} {v : Itm} (hv : L[p]? = some v) (h1 : v.pin = false) (h2 : v.ci = cls) (h : ∀ i w, p < i → L[i]? = some w → ¬ (w.pin = false ∧ w.ci = cls)) : oldI cls L = some v := by
  obtain ⟨a1, a2⟩ := List.getElem?_eq_some_iff.1 hv
  have e : L = L.take p ++ v :: L.drop (p + 1) := by
    conv => lhs; rw [← List.take_append_drop p L, List.drop_eq_getElem_cons a1, a2]
  rw [e]
  refine oldI_some h1 h2 fun w hw => ?_
  obtain ⟨i, hi⟩ := List.getElem?_of_mem hw
  rw [List.getElem?_drop] at hi
  exact h _ w (by omega) hi
def encO : Option Nat → Int
  | none => -1
  | some i => (i : Nat)
/-- What the scan for the last loose item of class `cls` knows when the first `j` items have been looked at. -/
def Scan (L : List Itm) (cls j : Nat) (o : Option Nat) : Prop :=
  (o = none ∧ ∀ (i : Nat) (v : Itm), i < j → L[i]? = some v → ¬ (v.pin = false ∧ v.ci = cls)) ∨ ∃ pp v, o = some pp ∧ L[pp]? = some v ∧ v.pin = false ∧ v.ci = cls ∧ ∀ i w, pp < i → i < j → L[i]? = some w → ¬ (w.pin = false ∧ w.ci = cls)
theorem Scan.stay {L : List Itm} {cls j : Nat} {o : Option Nat} (ho : Scan L cls j o) {v : Itm} (hv : L[j]? = some v) (hn : ¬ (v.pin = false ∧ v.ci = cls)) : Scan L cls (j + 1) o := by
  have ext : ∀ (i : Nat) (w : Itm), i < j + 1 → L[i]? = some w → (i < j → ¬ (w.pin = false ∧ w.ci = cls)) → ¬ (w.pin = false ∧ w.ci = cls) := fun i w hi hw z => by
    by_cases e : i = j
    · subst e
      rw [hv] at hw
      cases hw
      exact hn
    · exact z (by omega)
  rcases ho with ⟨e, z⟩ | ⟨pp, v', e, z1, z2, z3, z4⟩
  · exact .inl ⟨e, fun i w hi hw => ext i w hi hw fun q => z i w q hw⟩
  · exact .inr ⟨pp, v', e, z1, z2, z3, fun i w hi hi2 hw => ext i w hi2 hw fun q => z4 i w hi q hw⟩
theorem Scan.take {L : List Itm} {cls j : Nat} {v : Itm} (hv : L[j]? = some v) (hp : v.pin = false) (hc : v.ci = cls) : Scan L cls (j + 1) (some j) :=
  .inr ⟨j, v, rfl, hv, hp, hc, fun i w hi hi2 => by omega⟩
theorem Scan.zero {L : List Itm} {cls : Nat} : Scan L cls 0 none := .inl ⟨rfl, fun i v hi => absurd hi (Nat.not_lt_zero _)⟩
/-- What holds at each turn of Put. -/
def RPInv (P Q : Nat) (h : Heap) (b : Nat) (key data : ByteArray) (pin : Bool) (cls : Nat) (w : List ByteArray) (er : Nat) (L' : List Itm) (s' : Sb) (th0 : List Th) (m : Nat) (st : St) : Prop :=
  ∃ (L1 : List Itm) (s1 : Sb) (w1 w2 : List ByteArray) (q1 : Rst) (wv : AV), m = L1.length ∧ PutL key data pin cls L1 s1 w2 er L' s' ∧ w = w1 ++ w2 ∧ (L1.map (·.key)).Nodup ∧ SlI P Q s1 ∧ RelS s1 q1.r ∧ L1.length < 100000 ∧ w1.length + L1.length ≤ 200000 ∧
    st.t.get 0 = some (.ptr b 0) ∧ st.t.get 1 = some (.str key) ∧ st.t.get 2 = some (.str data) ∧ st.t.get 3 = some (.bool pin) ∧ st.t.get 11 = some (.int .i64 (cls : Nat)) ∧ st.t.get 12 = some wv ∧ Stp h th0 st.h (q1.th b L1 ++ [(wv, .vec 1 w1.length (w1.map AV.str))])
set_option maxHeartbeats 4000000 in
theorem rput_ok {P Q : Nat} {s s' : Sb} (I : SlI P Q s) (R : RelS s q.r) {key data : ByteArray} {pin : Bool} {w : List ByteArray} {er : Nat} {L' : List Itm} (pr : PutR key data pin L s w er L' s') (nd : (L.map (·.key)).Nodup) (hl : L.length < 100000) (hm : key.size ≤ 1000) (hd : data.size ≤ 900000) (k : Nat) (hk : 300000 < k) (O : Hold h (q.th b L)) :
    ∃ (q' : Rst) (wv : AV) (h' : Heap), acall Try.prog (k + 5) 20 [.ptr b 0, .str key, .str data, .bool pin] h = some (.tup [wv, .int .i64 (er : Nat)], h') ∧ Stp h (q.th b L) h' (q'.th b L' ++ [(wv, .vec 1 w.length (w.map AV.str))]) ∧ RelS s' q'.r := by
  suffices main : ∃ v' h', acall Try.prog (k + 5) 20 [.ptr b 0, .str key, .str data, .bool pin] h = some (v', h') ∧ ∃ (q' : Rst) (wv : AV), v' = .tup [wv, .int .i64 (er : Nat)] ∧ Stp h (q.th b L) h' (q'.th b L' ++ [(wv, .vec 1 w.length (w.map AV.str))]) ∧ RelS s' q'.r by
    obtain ⟨v', h', E, q', wv, rfl, a, c⟩ := main
    exact ⟨q', wv, h', E, a, c⟩
  obtain ⟨f1, f2⟩ := rfind_ok (k + 3) O hl (by omega) key
  rw [acall_text [10] Try.func20 (by kernel_rfl)]
  refine afuncT_ex rfl (by simp [Try.f20]) ?_
  -- the one that is there goes
  obtain ⟨L1, s1, D, rest⟩ : ∃ L1 s1, DropR key L s L1 s1 ∧ ((clsE ((key ++ data).size : Nat) s1.cls = none ∧ w = [] ∧ er = 2 ∧ L' = L1 ∧ s' = s1) ∨ ∃ cls, clsE ((key ++ data).size : Nat) s1.cls = some cls ∧ PutL key data pin cls L1 s1 w er L' s') := by
    cases pr with
    | long d hc => exact ⟨_, _, d, .inl ⟨hc, rfl, rfl, rfl, rfl⟩⟩
    | some d hc p => exact ⟨_, _, d, .inr ⟨_, hc, p⟩⟩
  have nd1 := (D.q nd).1
  have I1 : SlI P Q s1 := by
    cases D with
    | no _ => exact I
    | yes _ hf => exact hf.inv I
  have l1len : L1.length ≤ L.length := by
    cases D with
    | no _ => exact Nat.le_refl _
    | yes _ _ => simp
  obtain ⟨v0, E1, alt⟩ : ∃ v0 : Int, acall Try.prog (k + 4) 40 [.ptr b 0, .str key] h = some (.int .i64 v0, h) ∧ ((v0 = -1 ∧ L1 = L ∧ s1 = s) ∨ ∃ A B y, v0 = (A.length : Nat) ∧ L = A ++ y :: B ∧ L1 = A ++ B ∧ FreeP s y.ci y.ch s1) := by
    cases D with
    | no hno => exact ⟨-1, f1 hno, .inl ⟨rfl, rfl, rfl⟩⟩
    | @yes A B y _ _ hk' hf => exact ⟨_, f2 A B y rfl hk' (by rw [← hk']; exact findK_pre nd), .inr ⟨A, B, y, rfl, rfl, rfl, hf⟩⟩
  simp [Try.f20, E1, -W_cond]
  refine W_cutN (fun st => ∃ q1 : Rst, st.t.get 0 = some (.ptr b 0) ∧ st.t.get 1 = some (.str key) ∧ st.t.get 2 = some (.str data) ∧ st.t.get 3 = some (.bool pin) ∧ Stp h (q.th b L) st.h (q1.th b L1) ∧ RelS s1 q1.r) ?_ ?_
  · rcases alt with ⟨rfl, rfl, rfl⟩ | ⟨A, B, y, rfl, hL, rfl, hf⟩
    · simp
      exact ⟨q, Stp.refl O, R⟩
    · obtain ⟨q2, h2, E2, S2, R2⟩ := rout_ok I R hL hf hl (k + 1) (by omega) O
      simp [isLe (show (0 : Int) ≤ (A.length : Int) by omega), E2]
      exact ⟨q2, S2, R2⟩
  rintro ⟨t, h2⟩ ⟨q1, q0, q1', q2, q3, S2, R1⟩
  simp only at q0 q1' q2 q3 S2
  obtain ⟨O22, O23⟩ := rst_hold S2.own
  obtain ⟨l0, _⟩ := r2_ld O22
  obtain ⟨n, hn⟩ : ∃ n, n = (key ++ data).size := ⟨_, rfl⟩
  have hn' : n = key.size + data.size := by rw [hn, ByteArray.size_append]
  have wn : fwrap .i64 ((key.size : Int) + data.size) = (n : Nat) := by rw [i64w _ (by omega) (by omega)]; omega
  have E3 := r_class R1 I1 (k + 3) (by omega) n h2 q1.rb q1.rv O23
  have cat0 : key.size + data.size ≤ 9223372036854775807 := by omega
  rcases rest with ⟨hc, rfl, rfl, rfl, rfl⟩ | ⟨cls, hc, p⟩
  · have cz : clsZ (n : Nat) s'.cls = -1 := by unfold clsZ; rw [hn, hc]
    rw [cz] at E3
    simp [q0, q1', q2, q3, l0, wn, E3]
    exact ⟨q1, S2.snoc (Keep.refl _ _ _) (v := .nils) (o := .vec 1 0 []) (Mine.nil 1 _) (fun d hd => by cases hd), R1⟩
  have cz : clsZ (n : Nat) s1.cls = (cls : Nat) := by unfold clsZ; rw [hn, hc]
  rw [cz] at E3
  simp [q0, q1', q2, q3, l0, wn, E3, isLe (show (0 : Int) ≤ (cls : Int) by omega)]
  refine W_loop (RPInv P Q h b key data pin cls w er L' s' (q.th b L)) L1.length (by omega) ?_ ?_
  · unfold RPInv
    exact ⟨L1, s1, [], w, q1, .nils, rfl, p, rfl, nd1, I1, R1, by omega, by simp; omega, by simp [q0], by simp [q1'], by simp [q2], by simp [q3], by simp, by simp, S2.snoc (Keep.refl _ _ _) (v := .nils) (o := .vec 1 0 []) (Mine.nil 1 _) (fun d hd => by cases hd)⟩
  clear pr q0 q1' q2 q3 S2 R1 E3 l0 O22 O23 alt E1 f1 f2 D nd1 I1 l1len p hc cz
  rintro m ⟨t, h3⟩ hI
  unfold RPInv at hI
  obtain ⟨L1, s1, w1, w2, q1, wv, rfl, p, rfl, nd1, I1, R1, hl1, hw1, q0, q1', q2, q3, q11, q12, S3⟩ := hI
  simp only at q0 q1' q2 q3 q11 q12 S3
  have OA := S3.a
  obtain ⟨O32, O33⟩ := rst_hold OA
  obtain ⟨l0, l1⟩ := r2_ld O32
  have Mw : Mine 1 w1.length h3 wv (w1.map AV.str) := S3.b.get (i := 0) (v := wv) (o := .vec 1 w1.length (w1.map AV.str)) rfl
  -- an Alloc, and its handle in a new block
  have alloc : ∀ {a c e : Nat} {s2 : Sb}, AllocP s1 (key ++ data) a c e s2 → ∃ h4 r4 h5, acall Try.prog (k + 4) 43 [.ptr q1.rb 0, .str (key ++ data)] h3 = some (.tup [.agg [.int .i64 (a : Nat), .int .i64 (c : Nat)], .int .i64 (e : Nat)], h4) ∧ RelS s2 r4 ∧
      alay (h4.new (.cells [.int .i64 0, .int .i64 0] false)) h4.next 0 [.int .i64 (a : Nat), .int .i64 (c : Nat)] = some h5 ∧ h5 = h4.new (.cells [.int .i64 (a : Nat), .int .i64 (c : Nat)] false) ∧ Stp h (q.th b L) h5 ((Rst.mk q1.rb r4 q1.rv q1.lv).th b L1 ++ [(wv, .vec 1 w1.length (w1.map AV.str))]) := by
    intro a c e s2 A
    obtain ⟨h4, r4, E4, T4, R4⟩ := r_alloc I1 A R1 (k + 2) (by omega) h3 q1.rb q1.rv O33
    have S4 : Stp h (q.th b L) h4 ((Rst.mk q1.rb r4 q1.rv q1.lv).th b L1 ++ [(wv, .vec 1 w1.length (w1.map AV.str))]) := S3.op ((Stp.refl OA).opB T4)
    exact ⟨h4, r4, _, E4, R4, alay_new rfl, rfl, S4.ext (Keep.new (Nat.le_refl _) _)⟩
  have rwh : ∀ a c : Nat, (AV.agg [.int .i64 (a : Nat), .int .i64 (c : Nat)]).row1 = some [.int .i64 (a : Nat), .int .i64 (c : Nat)] := fun _ _ => rfl
  rcases p.inv with ⟨ci, K, i, A, rfl, rfl, rfl⟩ | rest6
  · obtain ⟨h4, r4, h5, E4, R4, a5, e5, S5⟩ := alloc A
    obtain ⟨hb, hhb⟩ : ∃ hb, h4.next = hb := ⟨_, rfl⟩
    have hlt : hb < h5.next := by rw [e5, ← hhb]; exact Nat.lt_succ_self _
    have hg : h5.get hb = some (.cells [.int .i64 (ci : Nat), .int .i64 (K : Nat)] false) := by rw [e5, ← hhb]; exact get_new_self _ _
    rw [hhb] at a5
    have lh : aload Try.prog h5 58 hb 0 = some (.agg [.int .i64 (ci : Nat), .int .i64 (K : Nat)]) := by simp [aload, Heap.row, hg, ta58, ts58]
    obtain ⟨O52, O53⟩ := rst_hold S5.a
    have M5 := r2_lv O52
    obtain ⟨w6, h6, a6, M6, F6, K6, Ag6⟩ := front_ok M5 ⟨key, data, ci, K, pin, i⟩ (by omega)
    obtain ⟨h7, a7, T7⟩ := r2_lv' O52 M6 F6 K6
    have S7 : Stp h (q.th b L) h7 ((Rst.mk q1.rb r4 q1.rv w6).th b (⟨key, data, ci, K, pin, i⟩ :: L1) ++ [(wv, .vec 1 w1.length (w1.map AV.str))]) := S5.op ((Stp.refl S5.a).op T7)
    have Kn : Keep h5.next nob h5 (h5.new (.cells (rC ⟨key, data, ci, K, pin, i⟩) false)) := Keep.new (Nat.le_refl _) _
    obtain ⟨hn2, en⟩ : ∃ hn2, h5.new (.cells (rC ⟨key, data, ci, K, pin, i⟩) false) = hn2 := ⟨_, rfl⟩
    rw [en] at Kn a6
    have en' : h5.new (.cells [.str key, .int .i64 (ci : Nat), .int .i64 (K : Nat), .bool pin] false) = hn2 := en
    have ln : ∀ {ty : TypeId}, tagg Try.prog ty = some false → aload Try.prog hn2 ty b 1 = some q1.lv := (r2_ld (O52.ext Kn)).2
    have agn : Agree h5.next h5 hn2 := fun c hc => Kn.2 c hc id
    have bg := (r2_blk O52).2
    have row := row1_one M6.oneV
    have sl := M5.sl.same
    have rwi : (AV.agg [.str key, .int .i64 (ci : Nat), .int .i64 (K : Nat), .bool pin]).row1 = some [.str key, .int .i64 (ci : Nat), .int .i64 (K : Nat), .bool pin] := rfl
    rw [List.append_nil] at *
    simp [q0, q1', q2, q3, q11, q12, l0, cat0, E4, hhb, rwh, a5]
    refine W_split 10 h5.next (by rfl) (by kernel_rfl) (by rfl) ?_
    dsimp only [List.take, List.drop]
    simp [obl, mayEff, mayRead, sameAV, sameAVs, hlt, bg, q0, q1', q3, q12, lh, rwh, rwi, aalloc, afill, en', agn, ln, sl, a6, row, a7]
    exact ⟨_, S7, R4⟩
  · obtain ⟨a, c, A6⟩ : ∃ a c, AllocP s1 (key ++ data) a c 6 s1 := by
      rcases rest6 with ⟨a, c, A, _⟩ | ⟨_, _, _, s2, a, c, _, _, A, _⟩
      · exact ⟨a, c, A⟩
      · exact ⟨a, c, A⟩
    obtain ⟨h4, r4, h5, E4, R4, a5, e5, S5⟩ := alloc A6
    obtain ⟨hb, hhb⟩ : ∃ hb, h4.next = hb := ⟨_, rfl⟩
    rw [hhb] at a5
    obtain ⟨O52, O53⟩ := rst_hold S5.a
    obtain ⟨_, l51⟩ := r2_ld O52
    have M5 := r2_lv O52
    have lm := M5.sl.len'
    simp only at M5 lm l51
    simp [q0, q1', q2, q3, q11, q12, l0, cat0, E4, hhb, rwh, a5]
    refine W_cutLoop 2 (fun st => ∃ o : Option Nat, Scan L1 cls L1.length o ∧
      st.t.get 0 = some (.ptr b 0) ∧ st.t.get 1 = some (.str key) ∧ st.t.get 2 = some (.str data) ∧ st.t.get 3 = some (.bool pin) ∧ st.t.get 11 = some (.int .i64 (cls : Nat)) ∧ st.t.get 12 = some wv ∧ st.t.get 15 = some (.int .i64 (encO o)) ∧ st.h = h5) ?_ ?_
    · refine W_loop (fun m st => ∃ (j : Nat) (o : Option Nat), m = L1.length - j ∧ j ≤ L1.length ∧ Scan L1 cls j o ∧
        st.t.get 0 = some (.ptr b 0) ∧ st.t.get 1 = some (.str key) ∧ st.t.get 2 = some (.str data) ∧ st.t.get 3 = some (.bool pin) ∧ st.t.get 11 = some (.int .i64 (cls : Nat)) ∧ st.t.get 12 = some wv ∧ st.t.get 15 = some (.int .i64 (encO o)) ∧ st.t.get 16 = some (.int .i64 (j : Nat)) ∧ st.h = h5) L1.length (by omega)
        ⟨0, none, rfl, Nat.zero_le _, Scan.zero, by simp [q0], by simp [q1'], by simp [q2], by simp [q3], by simp [q11], by simp [q12], by simp [encO], by simp, rfl⟩ ?_
      clear q0 q1' q2 q3 q11 q12
      rintro m ⟨t, h6⟩ ⟨j, o, rfl, hj, ho, q0, q1', q2, q3, q11, q12, q15, q16, e6⟩
      simp only at q0 q1' q2 q3 q11 q12 q15 q16 e6
      subst e6
      by_cases hlt : j < L1.length
      case neg =>
        obtain rfl : j = L1.length := by omega
        simp [q0, q1', q2, q3, q11, q12, q15, q16, l51, lm]
        exact ⟨o, ho, rfl⟩
      obtain ⟨v, hv⟩ : ∃ v, L1[j]? = some v := ⟨_, List.getElem?_eq_getElem hlt⟩
      have ix := rC_idx M5 hlt
      have cd := rC_ld M5 hv (o := 1) (x := .int .i64 (v.ci : Nat)) (by omega) rfl (ty := 3) ta3
      have pd := rC_ld M5 hv (o := 3) (x := .bool v.pin) (by omega) rfl (ty := 4) ta4
      have w16 := i64w ((j : Int) + 1) (by omega) (by omega)
      by_cases hc : v.ci = cls
      · cases hp : v.pin with
        | true =>
          rw [hp] at pd
          have st := ho.stay hv (by simp [hp])
          simp [q0, q1', q2, q3, q11, q12, q15, q16, l51, lm, isLt (show (j : Int) < (L1.length : Int) by omega), ix, cd, hc, pd, w16]
          refine ⟨L1.length - (j + 1), by omega, j + 1, rfl, by omega, o, st, rfl, by simp⟩
        | false =>
          rw [hp] at pd
          have st := Scan.take hv hp hc
          simp [q0, q1', q2, q3, q11, q12, q15, q16, l51, lm, isLt (show (j : Int) < (L1.length : Int) by omega), ix, cd, hc, pd, w16]
          refine ⟨L1.length - (j + 1), by omega, j + 1, rfl, by omega, some j, st, rfl, by simp⟩
      · have st := ho.stay hv (fun q => hc q.2)
        simp [q0, q1', q2, q3, q11, q12, q15, q16, l51, lm, isLt (show (j : Int) < (L1.length : Int) by omega), ix, cd, hc, (show ¬ ((v.ci : Nat) : Int) = (cls : Int) by omega), w16]
        refine ⟨L1.length - (j + 1), by omega, j + 1, rfl, by omega, o, st, rfl, by simp⟩
    clear q0 q1' q2 q3 q11 q12
    rintro ⟨t, h6⟩ ⟨o, ho, q0, q1', q2, q3, q11, q12, q15, e6⟩
    simp only at q0 q1' q2 q3 q11 q12 q15 e6
    subst e6
    rcases rest6 with ⟨_, _, _, hold, rfl, rfl, rfl, rfl⟩ | ⟨A, B, y, s2, _, _, w3, hL, _, hold, hf, rfl, p2⟩
    · rcases ho with ⟨rfl, _⟩ | ⟨pp, v, rfl, z1, z2, z3, _⟩
      · simp [q12, q15, encO]
        exact ⟨_, S5, R4⟩
      · exact absurd hold (oldI_ex (List.mem_of_getElem? z1) z2 z3)
    · rcases ho with ⟨_, z⟩ | ⟨pp, v, rfl, z1, z2, z3, z4⟩
      · obtain ⟨m1, m2⟩ := oldI_at hold
        obtain ⟨i, hi⟩ := List.getElem?_of_mem m1
        exact absurd m2 (z i y (List.getElem?_eq_some_iff.1 hi).1 hi)
      have hov := old_last z1 z2 z3 (fun i w hi hw => z4 i w hi (List.getElem?_eq_some_iff.1 hw).1 hw)
      rw [hold] at hov
      obtain rfl := Option.some.inj hov
      obtain ⟨sp1, sp2, sp3⟩ := split_at hL
      obtain rfl : pp = A.length := same_idx nd1 (key := y.key) (by rw [List.getElem?_map, z1]; rfl) (by rw [List.getElem?_map, sp1]; rfl)
      have ix := rC_idx M5 sp2
      have ld := rC_ld M5 z1 (o := 0) (x := .str y.key) (by omega) rfl (ty := 9) ta9
      rw [Nat.add_zero] at ld
      have lA : A.length < L1.length := sp2
      have M50 : Mine 1 w1.length h6 wv (w1.map AV.str) := S5.b.get (i := 0) (v := wv) (o := .vec 1 w1.length (w1.map AV.str)) rfl
      obtain ⟨wv', h7, a7, M7, F7, K7⟩ := M50.push (P := Try.prog) el26 (a := [AV.str y.key]) (ex := true) rfl rfl (by omega)
      have M7' : Mine 1 (w1 ++ [y.key]).length h7 wv' ((w1 ++ [y.key]).map AV.str) := by simpa using M7
      have T7 := (Stp.refl S5.b).upd (i := 0) (v := wv) (o := .vec 1 w1.length (w1.map AV.str)) rfl K7 (v' := wv') (o' := .vec 1 (w1 ++ [y.key]).length ((w1 ++ [y.key]).map AV.str)) M7' F7
      have S7 : Stp h (q.th b L) h7 ((Rst.mk q1.rb r4 q1.rv q1.lv).th b L1 ++ [(wv', .vec 1 (w1 ++ [y.key]).length ((w1 ++ [y.key]).map AV.str))]) := S5.opB T7
      have a7 : aappend Try.prog (h6.new (.cells [.str y.key] false)) 26 26 wv (.sl h6.next 0 1 1 1 true) = some (wv', h7) := a7
      obtain ⟨q2', h8, E8, S8, R8⟩ := rout_ok I1 R4 hL hf hl1 (k + 1) (by omega) S7.a
      have S9 := S7.op S8
      have oa : wv'.one = true := M7.oneV
      have nd2 : ((A ++ B).map (·.key)).Nodup := by
        rw [hL, List.map_append, List.map_cons] at nd1
        rw [List.map_append]
        exact (nodup_cut nd1).1
      have hlen : L1.length = A.length + (B.length + 1) := by rw [hL]; simp
      have hlen2 : (A ++ B).length = A.length + B.length := List.length_append
      simp [q0, q1', q2, q3, q11, q12, q15, encO, isLe (show (0 : Int) ≤ (A.length : Int) by omega), l51, ix, ld, aalloc, afill, a7, E8]
      refine ⟨(A ++ B).length, by omega, ?_⟩
      unfold RPInv
      exact ⟨A ++ B, s2, w1 ++ [y.key], w3, q2', wv', rfl, p2, by simp, nd2, hf.inv I1, R8, by omega, by rw [List.length_append, List.length_singleton]; omega, by simp [q0], by simp [q1'], by simp [q2], by simp [q3], by simp [q11], by simp, S9⟩
end
end Go.Proofs.Ytelnkdgpghndgaa
/- depotref5.NewStore, and both that are refused. -/
namespace Go.Proofs.Ytelnkdgpghndgaa
open Go Go.YtelnkdgpghndgaaAbs
set_option linter.unusedSimpArgs false
set_option linter.unusedVariables false
set_option maxRecDepth 4000

theorem rsnew_ok (k : Nat) (hk : 30 < k) (h : Heap) (P Q : Nat) (hP : 1 ≤ P) (hP2 : P ≤ 64) (hQ : 64 ≤ Q) (hQ2 : Q ≤ 65536) :
    ∃ (b : Nat) (q : Rst) (h' : Heap), acall Try.prog (k + 2) 19 [.int .i64 (P : Nat), .int .i64 (Q : Nat)] h = some (.tup [.ptr b 0, .int .i64 0], h') ∧ Wd h h' (q.th b []) ∧ (∃ cls, q.r = ⟨Q, P, cls⟩ ∧ FreshR cls ∧ 1 ≤ cls.length ∧ 64 * 2 ^ (cls.length - 1) ≤ Q ∧ Q < 64 * 2 ^ cls.length) := by
  obtain ⟨_, h1, E1, rb, cls, vc, rfl, W1, F, l1, l2, l3, l4⟩ := rnew_ok k hk h P Q hP hP2 hQ hQ2
  obtain ⟨h2, e2⟩ : ∃ h2, h1.new (.cells [.ptr rb 0, .nils] false) = h2 := ⟨_, rfl⟩
  have rwx : (AV.agg [.ptr rb 0, .nils]).row1 = some [.ptr rb 0, .nils] := rfl
  have kb := W1.kb.1
  have W2 := (W1.cons (Keep.refl _ _ _) (v := .nils) (o := .vec 4 0 []) (Mine.nil 4 _) (fun d hd => by cases hd)).cons (Keep.new (Nat.le_refl _) (.cells [.ptr rb 0, .nils] false)) (v := .ptr h1.next 0) (o := .blk [.ptr rb 0, .nils]) (hold_new h1 _) (fun d hd => by cases hd; exact Nat.le_refl _)
  refine ⟨h1.next, ⟨rb, ⟨Q, P, cls⟩, vc, .nils⟩, h1.new (.cells [.ptr rb 0, .nils] false), ?_, W2, cls, rfl, F, l1, l3, l4⟩
  rw [acall_text [] Try.func19 (by kernel_rfl)]
  refine afuncT_of rfl (by simp [Try.f19]) ?_
  simp [Try.f19, E1, rwx, aalloc, afill]
theorem both_no (k : Nat) (h : Heap) (P Q : Int) (hbad : P < 1 ∨ 64 < P ∨ Q < 64 ∨ 65536 < Q) : acall Try.prog (k + 2) 8 [.int .i64 P, .int .i64 Q] h = some (.tup [.nilp, .int .i64 1], h) ∧ acall Try.prog (k + 2) 19 [.int .i64 P, .int .i64 Q] h = some (.tup [.nilp, .int .i64 1], h) := by
  obtain ⟨E1, E2⟩ := new_no k h P Q hbad
  constructor
  · rw [acall_text [4] Try.func8 (by kernel_rfl)]
    refine afuncT_of rfl (by simp [Try.f8]) ?_
    simp [Try.f8, E1]
  · rw [acall_text [] Try.func19 (by kernel_rfl)]
    refine afuncT_of rfl (by simp [Try.f19]) ?_
    simp [Try.f19, E2]
end Go.Proofs.Ytelnkdgpghndgaa
