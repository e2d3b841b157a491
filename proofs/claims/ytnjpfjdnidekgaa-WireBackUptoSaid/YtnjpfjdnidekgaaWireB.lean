/- A frame comes back from its bytes. -/
import Derived.Test.YtnjpfjdnidekgaaWireL
namespace Go.Proofs.Ytnjpfjdnidekgaa
open Go Go.YtnjpfjdnidekgaaAbs
set_option linter.unusedSimpArgs false
set_option linter.unusedVariables false
set_option maxRecDepth 4000

theorem rdNum_pack {l : List UInt8} {p : Nat} {e : Int} (h : (rdNum l p e).2.2 = 0) : l.drop p = packN (rdNum l p e).1 ++ l.drop (rdNum l p e).2.1 := by
  have he := rdNum_was h
  subst he
  unfold rdNum at h ⊢
  rw [if_pos rfl] at h ⊢
  cases hr : rdN 0 0 (l.drop p) with
  | inl e' =>
    rw [hr] at h
    rcases rdN_err _ _ _ _ hr with q | q <;> (simp only at h; omega)
  | inr uc =>
    obtain ⟨U, c⟩ := uc
    obtain ⟨q1, q2, _⟩ := rdN_pack hr
    simp only
    rw [q1, ← List.drop_drop, List.take_append_drop]
theorem rdText_pack {l : List UInt8} {most : Int} {p : Nat} {e : Int} (h : (rdText l most p e).2.2 = 0) :
    e = 0 ∧ l.drop p = packN ((rdText l most p e).1.length : Nat) ++ (rdText l most p e).1 ++ l.drop (rdText l most p e).2.1 := by
  unfold rdText at h ⊢
  split at h
  · rename_i q; exact absurd h q
  · rename_i q
    have q : (rdNum l p e).2.2 = 0 := Decidable.not_not.1 q
    have w := rdNum_pack q
    split at h
    · simp at h
    · rename_i q2
      split at h
      · simp at h
      · rename_i q3
        refine ⟨rdNum_was q, ?_⟩
        rw [if_neg (fun z => z q), if_neg q2, if_neg q3]
        have hl : ((l.drop (rdNum l p e).2.1).take (rdNum l p e).1.toNat).length = (rdNum l p e).1.toNat := by
          rw [List.length_take, List.length_drop]
          omega
        simp only [hl]
        have e1 : (((rdNum l p e).1.toNat : Nat) : Int) = (rdNum l p e).1 := by omega
        rw [e1, w, List.append_assoc, ← List.drop_drop, List.take_append_drop]
theorem rdNs_pack {l : List UInt8} : ∀ n, (rdNs l n).2.2 = 0 → l = encN (rdNs l n).1 ++ l.drop (rdNs l n).2.1
  | 0, _ => by simp [rdNs, encN]
  | n + 1, h => by
    have h : (rdNum l (rdNs l n).2.1 (rdNs l n).2.2).2.2 = 0 := h
    have ih := rdNs_pack n (rdNum_was h)
    have w := rdNum_pack h
    show l = encN ((rdNs l n).1 ++ [_]) ++ l.drop (rdNum l (rdNs l n).2.1 (rdNs l n).2.2).2.1
    rw [encN_snoc, List.append_assoc, ← w]
    exact ih
/-- What is taken as a frame has these bytes. -/
theorem get_put {l : List UInt8} (h : (getR l).2 = 0) : (getR l).1.put = l := by
  unfold getR at h ⊢
  by_cases he : rdEnd l (getF l).2.1 (getF l).2.2 = 0
  rotate_left
  · rw [if_neg he] at h
    exact absurd h he
  rw [if_pos he] at h ⊢
  by_cases hR : (getF l).1.R
  rotate_left
  · rw [if_neg hR] at h
    exact absurd h (by simp)
  rw [if_pos hR]
  show (getF l).1.put = l
  unfold Fr.put
  rw [if_pos hR]
  have e0 : (getF l).2.2 = 0 ∧ l.drop (getF l).2.1 = [] := by
    unfold rdEnd at he
    split at he
    · simp at he
    · rename_i q
      refine ⟨he, List.drop_of_length_le ?_⟩
      have := fun z => q ⟨he, z⟩
      omega
  obtain ⟨z1, z2⟩ := e0
  obtain ⟨a0, a1, a2, a3, a4, a5, hx⟩ := six (rdNs_len l 6)
  have w4 := rdText_pack z1
  have w3 := rdNum_pack w4.1
  have w2 := rdText_pack (rdNum_was w4.1)
  have w1 := rdNs_pack 6 w2.1
  have ens : (getF l).1.ns = (rdNs l 6).1 := by
    unfold getF mkF Fr.ns
    rw [hx]
    rfl
  unfold Fr.enc
  rw [ens]
  have k1 : packT (getF l).1.key = packN ((rdText l 250 (rdNs l 6).2.1 (rdNs l 6).2.2).1.length : Nat) ++ (rdText l 250 (rdNs l 6).2.1 (rdNs l 6).2.2).1 := rfl
  have k2 : packT (getF l).1.data = packN ((rdText l 1049600 (rdNum l (rdText l 250 (rdNs l 6).2.1 (rdNs l 6).2.2).2.1 (rdText l 250 (rdNs l 6).2.1 (rdNs l 6).2.2).2.2).2.1 (rdNum l (rdText l 250 (rdNs l 6).2.1 (rdNs l 6).2.2).2.1 (rdText l 250 (rdNs l 6).2.1 (rdNs l 6).2.2).2.2).2.2).1.length : Nat) ++ (rdText l 1049600 (rdNum l (rdText l 250 (rdNs l 6).2.1 (rdNs l 6).2.2).2.1 (rdText l 250 (rdNs l 6).2.1 (rdNs l 6).2.2).2.2).2.1 (rdNum l (rdText l 250 (rdNs l 6).2.1 (rdNs l 6).2.2).2.1 (rdText l 250 (rdNs l 6).2.1 (rdNs l 6).2.2).2.2).2.2).1 := rfl
  have k3 : (getF l).1.ver = (rdNum l (rdText l 250 (rdNs l 6).2.1 (rdNs l 6).2.2).2.1 (rdText l 250 (rdNs l 6).2.1 (rdNs l 6).2.2).2.2).1 := rfl
  have w4 := w4.2
  have w2 := w2.2
  have z2 : l.drop (rdText l 1049600 (rdNum l (rdText l 250 (rdNs l 6).2.1 (rdNs l 6).2.2).2.1 (rdText l 250 (rdNs l 6).2.1 (rdNs l 6).2.2).2.2).2.1 (rdNum l (rdText l 250 (rdNs l 6).2.1 (rdNs l 6).2.2).2.1 (rdText l 250 (rdNs l 6).2.1 (rdNs l 6).2.2).2.2).2.2).2.1 = [] := z2
  rw [k1, k2, k3]
  rw [z2, List.append_nil] at w4
  rw [w4] at w3
  rw [w3] at w2
  rw [w2] at w1
  rw [List.append_assoc, List.append_assoc]
  simp only [List.append_assoc] at w1 ⊢
  exact w1.symm
/-- A right frame comes back, whatever stands behind it. -/
theorem rdNs_app {ns : List Int} (hr : ∀ x, x ∈ ns → -9223372036854775808 ≤ x ∧ x ≤ 9223372036854775807) {l rest : List UInt8} (h : l = encN ns ++ rest) : ∀ n, n ≤ ns.length → rdNs l n = (ns.take n, (encN (ns.take n)).length, 0)
  | 0, _ => by simp [rdNs, encN]
  | n + 1, hn => by
    have ih := rdNs_app hr h n (by omega)
    obtain ⟨x, hx⟩ : ∃ x, ns[n]? = some x := ⟨ns[n], by simp⟩
    have e1 : ns.take (n + 1) = ns.take n ++ [x] := by rw [List.take_add_one, hx]; rfl
    have e2 : ns = ns.take n ++ [x] ++ ns.drop (n + 1) := by rw [← e1, List.take_append_drop]
    have e3 : l.drop (encN (ns.take n)).length = packN x ++ (encN (ns.drop (n + 1)) ++ rest) := by
      have : l = encN (ns.take n) ++ (packN x ++ (encN (ns.drop (n + 1)) ++ rest)) := by
        rw [h]
        conv => lhs; rw [e2]
        simp [encN]
      conv => lhs; rw [this]
      exact List.drop_left
    have hxr := hr x (List.mem_of_getElem? hx)
    have := rdNum_app hxr.1 hxr.2 e3
    unfold rdNs
    rw [ih]
    simp only
    rw [this, e1, encN_snoc, List.length_append]
theorem getF_app {f : Fr} (hR : f.R) (rest : List UInt8) : getF (f.enc ++ rest) = (f, f.enc.length, 0) := by
  obtain ⟨l, hl⟩ : ∃ l, l = f.enc ++ rest := ⟨_, rfl⟩
  rw [← hl]
  have rng := Fr.R_rng hR
  obtain ⟨_, _, _, hn, hk, hd⟩ := hR
  unfold Fr.nums at hn
  have hl1 : l = encN f.ns ++ (packT f.key ++ (packN f.ver ++ (packT f.data ++ rest))) := by
    rw [hl]; unfold Fr.enc; simp only [List.append_assoc]
  have r1 := rdNs_app rng hl1 6 (Nat.le_refl _)
  have t6 : f.ns.take 6 = f.ns := rfl
  rw [t6] at r1
  have d1 : l.drop (encN f.ns).length = packT f.key ++ (packN f.ver ++ (packT f.data ++ rest)) := by rw [hl1]; exact List.drop_left
  have e2 : l.drop (encN f.ns).length = (packN ((sb f.key).length : Nat) ++ sb f.key) ++ (packN f.ver ++ (packT f.data ++ rest)) := by rw [d1]; unfold packT; rw [sb_len]
  have r2 := rdText_app (most := 250) (by rw [sb_len]; omega) (by rw [sb_len]; omega) e2
  have d2 := drop_drop' e2
  have r3 := rdNum_app (by omega) (by omega) d2
  have d3 := drop_drop' d2
  have e4 : l.drop ((encN f.ns).length + (packN ((sb f.key).length : Nat) ++ sb f.key).length + (packN f.ver).length) = (packN ((sb f.data).length : Nat) ++ sb f.data) ++ rest := by rw [d3]; unfold packT; rw [sb_len]
  have r4 := rdText_app (most := 1049600) (by rw [sb_len]; omega) (by rw [sb_len]; omega) e4
  unfold getF
  rw [r1]
  simp only
  rw [r2]
  simp only
  rw [r3]
  simp only
  rw [r4]
  have en : f.enc.length = (encN f.ns).length + (packN ((sb f.key).length : Nat) ++ sb f.key).length + (packN f.ver).length + (packN ((sb f.data).length : Nat) ++ sb f.data).length := by
    unfold Fr.enc packT
    simp only [List.length_append, sb_len]
  rw [en]
  rfl
theorem getR_app {f : Fr} (hR : f.R) (rest : List UInt8) (h : rest ≠ []) : (getR (f.enc ++ rest)).2 ≠ 0 := by
  have e5 : rdEnd (f.enc ++ rest) f.enc.length 0 = 5 := by
    unfold rdEnd
    have := List.length_pos_iff.2 h
    rw [if_pos ⟨rfl, by rw [List.length_append]; omega⟩]
  unfold getR
  rw [getF_app hR rest]
  simp [e5]
theorem getR_enc {f : Fr} (hR : f.R) : getR f.enc = (f, 0) := by
  have := getF_app hR []
  rw [List.append_nil] at this
  unfold getR
  rw [this]
  unfold rdEnd
  simp [hR]
/-- From no beginning. -/
theorem getR_cut {f : Fr} (hR : f.R) {c : Nat} (hc : c < f.enc.length) : (getR (f.enc.take c)).2 ≠ 0 := by
  intro h
  have q := get_put h
  have hx : (getR (f.enc.take c)).1.R := by
    unfold getR at h ⊢
    split at h
    · split at h
      · rename_i q1 q2; rw [if_pos q1, if_pos q2]; exact q2
      · simp at h
    · rename_i q1; exact absurd h q1
  generalize (getR (f.enc.take c)).1 = x at *
  unfold Fr.put at q
  rw [if_pos hx] at q
  have := getR_app hx (f.enc.drop c) (fun z => by have := congrArg List.length z; rw [List.length_drop] at this; simp at this; omega)
  rw [q, List.take_append_drop, getR_enc hR] at this
  exact this rfl
theorem enc_inj {f g : Fr} (hf : f.R) (hg : g.R) : (f.enc = g.enc) ↔ (f = g) := by
  constructor
  · intro h
    have a := getR_enc hf
    have b := getR_enc hg
    rw [h, b] at a
    exact (Prod.mk.inj a).1.symm
  · intro h; rw [h]
end Go.Proofs.Ytnjpfjdnidekgaa
