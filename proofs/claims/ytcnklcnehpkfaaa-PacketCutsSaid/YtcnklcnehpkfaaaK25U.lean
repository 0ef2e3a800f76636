/-
  A part of the walk: contracts of functions, each proved once.
-/
import Derived.Test.YtcnklcnehpkfaaaEvRun
import Derived.Test.YtcnklcnehpkfaaaK25T
namespace Go.Proofs.Ytcnklcnehpkfaaa
open Go Go.Ev
set_option linter.unusedVariables false
set_option linter.unusedSimpArgs false
set_option maxHeartbeats 1000000
set_option maxRecDepth 20000
namespace Sp
theorem bt_take {b : List Int} {n i : Nat} (h : i < n) : bt (b.take n) i = bt b i := by
  simp only [bt, List.getD, List.getElem?_take, if_pos h]
theorem cut_dT {p : Pkt} (h : chk p = 0) (hpl : p.pl = []) (hpd : p.pad = 0) {n : Nat} (hn : n < (enc p).length) : dT ((enc p).take n) = (p0, (n : Int), 6) := by
  have hc := chk_ok h
  have e0 : padz p.pad = [] := by rw [padz, if_neg (by omega)]
  have hp := h_parts h (p.pl ++ padz p.pad)
  have hlen : (head p ++ (b4s p.mx ++ (ext p ++ (p.pl ++ padz p.pad)))).length = 12 + 4 * p.mx.length + (ext p).length := by
    rw [hpl, e0]; simp only [List.length_append, b4s_len, head_len, List.length_nil]; omega
  have h64 : bt (head p ++ (b4s p.mx ++ (ext p ++ (p.pl ++ padz p.pad)))) 0 / 64 = 2 := (fst_a (p := p) (by omega)).1
  rw [enc_ok h, bytes_eq] at hn ⊢
  generalize hE : head p ++ (b4s p.mx ++ (ext p ++ (p.pl ++ padz p.pad))) = E at *
  obtain ⟨hM, hX, hS, hN, hA⟩ := hp
  have hl : (E.take n).length = n := by rw [List.length_take]; omega
  by_cases h0 : n = 0
  · subst h0; rw [dT_1 hl]; rfl
  have b0 : bt (E.take n) 0 = bt E 0 := bt_take (by omega)
  have hM' : dM (E.take n) = dM E := by simp only [dM, b0]
  have hX' : dX (E.take n) = dX E := by simp only [dX, b0]
  have hN' : dNd (E.take n) = dNd E := by simp only [dNd, hM', hX']
  by_cases h1 : n < dNd E
  · rw [dT_3 (by omega) (by rw [b0]; exact h64) (by omega), hl]
  have hS' : dSz (E.take n) = dSz E := by
    simp only [dSz, hX', hM']
    cases hx : dX E
    · rfl
    · have : dNd E = 16 + 4 * dM E := need_t hx
      simp only [v2]
      rw [bt_take (by omega), bt_take (by omega)]
  rw [dT_5 (by omega) (by rw [b0]; exact h64) (by omega) (by omega) (by rw [dA, hN', hS', ← dA]; omega), hl]
theorem bt_get {b : List Int} {i : Nat} (h : i < b.length) : b.take (i + 1) = b.take i ++ [bt b i] := take_succ_getD (d := 0) h
theorem b4_v4 {b : List Int} (hb : ∀ x ∈ b, 0 ≤ x ∧ x ≤ 255) {i : Nat} (h : i + 4 ≤ b.length) : b.take i ++ b4 (v4 b i) = b.take (i + 4) := by
  have h0 := bt_range hb i
  have h1 := bt_range hb (i + 1)
  have h2 := bt_range hb (i + 2)
  have h3 := bt_range hb (i + 3)
  rw [bt_get (i := i + 3) (by omega), bt_get (i := i + 2) (by omega), bt_get (i := i + 1) (by omega), bt_get (i := i) (by omega)]
  simp only [List.append_assoc, List.append_cancel_left_eq, b4, v4, List.cons_append, List.nil_append, List.cons.injEq, and_true]
  omega
theorem b2_v2 {b : List Int} (hb : ∀ x ∈ b, 0 ≤ x ∧ x ≤ 255) {i : Nat} (h : i + 2 ≤ b.length) : b.take i ++ b2 (v2 b i) = b.take (i + 2) := by
  have h0 := bt_range hb i
  have h1 := bt_range hb (i + 1)
  rw [bt_get (i := i + 1) (by omega), bt_get (i := i) (by omega)]
  simp only [List.append_assoc, List.append_cancel_left_eq, b2, v2, List.cons_append, List.nil_append, List.cons.injEq, and_true]
  omega
theorem b4s_mxl {b : List Int} (hb : ∀ x ∈ b, 0 ≤ x ∧ x ≤ 255) : ∀ j : Nat, 12 + 4 * j ≤ b.length → b.take 12 ++ b4s (mxl b j) = b.take (12 + 4 * j)
  | 0, _ => by simp [mxl, b4s]
  | j + 1, h => by
    have ih := b4s_mxl hb j (by omega)
    rw [← mxl_s, b4s_app, ← List.append_assoc, ih, show 12 + 4 * (j + 1) = 12 + 4 * j + 4 by omega, ← b4_v4 hb (by omega)]
    congr 1
theorem dec_inv {b : List Int} (h : (dT b).2.2 = 0) : ¬ b.length = 0 ∧ bt b 0 / 64 = 2 ∧ dNd b ≤ b.length ∧ dSz b ≤ 1020 ∧ dA b ≤ b.length ∧ ¬ (dG b = true ∧ pd (rest b) = 0) ∧ (pay b).length ≤ 1500 ∧ dT b = (pk b, 0, 0) := by
  simp only [dT] at h ⊢
  by_cases h1 : b.length = 0
  · rw [if_pos h1] at h; cases h
  rw [if_neg h1] at h ⊢
  by_cases h2 : ¬ bt b 0 / 64 = 2
  · rw [if_pos h2] at h; cases h
  rw [if_neg h2] at h ⊢
  by_cases h3 : b.length < dNd b
  · rw [if_pos h3] at h; cases h
  rw [if_neg h3] at h ⊢
  by_cases h4 : 1020 < dSz b
  · rw [if_pos h4] at h; cases h
  rw [if_neg h4] at h ⊢
  by_cases h5 : b.length < dA b
  · rw [if_pos h5] at h; cases h
  rw [if_neg h5] at h ⊢
  by_cases h6 : dG b = true ∧ pd (rest b) = 0
  · rw [if_pos h6] at h; cases h
  rw [if_neg h6] at h ⊢
  by_cases h7 : 1500 < (pay b).length
  · rw [if_pos h7] at h; cases h
  rw [if_neg h7]
  exact ⟨h1, by omega, by omega, by omega, by omega, h6, by omega, rfl⟩
theorem dP_rng {b : List Int} (hb : ∀ x ∈ b, 0 ≤ x ∧ x ≤ 255) : 0 ≤ dP b ∧ dP b ≤ 255 ∧ dP b ≤ ((rest b).length : Int) := by
  have := pd_rng (rest_in hb)
  simp only [dP]; split <;> omega
theorem back2 {b : List Int} (hb : ∀ x ∈ b, 0 ≤ x ∧ x ≤ 255) (h : (dT b).2.2 = 0) : chk (pk b) = 0 ∧ enc (pk b) = b := by
  obtain ⟨h1, h2, h3, h4, h5, h6, h7, _⟩ := dec_inv h
  have hM := dM_rng hb
  have hM15 := dM_le b
  have hP := dP_rng hb
  have hr0 := bt_range hb 0
  have hr1 := bt_range hb 1
  have hR := rest_len b
  have hxl : ((b.take (dA b)).drop (dNd b)).length = dSz b := xt_len h5
  have hml := mxl_len b (dM b)
  have hN12 : 12 + 4 * dM b ≤ dNd b := by rw [dNd]; omega
  have hs4 : (dSz b : Int) % 4 = 0 := by
    simp only [dSz]; split <;> omega
  have hc : chk (pk b) = 0 := by
    refine chk0 ?_ ?_ ?_
    · show ¬ (127 < bt b 1 % 128 ∨ dP b < 0 ∨ 255 < dP b); omega
    · show ¬ ((dX b = false ∧ (¬ (if dX b = true then v2 b (12 + 4 * dM b) else 0) = 0 ∨ 0 < ((b.take (dA b)).drop (dNd b)).length)) ∨ ¬ ((((b.take (dA b)).drop (dNd b)).length : Nat) : Int) % 4 = 0)
      rw [hxl]
      rintro (⟨a, c⟩ | c)
      · rw [if_neg (by simp [a])] at c
        have := sz_f a
        omega
      · omega
    · show ¬ (15 < (mxl b (dM b)).length ∨ 1020 < ((b.take (dA b)).drop (dNd b)).length ∨ 1500 < (pay b).length)
      rw [hxl, hml]; omega
  refine ⟨hc, ?_⟩
  rw [enc_ok hc, bytes_eq]
  have hg : (0 < dP b) ↔ bt b 0 / 32 % 2 = 1 := by
    by_cases g : bt b 0 / 32 % 2 = 1
    · have g' := dG_t g
      have e := dP_t g'
      refine ⟨fun _ => g, fun _ => ?_⟩
      by_cases z : pd (rest b) = 0
      · exact absurd ⟨g', z⟩ h6
      · omega
    · have e := dP_f (dG_f g)
      refine ⟨fun x => by omega, fun x => absurd x g⟩
  have hx : dX b = true ↔ bt b 0 / 16 % 2 = 1 := by simp [dX]
  have hfst : fst (pk b) = bt b 0 := by
    show 128 + (if 0 < dP b then 32 else 0) + (if dX b = true then 16 else 0) + ((mxl b (dM b)).length : Int) = _
    rw [hml, hM]
    by_cases a : bt b 0 / 32 % 2 = 1 <;> by_cases c : bt b 0 / 16 % 2 = 1
    · rw [if_pos (hg.2 a), if_pos (hx.2 c)]; omega
    · rw [if_pos (hg.2 a), if_neg (fun x => c (hx.1 x))]; omega
    · rw [if_neg (fun x => a (hg.1 x)), if_pos (hx.2 c)]; omega
    · rw [if_neg (fun x => a (hg.1 x)), if_neg (fun x => c (hx.1 x))]; omega
  have hsnd : snd (pk b) = bt b 1 := by
    show (if decide (127 < bt b 1) = true then 128 else 0) + bt b 1 % 128 = _
    by_cases a : 127 < bt b 1
    · rw [if_pos (by simp [a])]; omega
    · rw [if_neg (by simp [a])]; omega
  have hhead : head (pk b) = b.take 12 := by
    rw [head, hfst, hsnd]
    show bt b 0 :: bt b 1 :: (b2 (v2 b 2) ++ (b4 (v4 b 4) ++ b4 (v4 b 8))) = _
    have t2 : b.take 2 = [bt b 0, bt b 1] := by
      rw [bt_get (i := 1) (by omega), bt_get (i := 0) (by omega)]; rfl
    have e1 := b2_v2 hb (i := 2) (by omega)
    have e2 := b4_v4 hb (i := 4) (by omega)
    have e3 := b4_v4 hb (i := 8) (by omega)
    rw [← e3, ← e2, ← e1, t2]; simp
  have hmid : head (pk b) ++ (b4s (pk b).mx ++ (ext (pk b))) = b.take (dA b) := by
    rw [hhead, ← List.append_assoc]
    show (b.take 12 ++ b4s (mxl b (dM b))) ++ _ = _
    rw [b4s_mxl hb (dM b) (by omega)]
    cases hxx : dX b
    · rw [ext_f (p := pk b) hxx, List.append_nil, (dA_f hxx).1]
    · have ha := dA_t hxx
      rw [ext, if_pos (show (pk b).ex = true from hxx)]
      show b.take (12 + 4 * dM b) ++ (b2 (if dX b = true then v2 b (12 + 4 * dM b) else 0) ++ (b2 ((((b.take (dA b)).drop (dNd b)).length : Int) / 4) ++ (b.take (dA b)).drop (dNd b))) = _
      have hv := v2_rng hb (12 + 4 * dM b + 2)
      rw [hxl, if_pos hxx, ← List.append_assoc, b2_v2 hb (by omega), ← List.append_assoc, show (dSz b : Int) / 4 = v2 b (12 + 4 * dM b + 2) from by omega, b2_v2 hb (by omega), show 12 + 4 * dM b + 2 + 2 = dNd b from by omega]
      have : b.take (dNd b) = (b.take (dA b)).take (dNd b) := by rw [List.take_take, Nat.min_eq_left (by omega)]
      rw [this, List.take_append_drop]
  have hpay : b.take (dA b) ++ pay b = b.take (b.length - (dP b).toNat) := by
    rw [pay, rest, ← List.take_add]; congr 1; rw [← rest]; omega
  show head (pk b) ++ (b4s (pk b).mx ++ (ext (pk b) ++ (pay b ++ padz (dP b)))) = b
  rw [show head (pk b) ++ (b4s (pk b).mx ++ (ext (pk b) ++ (pay b ++ padz (dP b)))) = ((head (pk b) ++ (b4s (pk b).mx ++ ext (pk b))) ++ pay b) ++ padz (dP b) from by simp only [List.append_assoc], hmid, hpay]
  by_cases hp0 : 0 < dP b
  · have g := dG_t (hg.1 hp0)
    have e := dP_t g
    have hl0 := lst_rng (rest_in hb)
    have hpd : pd (rest b) = lst (rest b) ∧ ¬ lst (rest b) = 0 ∧ lst (rest b) ≤ ((rest b).length : Int) ∧ pend (rest b) = (rest b).length - 1 := by
      by_cases hq : (rest b).length = 0 ∨ lst (rest b) = 0 ∨ ((rest b).length : Int) < lst (rest b) ∨ ¬ pend (rest b) = (rest b).length - 1
      · rw [e, pd, if_pos hq] at hp0; omega
      · rw [pd, if_neg hq]; refine ⟨rfl, by omega, by omega, by omega⟩
    obtain ⟨q1, q2, q3, q4⟩ := hpd
    have hz := nz_zero (b := rest b) (k := (lst (rest b)).toNat - 1) (i := (rest b).length - (lst (rest b)).toNat) (by rw [pend] at q4; omega)
    have hlast : bt b (b.length - 1) = dP b := by
      rw [e, q1, lst, rest, bt_drop, ← rest]; congr 1; omega
    have hd : b.drop (b.length - (dP b).toNat) = padz (dP b) := by
      rw [padz, if_pos hp0]
      apply List.ext_getElem
      · simp; omega
      · intro i i1 i2
        simp only [List.length_drop] at i1
        have e3 : (b.drop (b.length - (dP b).toNat))[i] = bt b (b.length - (dP b).toNat + i) := by
          simp [bt, List.getD, show b.length - (dP b).toNat + i < b.length from by omega]
        rw [e3]
        by_cases hi : i < (dP b - 1).toNat
        · rw [List.getElem_append_left (by simp; omega), List.getElem_replicate]
          have := hz i (by omega)
          rw [rest, bt_drop, ← rest] at this
          rw [← this]; congr 1; omega
        · rw [List.getElem_append_right (by simp; omega)]
          simp only [List.length_replicate, List.getElem_singleton]
          rw [← hlast]; congr 1; omega
    rw [← hd, List.take_append_drop]
  · rw [padz, if_neg hp0, List.append_nil, show b.length - (dP b).toNat = b.length from by omega, List.take_length]
end Sp

end Go.Proofs.Ytcnklcnehpkfaaa
