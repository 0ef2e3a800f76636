/-
  A part of the walk: contracts of functions, each proved once.
-/
import Derived.Test.YtcnklcnehpkfaaaEvRun
import Derived.Test.YtcnklcnehpkfaaaK25S
namespace Go.Proofs.Ytcnklcnehpkfaaa
open Go Go.Ev
set_option linter.unusedVariables false
set_option linter.unusedSimpArgs false
set_option maxHeartbeats 1000000
set_option maxRecDepth 20000
namespace Sp
theorem bt_l {x y : List Int} {i : Nat} (h : i < x.length) : bt (x ++ y) i = bt x i := by
  simp only [bt, List.getD, List.getElem?_append_left h]
theorem bt_r {x y : List Int} {i : Nat} (j : Nat) (h : i = x.length + j) : bt (x ++ y) i = bt y j := by
  subst h
  simp only [bt, List.getD, List.getElem?_append_right (Nat.le_add_right x.length j), Nat.add_sub_cancel_left]
theorem v4_at {x z : List Int} {n : Int} {i : Nat} (hi : i = x.length) (hn : r32 n) : v4 (x ++ (b4 n ++ z)) i = n := by
  subst hi; simp only [r32] at hn
  simp only [v4]
  rw [bt_r (i := x.length) 0 rfl, bt_r 1 rfl, bt_r 2 rfl, bt_r 3 rfl]
  show n / 16777216 % 256 * 16777216 + n / 65536 % 256 * 65536 + n / 256 % 256 * 256 + n % 256 = n
  omega
theorem v2_at {x z : List Int} {n : Int} {i : Nat} (hi : i = x.length) (hn : 0 ≤ n ∧ n ≤ 65535) : v2 (x ++ (b2 n ++ z)) i = n := by
  subst hi
  simp only [v2]
  rw [bt_r (i := x.length) 0 rfl, bt_r 1 rfl]
  show n / 256 % 256 * 256 + n % 256 = n
  omega
theorem fst_a {p : Pkt} (h : p.mx.length ≤ 15) : fst p / 64 = 2 ∧ fst p % 16 = (p.mx.length : Int) ∧ (fst p / 16 % 2 = 1 ↔ p.ex = true) ∧ (fst p / 32 % 2 = 1 ↔ 0 < p.pad) := by
  simp only [fst]
  by_cases a : 0 < p.pad <;> cases b : p.ex <;> simp [a] <;> omega
theorem h_M {p : Pkt} (h : p.mx.length ≤ 15) (Z : List Int) : dM (head p ++ Z) = p.mx.length := by
  show (fst p % 16).toNat = _
  rw [(fst_a h).2.1]; rfl
theorem h_X {p : Pkt} (h : p.mx.length ≤ 15) (Z : List Int) : dX (head p ++ Z) = p.ex := by
  show decide (fst p / 16 % 2 = 1) = _
  have := (fst_a h).2.2.1
  cases hx : p.ex
  · rw [decide_eq_false_iff_not]; intro h2; rw [this.1 h2] at hx; cases hx
  · rw [decide_eq_true_eq]; exact this.2 hx
theorem h_G {p : Pkt} (h : p.mx.length ≤ 15) (Z : List Int) : dG (head p ++ Z) = decide (0 < p.pad) := by
  show decide (fst p / 32 % 2 = 1) = _
  rw [decide_eq_decide]; exact (fst_a h).2.2.2
theorem h_sq {p : Pkt} (hr : pok p) (Z : List Int) : v2 (head p ++ Z) 2 = p.sq := by
  have := hr.2.1
  show p.sq / 256 % 256 * 256 + p.sq % 256 = p.sq
  omega
theorem h_tm {p : Pkt} (hr : pok p) (Z : List Int) : v4 (head p ++ Z) 4 = p.tm := by
  have := hr.2.2.1
  simp only [r32] at this
  show p.tm / 16777216 % 256 * 16777216 + p.tm / 65536 % 256 * 65536 + p.tm / 256 % 256 * 256 + p.tm % 256 = p.tm
  omega
theorem h_sr {p : Pkt} (hr : pok p) (Z : List Int) : v4 (head p ++ Z) 8 = p.sr := by
  have := hr.2.2.2.1
  simp only [r32] at this
  show p.sr / 16777216 % 256 * 16777216 + p.sr / 65536 % 256 * 65536 + p.sr / 256 % 256 * 256 + p.sr % 256 = p.sr
  omega
theorem b4s_app (x y : List Int) : b4s (x ++ y) = b4s x ++ b4s y := by simp [b4s]
theorem h_mx {p : Pkt} (hr : pok p) (Y : List Int) {i : Nat} (hi : i < p.mx.length) : v4 (head p ++ (b4s p.mx ++ Y)) (12 + 4 * i) = p.mx.getD i 0 := by
  have hm := getD_in hr.2.2.2.2.1 (d := 0) (by omega) i
  have e : b4s p.mx = b4s (p.mx.take i) ++ (b4 (p.mx.getD i 0) ++ b4s (p.mx.drop (i + 1))) := by
    conv => lhs; rw [← List.take_append_drop i p.mx]
    rw [b4s_app]
    congr 1
    have : p.mx.drop i = p.mx.getD i 0 :: p.mx.drop (i + 1) := by
      rw [List.drop_eq_getElem_cons hi]; simp [List.getD, hi]
    rw [this]; rfl
  rw [e, show head p ++ ((b4s (p.mx.take i) ++ (b4 (p.mx.getD i 0) ++ b4s (p.mx.drop (i + 1)))) ++ Y) = (head p ++ b4s (p.mx.take i)) ++ (b4 (p.mx.getD i 0) ++ (b4s (p.mx.drop (i + 1)) ++ Y)) from by simp only [List.append_assoc]]
  refine v4_at ?_ hm
  rw [List.length_append, b4s_len, head_len, List.length_take]; omega
theorem h_mxl {p : Pkt} (hr : pok p) (Y : List Int) : mxl (head p ++ (b4s p.mx ++ Y)) p.mx.length = p.mx := by
  apply List.ext_getElem
  · rw [mxl_len]
  · intro i h1 h2
    simp only [mxl, List.getElem_map, List.getElem_range]
    rw [h_mx hr Y h2]; simp [List.getD, h2]
theorem ext_len {p : Pkt} (h : p.ex = true) : (ext p).length = 4 + p.xt.length := by
  rw [ext, if_pos h]; simp only [List.length_append]; show 2 + (2 + _) = _; omega
theorem ext_f {p : Pkt} (h : p.ex = false) : ext p = [] := by rw [ext, if_neg (by simp [h])]
theorem h_ek {p : Pkt} (hr : pok p) (h : p.ex = true) (R : List Int) : v2 (head p ++ (b4s p.mx ++ (ext p ++ R))) (12 + 4 * p.mx.length) = p.ek := by
  rw [ext, if_pos h, show head p ++ (b4s p.mx ++ ((b2 p.ek ++ (b2 ((p.xt.length : Int) / 4) ++ p.xt)) ++ R)) = (head p ++ b4s p.mx) ++ (b2 p.ek ++ ((b2 ((p.xt.length : Int) / 4) ++ p.xt) ++ R)) from by simp only [List.append_assoc]]
  exact v2_at (by rw [List.length_append, b4s_len, head_len]) hr.2.2.2.2.2.1
theorem h_sz {p : Pkt} (h : p.ex = true) (hx : p.xt.length ≤ 1020) (R : List Int) : v2 (head p ++ (b4s p.mx ++ (ext p ++ R))) (12 + 4 * p.mx.length + 2) = (p.xt.length : Int) / 4 := by
  rw [ext, if_pos h, show head p ++ (b4s p.mx ++ ((b2 p.ek ++ (b2 ((p.xt.length : Int) / 4) ++ p.xt)) ++ R)) = (head p ++ (b4s p.mx ++ b2 p.ek)) ++ (b2 ((p.xt.length : Int) / 4) ++ (p.xt ++ R)) from by simp only [List.append_assoc]]
  refine v2_at ?_ (by omega)
  rw [List.length_append, List.length_append, b4s_len, head_len]; show _ = 12 + (4 * p.mx.length + 2); omega
theorem bytes_eq (p : Pkt) : bytes p = head p ++ (b4s p.mx ++ (ext p ++ (p.pl ++ padz p.pad))) := by simp only [bytes, mid, List.append_assoc]
/-- The parts of what is sent. -/
theorem h_parts {p : Pkt} (h : chk p = 0) (R : List Int) : dM (head p ++ (b4s p.mx ++ (ext p ++ R))) = p.mx.length ∧ dX (head p ++ (b4s p.mx ++ (ext p ++ R))) = p.ex ∧ dSz (head p ++ (b4s p.mx ++ (ext p ++ R))) = p.xt.length ∧ dNd (head p ++ (b4s p.mx ++ (ext p ++ R))) = 12 + 4 * p.mx.length + (if p.ex = true then 4 else 0) ∧ dA (head p ++ (b4s p.mx ++ (ext p ++ R))) = 12 + 4 * p.mx.length + (ext p).length := by
  have hc := chk_ok h
  have hM := h_M (p := p) (by omega) (b4s p.mx ++ (ext p ++ R))
  have hX := h_X (p := p) (by omega) (b4s p.mx ++ (ext p ++ R))
  have hN : dNd (head p ++ (b4s p.mx ++ (ext p ++ R))) = 12 + 4 * p.mx.length + (if p.ex = true then 4 else 0) := by rw [dNd, hM, hX]
  cases hx : p.ex
  · rw [hx] at hX hN
    have hxt : p.xt.length = 0 := by
      have := hc.2.1
      by_cases h0 : 0 < p.xt.length
      · exact absurd (.inl ⟨hx, .inr h0⟩) this
      · omega
    have hs := sz_f hX
    refine ⟨hM, hX, by rw [hs, hxt], hN, ?_⟩
    rw [dA, hN, hs, ext_f hx]; simp
  · rw [hx] at hX hN
    have hs := sz_t hX
    rw [hM, h_sz hx (by omega) R] at hs
    have hs' : dSz (head p ++ (b4s p.mx ++ (ext p ++ R))) = p.xt.length := by rw [hs]; have := hc.2.1; omega
    refine ⟨hM, hX, hs', hN, ?_⟩
    rw [dA, hN, hs', ext_len hx]; simp; omega
theorem h_rest {p : Pkt} (h : chk p = 0) (R : List Int) : rest (head p ++ (b4s p.mx ++ (ext p ++ R))) = R := by
  rw [rest, (h_parts h R).2.2.2.2, show head p ++ (b4s p.mx ++ (ext p ++ R)) = (head p ++ (b4s p.mx ++ ext p)) ++ R from by simp only [List.append_assoc]]
  refine List.drop_left' ?_
  rw [List.length_append, List.length_append, b4s_len, head_len]; omega
theorem nz_all {b : List Int} : ∀ {k i : Nat}, (∀ j, j < k → bt b (i + j) = 0) → nz b i k = i + k
  | 0, i, _ => rfl
  | k + 1, i, h => by
    rw [nz_s (i := i) (h 0 (by omega)), nz_all (fun j hj => by rw [show i + 1 + j = i + (j + 1) by omega]; exact h (j + 1) (by omega))]; omega
theorem nz_zero {b : List Int} : ∀ {k i : Nat}, nz b i k = i + k → ∀ j, j < k → bt b (i + j) = 0
  | 0, i, _, j, hj => by omega
  | k + 1, i, h, j, hj => by
    by_cases h0 : bt b i = 0
    · rw [nz_s h0] at h
      cases j with
      | zero => exact h0
      | succ j => rw [show i + (j + 1) = i + 1 + j by omega]; exact nz_zero (i := i + 1) (k := k) (by omega) j (by omega)
    · rw [nz_n h0] at h; omega
theorem padz_len {n : Int} (h : 0 < n) : (padz n).length = n.toNat := by rw [padz, if_pos h]; simp; omega
theorem pd_padz {l : List Int} {n : Int} (h : 0 < n ∧ n ≤ 255) : pd (l ++ padz n) = n := by
  have hl := padz_len h.1
  have hL : (l ++ padz n).length = l.length + n.toNat := by rw [List.length_append, hl]
  have hz : ∀ j : Nat, j < n.toNat - 1 → bt (padz n) j = 0 := fun j hj => by
    rw [padz, if_pos h.1, bt_l (by simp; omega)]
    simp [bt, List.getD, List.getElem?_replicate, hj]
  have hlst : lst (l ++ padz n) = n := by
    rw [lst, bt_r (n.toNat - 1) (by omega), padz, if_pos h.1, bt_r 0 (by simp)]; rfl
  have he : pend (l ++ padz n) = (l ++ padz n).length - 1 := by
    rw [pend, hlst, nz_all]
    · omega
    · intro j hj
      rw [bt_r j (by omega)]; exact hz j hj
  rw [(pd_3 (by omega) (by rw [hlst]; omega) he).1, hlst]
theorem back1 {p : Pkt} (hr : pok p) (h : chk p = 0) : dT (enc p) = (p, 0, 0) := by
  have hc := chk_ok h
  rw [enc_ok h, bytes_eq]
  have hp := h_parts h (p.pl ++ padz p.pad)
  have hrest := h_rest h (p.pl ++ padz p.pad)
  have hG := h_G (p := p) (by omega) (b4s p.mx ++ (ext p ++ (p.pl ++ padz p.pad)))
  have hlen : (head p ++ (b4s p.mx ++ (ext p ++ (p.pl ++ padz p.pad)))).length = 12 + 4 * p.mx.length + (ext p).length + (p.pl ++ padz p.pad).length := by
    simp only [List.length_append, b4s_len, head_len]; omega
  have h64 : bt (head p ++ (b4s p.mx ++ (ext p ++ (p.pl ++ padz p.pad)))) 0 / 64 = 2 := (fst_a (p := p) (by omega)).1
  have hb1 : bt (head p ++ (b4s p.mx ++ (ext p ++ (p.pl ++ padz p.pad)))) 1 = snd p := rfl
  have hsq := h_sq hr (b4s p.mx ++ (ext p ++ (p.pl ++ padz p.pad)))
  have htm := h_tm hr (b4s p.mx ++ (ext p ++ (p.pl ++ padz p.pad)))
  have hsr := h_sr hr (b4s p.mx ++ (ext p ++ (p.pl ++ padz p.pad)))
  have hmx := h_mxl hr (ext p ++ (p.pl ++ padz p.pad))
  have hek := fun hx => h_ek hr hx (p.pl ++ padz p.pad)
  have hdrop : ((head p ++ (b4s p.mx ++ (ext p ++ (p.pl ++ padz p.pad)))).take (12 + 4 * p.mx.length + (ext p).length)).drop (12 + 4 * p.mx.length + (if p.ex = true then 4 else 0)) = p.xt := by
    rw [show head p ++ (b4s p.mx ++ (ext p ++ (p.pl ++ padz p.pad))) = (head p ++ (b4s p.mx ++ ext p)) ++ (p.pl ++ padz p.pad) from by simp only [List.append_assoc], List.take_left' (by rw [List.length_append, List.length_append, b4s_len, head_len]; omega)]
    cases hx : p.ex
    · rw [ext_f hx]
      have hxt : p.xt = [] := by
        have := hc.2.1
        by_cases h0 : 0 < p.xt.length
        · exact absurd (.inl ⟨hx, .inr h0⟩) this
        · exact List.eq_nil_of_length_eq_zero (by omega)
      rw [hxt]
      exact List.drop_eq_nil_of_le (by rw [List.length_append, List.length_append, b4s_len, head_len]; simp)
    · rw [ext, if_pos hx, show head p ++ (b4s p.mx ++ (b2 p.ek ++ (b2 ((p.xt.length : Int) / 4) ++ p.xt))) = (head p ++ (b4s p.mx ++ (b2 p.ek ++ b2 ((p.xt.length : Int) / 4)))) ++ p.xt from by simp only [List.append_assoc]]
      refine List.drop_left' ?_
      simp only [List.length_append, b4s_len, head_len]
      show 12 + (4 * p.mx.length + (2 + 2)) = _
      simp; omega
  generalize hE : head p ++ (b4s p.mx ++ (ext p ++ (p.pl ++ padz p.pad))) = E at *
  obtain ⟨hM, hX, hS, hN, hA⟩ := hp
  have hd : dP E = p.pad ∧ pay E = p.pl ∧ ¬ (dG E = true ∧ pd (rest E) = 0) := by
    by_cases hp0 : 0 < p.pad
    · have e := pd_padz (l := p.pl) (n := p.pad) (by omega)
      have g : dG E = true := by rw [hG]; simp [hp0]
      refine ⟨by rw [dP_t g, hrest, e], ?_, fun x => by rw [hrest, e] at x; omega⟩
      rw [pay, dP_t g, hrest, e]
      refine List.take_left' ?_
      rw [List.length_append, padz_len hp0]; omega
    · have g : dG E = false := by rw [hG]; simp [hp0]
      have e : padz p.pad = [] := by rw [padz, if_neg hp0]
      refine ⟨by rw [dP_f g]; omega, ?_, nG g⟩
      rw [pay_n g, hrest, e, List.append_nil]
  have hb0 : E.length = dA E + (p.pl ++ padz p.pad).length := by rw [hlen, hA]
  have hNA : dNd E ≤ dA E := by rw [dA]; omega
  rw [dT_8 (by omega) h64 (by omega) (by omega) (by omega) hd.2.2 (by rw [hd.2.1]; omega)]
  have hpk : pk E = p := by
    have hs : decide (127 < snd p) = p.mr ∧ snd p % 128 = p.ty := by
      have := hr.1
      have hc1 := hc.1
      by_cases hm : p.mr = true
      · have e : snd p = 128 + p.ty := by rw [snd, if_pos hm]
        rw [e, hm, decide_eq_true_eq]; omega
      · have e : snd p = p.ty := by rw [snd, if_neg hm]; omega
        rw [e, (by simpa using hm : p.mr = false), decide_eq_false_iff_not]; omega
    have hk : (if dX E = true then v2 E (12 + 4 * dM E) else 0) = p.ek := by
      rw [hX, hM]
      cases hx : p.ex
      · have := hc.2.1
        by_cases h0 : p.ek = 0
        · simp [h0]
        · exact absurd (.inl ⟨hx, .inl h0⟩) this
      · rw [if_pos rfl, hek hx]
    exact pkt_ext (by show decide (127 < bt E 1) = _; rw [hb1]; exact hs.1) (by show bt E 1 % 128 = _; rw [hb1]; exact hs.2) hsq htm hsr (by show mxl E (dM E) = _; rw [hM]; exact hmx) hX hk (by show (E.take (dA E)).drop (dNd E) = _; rw [hA, hN]; exact hdrop) hd.2.1 hd.1
  rw [hpk]
end Sp

end Go.Proofs.Ytcnklcnehpkfaaa
