/-
  A part of the walk: contracts of functions, each proved once.
-/
import Derived.Test.YtcnklcnehpkfaaaEvRun
import Derived.Test.YtcnklcnehpkfaaaK25J
namespace Go.Proofs.Ytcnklcnehpkfaaa
open Go Go.Ev
set_option linter.unusedVariables false
set_option linter.unusedSimpArgs false
set_option maxRecDepth 20000
set_option maxHeartbeats 1000000
namespace Sp
theorem dX_c {b : List Int} : (bt b 0 / 16 % 2 == 1) = dX b := by
  rw [dX]; by_cases h : bt b 0 / 16 % 2 = 1 <;> simp [h]
theorem dG_c {b : List Int} : (bt b 0 / 32 % 2 == 1) = dG b := by
  rw [dG]; by_cases h : bt b 0 / 32 % 2 = 1 <;> simp [h]
theorem lst_rest {b : List Int} (h : dA b < b.length) : lst (rest b) = lst b := by
  rw [lst, lst, rest_len, rest, bt_drop]; congr 1; omega
theorem rpend_0 {b : List Int} (hb : ∀ x ∈ b, 0 ≤ x ∧ x ≤ 255) (h : dA b < b.length) (h2 : ¬ lst b = 0) (h3 : lst b ≤ (b.length : Int) - dA b) : dA b + pend (rest b) = nz b (b.length - (lst b).toNat) (b.length - 1 - (b.length - (lst b).toNat)) := by
  have hl := lst_rng hb
  have hr := rest_len b
  rw [pend, rest, nz_drop, ← rest, lst_rest h, rest_len]
  congr 1 <;> omega
theorem rpend_s {b : List Int} {i : Nat} (hi : i < b.length - 1) (h : bt b i = 0) (he : dA b + pend (rest b) = nz b i (b.length - 1 - i)) : dA b + pend (rest b) = nz b (i + 1) (b.length - 1 - (i + 1)) := by
  rw [he, show b.length - 1 - i = (b.length - 1 - (i + 1)) + 1 by omega, nz_s h]
theorem rpad_bad {b : List Int} {i : Nat} (h : dA b < b.length) (h2 : ¬ lst b = 0) (h3 : lst b ≤ (b.length : Int) - dA b) (hi : i < b.length - 1) (h0 : ¬ bt b i = 0) (he : dA b + pend (rest b) = nz b i (b.length - 1 - i)) : pd (rest b) = 0 ∧ imin ((dA b : Int) + pw (rest b)) ((b.length : Int) - 1) = i := by
  have hr := rest_len b
  have hl := lst_rest h
  rw [show b.length - 1 - i = (b.length - 1 - (i + 1)) + 1 by omega, nz_n h0] at he
  have := pd_2 (l := rest b) (by omega) (by omega) (by omega)
  refine ⟨this.1, ?_⟩
  rw [this.2, imin]; split <;> omega
theorem rpad_ok {b : List Int} {i : Nat} (h : dA b < b.length) (h2 : ¬ lst b = 0) (h3 : lst b ≤ (b.length : Int) - dA b) (hi : i = b.length - 1) (he : dA b + pend (rest b) = nz b i (b.length - 1 - i)) : pd (rest b) = lst b := by
  have hr := rest_len b
  have hl := lst_rest h
  rw [hi, Nat.sub_self] at he
  rw [← hl]
  exact (pd_3 (l := rest b) (by omega) (by omega) (by simp only [nz] at he; omega)).1
theorem rpad_lo {b : List Int} (h0 : dA b ≤ b.length) (h : dA b = b.length ∨ lst b = 0 ∨ (b.length : Int) - dA b < lst b) : pd (rest b) = 0 ∧ imin ((dA b : Int) + pw (rest b)) ((b.length : Int) - 1) = (b.length : Int) - 1 := by
  have hr := rest_len b
  by_cases h1 : dA b = b.length
  · have := pd_0 (l := rest b) (by omega)
    refine ⟨this.1, ?_⟩
    rw [this.2, imin]; split <;> omega
  · have hl := lst_rest (b := b) (by omega)
    have := pd_1 (l := rest b) (by omega) (by omega)
    refine ⟨this.1, ?_⟩
    rw [this.2, imin]; split <;> omega
theorem pay_r {b : List Int} {e p : Int} (ha : dA b ≤ b.length) (hp : p = dA b) (he : e = (b.length : Int) - dP b) (h : 0 ≤ dP b ∧ dP b ≤ ((rest b).length : Int)) : (b.take e.toNat).drop p.toNat = pay b := by
  have hr := rest_len b
  rw [pay, rest, List.take_drop]
  rw [← rest, show p.toNat = dA b from by omega, show e.toNat = dA b + ((rest b).length - (dP b).toNat) from by omega]
end Sp
namespace Sp
theorem mx_w {b : List Int} {j : Nat} (hb : ∀ x ∈ b, 0 ≤ x ∧ x ≤ 255) (h : 16 + 4 * (j : Int) ≤ b.length) : IntKind.u32.wrap (val ((b.take (Int.toNat (16 + 4 * (j : Int)))).drop (Int.toNat (12 + 4 * (j : Int))))) = v4 b (12 + 4 * j) := by
  have h2 := v4_rng hb (12 + 4 * j)
  rw [show Int.toNat (12 + 4 * (j : Int)) = 12 + 4 * j from by omega, val4 b (i := 12 + 4 * j) (by omega) (by omega), wrap_u32 (by omega) (by omega)]
theorem c128 {x : Int} : decide (128 ≤ x) = decide (127 < x) := by simp only [decide_eq_decide]; omega
theorem w4 {b : List Int} (hb : ∀ x ∈ b, 0 ≤ x ∧ x ≤ 255) (i : Nat) : IntKind.u32.wrap (v4 b i) = v4 b i := by
  have := v4_rng hb i
  exact wrap_u32 (by omega) (by omega)
end Sp
namespace Sp
def xt (b : List Int) : List Int := (b.take (dA b)).drop (dNd b)
theorem rsz_w {b : List Int} (hb : ∀ x ∈ b, 0 ≤ x ∧ x ≤ 255) (hx : dX b = true) (h : 16 + 4 * (dM b : Int) ≤ b.length) : IntKind.i64.wrap (4 * val ((b.take (Int.toNat (12 + 4 * (dM b : Int) + 4))).drop (Int.toNat (12 + 4 * (dM b : Int) + 2)))) = (dSz b : Int) := by
  have h2 := v2_rng hb (12 + 4 * dM b + 2)
  rw [show Int.toNat (12 + 4 * (dM b : Int) + 2) = 12 + 4 * dM b + 2 from by omega, val2 b (i := 12 + 4 * dM b + 2) (by omega) (by omega), wrap_i64 (by omega) (by omega), sz_t hx]; omega
theorem rek_w {b : List Int} (hb : ∀ x ∈ b, 0 ≤ x ∧ x ≤ 255) (h : 16 + 4 * (dM b : Int) ≤ b.length) : IntKind.u16.wrap (val ((b.take (Int.toNat (12 + 4 * (dM b : Int) + 2))).drop (Int.toNat (12 + 4 * (dM b : Int))))) = v2 b (12 + 4 * dM b) := by
  rw [show Int.toNat (12 + 4 * (dM b : Int)) = 12 + 4 * dM b from by omega, val2 b (i := 12 + 4 * dM b) (by omega) (by omega), u16_2 hb]
theorem rxt {b : List Int} (hx : dX b = true) : (b.take (Int.toNat (12 + 4 * (dM b : Int) + 4 + (dSz b : Int)))).drop (Int.toNat (12 + 4 * (dM b : Int) + 4)) = xt b := by
  have h := dA_t hx
  rw [xt]; congr 1
  · omega
  · congr 1; omega
theorem xt_len {b : List Int} (h : dA b ≤ b.length) : (xt b).length = dSz b := by
  have h2 : dA b = dNd b + dSz b := rfl
  rw [xt, List.length_drop, List.length_take]; omega
end Sp
theorem okT' {b : List Int} (hx : Sp.dX b = true) : aP (Sp.pk b) = [.c (.bool (decide (127 < Sp.bt b 1))), .c (.int .u8 (Sp.bt b 1 % 128)), .c (.int .u16 (Sp.v2 b 2)), .c (.int .u32 (Sp.v4 b 4)), .c (.int .u32 (Sp.v4 b 8)), .ri .u32 (Sp.mxl b (Sp.dM b)), .c (.bool true), .c (.int .u16 (Sp.v2 b (12 + 4 * Sp.dM b))), .ri .u8 (Sp.xt b), .ri .u8 (Sp.pay b), .c (.int .i64 (Sp.dP b))] := okT hx

end Go.Proofs.Ytcnklcnehpkfaaa
