/-
  Whole numbers of a width: what the operations on bits make of them.
-/
import Derived.Test.YtcnklcnehpkfaaaEvFz
namespace Go.Ev
open Go
set_option linter.unusedVariables false
set_option linter.unusedSimpArgs false

theorem ofInt_nat {n : Nat} {x : Int} (h0 : 0 ≤ x) (h1 : x < 2 ^ n) : (BitVec.ofInt n x).toNat = x.toNat := by
  rw [BitVec.toNat_ofInt]
  have : x % ((2 ^ n : Nat) : Int) = x := Int.emod_eq_of_lt h0 (by simpa using h1)
  rw [this]

theorem iand_nat {k : IntKind} {x y : Int} (hx : 0 ≤ x) (hx1 : x < 2 ^ k.bits) (hy : 0 ≤ y) (hy1 : y < 2 ^ k.bits) : iand k x y = k.wrap ((x.toNat &&& y.toNat : Nat) : Int) := by
  simp only [iand, BitVec.toNat_and, ofInt_nat hx hx1, ofInt_nat hy hy1]
theorem ior_nat {k : IntKind} {x y : Int} (hx : 0 ≤ x) (hx1 : x < 2 ^ k.bits) (hy : 0 ≤ y) (hy1 : y < 2 ^ k.bits) : ior k x y = k.wrap ((x.toNat ||| y.toNat : Nat) : Int) := by
  simp only [ior, BitVec.toNat_or, ofInt_nat hx hx1, ofInt_nat hy hy1]
theorem ixor_nat {k : IntKind} {x y : Int} (hx : 0 ≤ x) (hx1 : x < 2 ^ k.bits) (hy : 0 ≤ y) (hy1 : y < 2 ^ k.bits) : ixor k x y = k.wrap ((x.toNat ^^^ y.toNat : Nat) : Int) := by
  simp only [ixor, BitVec.toNat_xor, ofInt_nat hx hx1, ofInt_nat hy hy1]

theorem and_mask (a n : Nat) : a &&& (2 ^ n - 1) = a % 2 ^ n := Nat.and_two_pow_sub_one_eq_mod a n

theorem iand_u8 {x : Int} (n : Nat) (h : 0 ≤ x ∧ x ≤ 255) (hn : n ≤ 8) : iand .u8 x ((2 ^ n - 1 : Nat) : Int) = x % ((2 ^ n : Nat) : Int) := by
  have h2 : 2 ^ n ≤ 2 ^ 8 := Nat.pow_le_pow_right (by omega) hn
  have h3 : 0 < 2 ^ n := Nat.pow_pos (by omega)
  have hx : x < 2 ^ IntKind.u8.bits := by show x < 256; omega
  have hy : ((2 ^ n - 1 : Nat) : Int) < 2 ^ IntKind.u8.bits := by show ((2 ^ n - 1 : Nat) : Int) < 256; omega
  rw [iand_nat h.1 hx (by omega) hy]
  rw [Int.toNat_natCast, and_mask]
  obtain ⟨a, rfl⟩ := Int.eq_ofNat_of_zero_le h.1
  simp only [Int.toNat_natCast]
  have : a % 2 ^ n ≤ a := Nat.mod_le _ _
  rw [wrap_u8 (by omega) (by omega)]
  exact Int.natCast_emod a (2 ^ n)

theorem cong1 {k : IntKind} {x x' : Int} (h : x = x') : AV.c (.int k x) = AV.c (.int k x') := by rw [h]
theorem cong2 {k k' : IntKind} {x x' y y' : Int} (h : x = x') (h' : y = y') : AV.a [AV.c (.int k x), AV.c (.int k' y)] = AV.a [AV.c (.int k x'), AV.c (.int k' y')] := by rw [h, h']
theorem clamp {x lo hi : Int} (h : lo ≤ hi) : imin (imax x lo) hi = imax lo (imin x hi) := by
  simp only [imin, imax]; split <;> split <;> (try split) <;> omega
end Go.Ev
