/-
  A part of the walk: contracts of functions, each proved once.
-/
import Derived.Test.YtcnklcnehpkfaaaEvRun
import Derived.Test.YtcnklcnehpkfaaaK25A0
namespace Go.Proofs.Ytcnklcnehpkfaaa
open Go Go.Ev
set_option linter.unusedVariables false
set_option linter.unusedSimpArgs false
set_option maxRecDepth 20000
def L0 : Lay := []
namespace Sp
theorem iand_lo {x : Int} (n : Nat) (hn : n ≤ 62) (m : Int) (hm : m = ((2 ^ n - 1 : Nat) : Int)) : iand .i64 x m = x % ((2 ^ n : Nat) : Int) := by
  subst hm
  have hp : 2 ^ n ≤ 2 ^ 62 := Nat.pow_le_pow_right (by decide) hn
  have h0 : 0 < 2 ^ n := Nat.two_pow_pos n
  have hd : (2 ^ n : Nat) ∣ 18446744073709551616 := ⟨2 ^ (64 - n), by rw [← Nat.pow_add, show n + (64 - n) = 64 by omega]⟩
  have e1 : (BitVec.ofInt IntKind.i64.bits x &&& BitVec.ofInt IntKind.i64.bits ((2 ^ n - 1 : Nat) : Int)).toNat = (x % 18446744073709551616).toNat % 2 ^ n := by
    rw [BitVec.toNat_and, BitVec.toNat_ofInt, BitVec.toNat_ofInt]
    have a : ((((2 ^ n - 1 : Nat) : Int) % ((2 ^ IntKind.i64.bits : Nat) : Int)).toNat) = 2 ^ n - 1 := by
      show ((((2 ^ n - 1 : Nat) : Int) % (18446744073709551616 : Int)).toNat) = 2 ^ n - 1
      rw [Int.emod_eq_of_lt (by omega) (by have : (2 : Nat) ^ 62 = 4611686018427387904 := rfl; omega)]; exact Int.toNat_natCast _
    rw [a, Nat.and_two_pow_sub_one_eq_mod]; rfl
  have e2 : (((x % 18446744073709551616).toNat % 2 ^ n : Nat) : Int) = x % ((2 ^ n : Nat) : Int) := by
    rw [Int.natCast_emod, Int.toNat_of_nonneg (by omega), Int.emod_emod_of_dvd]
    exact Int.natCast_dvd_natCast.2 hd
  show IntKind.i64.wrap _ = _
  rw [e1, e2]
  have h1 := Int.emod_nonneg x (b := ((2 ^ n : Nat) : Int)) (by omega)
  have h2 := Int.emod_lt_of_pos x (b := ((2 ^ n : Nat) : Int)) (by omega)
  exact wrap_i64 (by omega) (by have : (2 : Nat) ^ 62 = 4611686018427387904 := rfl; omega)
theorem and16 (x : Int) : iand .i64 x 65535 = x % 65536 := iand_lo 16 (by decide) _ (by decide)
theorem and32 (x : Int) : iand .i64 x 4294967295 = x % 4294967296 := iand_lo 32 (by decide) _ (by decide)
structure Trk where
  on : Bool
  hi : Int
  ju : Int
  deriving Inhabited, DecidableEq
def near (last n sz : Int) : Int := if last < -1152921504606846976 ∨ 1152921504606846976 < last then 0 else if (n - last) % sz ≤ sz / 2 then last + (n - last) % sz else last + (n - last) % sz - sz
def okT (t : Trk) : Bool := decide (0 ≤ t.hi) && decide (t.hi ≤ 281474976710656) && decide (-1 ≤ t.ju) && decide (t.ju ≤ 65535)
def fol (t : Trk) (q : Int) : Trk × Int × Bool := if okT t = false then (⟨false, 0, 0⟩, 0, false) else if t.on = false then (⟨true, q, -1⟩, q, true) else if near t.hi q 65536 ≤ t.hi + 3000 ∧ t.hi - 100 ≤ near t.hi q 65536 ∧ 0 ≤ near t.hi q 65536 then (⟨true, imax (near t.hi q 65536) t.hi, -1⟩, near t.hi q 65536, true) else if t.ju = q ∧ t.hi < 140737488355328 then (⟨true, t.hi + 1 + (q - t.hi - 1) % 65536, -1⟩, t.hi + 1 + (q - t.hi - 1) % 65536, true) else (⟨true, t.hi, (q + 1) % 65536⟩, 0, false)
def newer (a b : Int) : Int := if (a - b) % 65536 = 0 then 0 else if (a - b) % 65536 < 32768 ∨ ((a - b) % 65536 = 32768 ∧ b < a) then 1 else -1
theorem okT_iff {t : Trk} : okT t = true ↔ 0 ≤ t.hi ∧ t.hi ≤ 281474976710656 ∧ -1 ≤ t.ju ∧ t.ju ≤ 65535 := by simp [okT, and_assoc]
theorem okT_f {t : Trk} (h : ¬ (0 ≤ t.hi ∧ t.hi ≤ 281474976710656 ∧ -1 ≤ t.ju ∧ t.ju ≤ 65535)) : okT t = false := by
  cases h2 : okT t
  · rfl
  · exact absurd (okT_iff.1 h2) h
theorem near_0 {last n sz : Int} (h : last < -1152921504606846976 ∨ 1152921504606846976 < last) : near last n sz = 0 := if_pos h
theorem near_lo {last n sz : Int} (h : ¬ (last < -1152921504606846976 ∨ 1152921504606846976 < last)) (h2 : (n - last) % sz ≤ sz / 2) : near last n sz = last + (n - last) % sz := by rw [near, if_neg h, if_pos h2]
theorem near_hi {last n sz : Int} (h : ¬ (last < -1152921504606846976 ∨ 1152921504606846976 < last)) (h2 : ¬ (n - last) % sz ≤ sz / 2) : near last n sz = last + (n - last) % sz - sz := by rw [near, if_neg h, if_neg h2]
theorem fol_0 {t : Trk} {q : Int} (h : okT t = false) : fol t q = (⟨false, 0, 0⟩, 0, false) := if_pos h
theorem fol_1 {t : Trk} {q : Int} (h : okT t = true) (h2 : t.on = false) : fol t q = (⟨true, q, -1⟩, q, true) := by rw [fol, if_neg (by simp [h]), if_pos h2]
theorem fol_2 {t : Trk} {q : Int} (h : okT t = true) (h2 : t.on = true) (h3 : near t.hi q 65536 ≤ t.hi + 3000 ∧ t.hi - 100 ≤ near t.hi q 65536 ∧ 0 ≤ near t.hi q 65536) : fol t q = (⟨true, imax (near t.hi q 65536) t.hi, -1⟩, near t.hi q 65536, true) := by rw [fol, if_neg (by simp [h]), if_neg (by simp [h2]), if_pos h3]
theorem fol_3 {t : Trk} {q : Int} (h : okT t = true) (h2 : t.on = true) (h3 : ¬ (near t.hi q 65536 ≤ t.hi + 3000 ∧ t.hi - 100 ≤ near t.hi q 65536 ∧ 0 ≤ near t.hi q 65536)) (h4 : t.ju = q ∧ t.hi < 140737488355328) : fol t q = (⟨true, t.hi + 1 + (q - t.hi - 1) % 65536, -1⟩, t.hi + 1 + (q - t.hi - 1) % 65536, true) := by rw [fol, if_neg (by simp [h]), if_neg (by simp [h2]), if_neg h3, if_pos h4]
theorem fol_4 {t : Trk} {q : Int} (h : okT t = true) (h2 : t.on = true) (h3 : ¬ (near t.hi q 65536 ≤ t.hi + 3000 ∧ t.hi - 100 ≤ near t.hi q 65536 ∧ 0 ≤ near t.hi q 65536)) (h4 : ¬ (t.ju = q ∧ t.hi < 140737488355328)) : fol t q = (⟨true, t.hi, (q + 1) % 65536⟩, 0, false) := by rw [fol, if_neg (by simp [h]), if_neg (by simp [h2]), if_neg h3, if_neg h4]
theorem near_rng (last n : Int) : -1152921504607000000 ≤ near last n 65536 ∧ near last n 65536 ≤ 1152921504607000000 := by
  simp only [near]; split
  · omega
  · split <;> omega
theorem near_rng2 (last n : Int) : -1152921510000000000 ≤ near last n 4294967296 ∧ near last n 4294967296 ≤ 1152921510000000000 := by
  simp only [near]; split
  · omega
  · split <;> omega
theorem tm16 (x : Int) : Int.tmod (IntKind.i64.wrap (Int.tmod x 65536 + 65536)) 65536 = x % 65536 := by
  have a1 := Int.tmod_lt_of_pos x (show (0 : Int) < 65536 by decide)
  have a2 := Int.lt_tmod_of_pos x (show (0 : Int) < 65536 by decide)
  have a3 := Int.mul_tdiv_add_tmod x 65536
  rw [wrap_i64 (by omega) (by omega), Int.tmod_eq_emod_of_nonneg (by omega)]; omega
theorem tm32 (x : Int) : Int.tmod (IntKind.i64.wrap (Int.tmod x 4294967296 + 4294967296)) 4294967296 = x % 4294967296 := by
  have a1 := Int.tmod_lt_of_pos x (show (0 : Int) < 4294967296 by decide)
  have a2 := Int.lt_tmod_of_pos x (show (0 : Int) < 4294967296 by decide)
  have a3 := Int.mul_tdiv_add_tmod x 4294967296
  rw [wrap_i64 (by omega) (by omega), Int.tmod_eq_emod_of_nonneg (by omega)]; omega
theorem ju_w {q : Int} (h : 0 ≤ q ∧ q ≤ 65535) : IntKind.i64.wrap (IntKind.u16.wrap (q + 1)) % 65536 = (q + 1) % 65536 := by
  rw [mod_u16, wrap_i64 (by omega) (by omega)]; omega
theorem mx {a b : Int} : imax a b = imax b a := by simp only [imax]; split <;> split <;> omega
theorem in_1 {n h : Int} (x : n ≤ h + 3000 ∧ imax (h - 100) 0 ≤ n) : n ≤ h + 3000 ∧ h - 100 ≤ n ∧ 0 ≤ n := by
  simp only [imax] at x; split at x <;> omega
theorem in_2 {n h : Int} (x : n ≤ h + 3000 → n < imax (h - 100) 0) : ¬ (n ≤ h + 3000 ∧ h - 100 ≤ n ∧ 0 ≤ n) := by
  rintro ⟨a, b, c⟩; have x := x a; simp only [imax] at x; split at x <;> omega
end Sp
def aT (t : Sp.Trk) : List AV := [.c (.bool t.on), .c (.int .i64 t.hi), .c (.int .i64 t.ju)]
def C0 : Tab where
  own f := false
  run f h a := match f, h, a with
    | 36, [], [.c (.int .i64 l), .c (.int .i64 n), .c (.int .i64 sz)] => some ([], .c (.int .i64 (Sp.near l n sz)))
    | 37, [], [.c (.int .i64 l), .c (.int .i64 n), .c (.int .i64 sz)] => some ([], .c (.int .i64 (Sp.near l n sz)))
    | 20, [], [.c (.int .i64 l), .c (.int .u16 n)] => some ([], .c (.int .i64 (Sp.near l n 65536)))
    | 22, [], [.c (.int .i64 l), .c (.int .u16 n)] => some ([], .c (.int .i64 (Sp.near l n 65536)))
    | 21, [], [.c (.int .i64 l), .c (.int .u32 n)] => some ([], .c (.int .i64 (Sp.near l n 4294967296)))
    | 23, [], [.c (.int .i64 l), .c (.int .u32 n)] => some ([], .c (.int .i64 (Sp.near l n 4294967296)))
    | 25, [], [.c (.int .u16 a), .c (.int .u16 b)] => some ([], .c (.int .i64 (Sp.newer a b)))
    | 26, [], [.c (.int .u16 a), .c (.int .u16 b)] => some ([], .c (.int .i64 (Sp.newer a b)))
    | 35, [], [.a [.c (.bool on), .c (.int .i64 h), .c (.int .i64 j)]] => some ([], .c (.bool (Sp.okT ⟨on, h, j⟩)))
    | 18, [], [.a [.c (.bool on), .c (.int .i64 h), .c (.int .i64 j)], .c (.int .u16 q)] => some ([], .t [.a (aT (Sp.fol ⟨on, h, j⟩ q).1), .c (.int .i64 (Sp.fol ⟨on, h, j⟩ q).2.1), .c (.bool (Sp.fol ⟨on, h, j⟩ q).2.2)])
    | 19, [], [.a [.c (.bool on), .c (.int .i64 h), .c (.int .i64 j)], .c (.int .u16 q)] => some ([], .t [.a (aT (Sp.fol ⟨on, h, j⟩ q).1), .c (.int .i64 (Sp.fol ⟨on, h, j⟩ q).2.1), .c (.bool (Sp.fol ⟨on, h, j⟩ q).2.2)])
    | _, _, _ => none

end Go.Proofs.Ytcnklcnehpkfaaa
