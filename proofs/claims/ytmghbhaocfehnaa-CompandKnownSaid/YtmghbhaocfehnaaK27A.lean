/-
  A part of the walk: contracts of functions, each proved once.
-/
import Derived.Test.YtmghbhaocfehnaaEvList
import Derived.Test.YtmghbhaocfehnaaK27A0
namespace Go.Proofs.Ytmghbhaocfehnaa
open Go Go.Ev
set_option linter.unusedVariables false
set_option linter.unusedSimpArgs false
set_option maxRecDepth 20000
def L0 : Lay := []
namespace Sp
def expo (m : Int) : Int := if m < 256 then 0 else if m < 512 then 1 else if m < 1024 then 2 else if m < 2048 then 3 else if m < 4096 then 4 else if m < 8192 then 5 else if m < 16384 then 6 else 7
def shr3 (m : Int) : Int := if m < 256 then m / 8 else if m < 512 then m / 16 else if m < 1024 then m / 32 else if m < 2048 then m / 64 else if m < 4096 then m / 128 else if m < 8192 then m / 256 else if m < 16384 then m / 512 else m / 1024
def sh8 (y e : Int) : Int := if e = 0 then y else if e = 1 then 2 * y else if e = 2 then 4 * y else if e = 3 then 8 * y else if e = 4 then 16 * y else if e = 5 then 32 * y else if e = 6 then 64 * y else 128 * y
def mag (x : Int) : Int := imin (imax x (-x)) 32635 + 132
def mu (x : Int) : Int := (if x < 0 then 127 else 255) - 16 * expo (mag x) - shr3 (mag x) % 16
def fmu (b : Int) : Int := if 127 < 255 - b then -(sh8 (8 * ((255 - b) % 16) + 132) ((255 - b) / 16 % 8) - 132) else sh8 (8 * ((255 - b) % 16) + 132) ((255 - b) / 16 % 8) - 132
def mg2 (x : Int) : Int := if x < 0 then -x - 1 else x
def a0 (x : Int) : Int := (if x < 0 then 0 else 128) + 16 * expo (mg2 x) + (if mg2 x < 256 then mg2 x / 16 else shr3 (mg2 x) % 16)
def a (x : Int) : Int := ixor .u8 (a0 x) 85
def fa0 (c : Int) : Int := if c < 128 then -(if 0 < c / 16 % 8 then sh8 (16 * (c % 16) + 264) (c / 16 % 8 - 1) else 16 * (c % 16) + 8) else (if 0 < c / 16 % 8 then sh8 (16 * (c % 16) + 264) (c / 16 % 8 - 1) else 16 * (c % 16) + 8)
def fa (b : Int) : Int := fa0 (ixor .u8 b 85)
def pw : Nat → Int
  | 0 => 1
  | n + 1 => 2 * pw n
def pow (n : Int) : Int := pw n.toNat

theorem mag_range {x : Int} (hx : -32768 ≤ x ∧ x ≤ 32767) : 132 ≤ imin (imax x (-x)) 32635 + 132 ∧ imin (imax x (-x)) 32635 + 132 ≤ 32767 := by
  simp only [imin, imax]; split <;> split <;> omega
theorem mag_neg {x : Int} (hx : -32768 ≤ x ∧ x ≤ 32767) (h : x < 0) : imin (-x) 32635 + 132 = mag x := by
  simp only [mag, imax]; rw [if_pos (by omega)]
theorem mag_pos {x : Int} (hx : -32768 ≤ x ∧ x ≤ 32767) (h : 0 ≤ x) : imin x 32635 + 132 = mag x := by
  simp only [mag, imax]; rw [if_neg (by omega)]
theorem mag_rng {x : Int} (hx : -32768 ≤ x ∧ x ≤ 32767) : 132 ≤ mag x ∧ mag x ≤ 32767 := mag_range hx
theorem expo_range (m : Int) : 0 ≤ expo m ∧ expo m ≤ 7 := by
  simp only [expo]; repeat' split
  all_goals omega
theorem iand_i64 {x : Int} (n : Nat) (h : 0 ≤ x ∧ x < 4611686018427387904) (hn : n ≤ 60) : iand .i64 x ((2 ^ n - 1 : Nat) : Int) = x % ((2 ^ n : Nat) : Int) := by
  have h2 : 2 ^ n ≤ 2 ^ 60 := Nat.pow_le_pow_right (by omega) hn
  have h3 : 0 < 2 ^ n := Nat.pow_pos (by omega)
  have hx : x < 2 ^ IntKind.i64.bits := by show x < 18446744073709551616; omega
  have hy : ((2 ^ n - 1 : Nat) : Int) < 2 ^ IntKind.i64.bits := by show ((2 ^ n - 1 : Nat) : Int) < 18446744073709551616; omega
  rw [iand_nat h.1 hx (by omega) hy, Int.toNat_natCast, and_mask]
  obtain ⟨a, rfl⟩ := Int.eq_ofNat_of_zero_le h.1
  simp only [Int.toNat_natCast]
  have : a % 2 ^ n ≤ a := Nat.mod_le _ _
  rw [wrap_i64 (by omega) (by omega)]
  exact Int.natCast_emod a (2 ^ n)
theorem iand15 {x : Int} (h : 0 ≤ x ∧ x < 4611686018427387904) : iand .i64 x 15 = x % 16 := iand_i64 4 h (by omega)
theorem iand7 {x : Int} (h : 0 ≤ x ∧ x < 4611686018427387904) : iand .i64 x 7 = x % 8 := iand_i64 3 h (by omega)
theorem ishr_i64 {x : Int} (n : Nat) (hn : n ≤ 64) : ishr .i64 x n = x / ((2 ^ n : Nat) : Int) := by
  have e : min ((n : Int)).toNat IntKind.i64.bits = n := by rw [Int.toNat_natCast]; exact Nat.min_eq_left hn
  simp only [ishr, e]
  rw [Int.fdiv_eq_ediv_of_nonneg _ (Int.le_of_lt (Int.pow_pos (by omega)))]
  congr 1
theorem ishl_i64 {x : Int} (n : Nat) (hn : n ≤ 64) : ishl .i64 x n = IntKind.i64.wrap (x * ((2 ^ n : Nat) : Int)) := by
  have e : min ((n : Int)).toNat IntKind.i64.bits = n := by rw [Int.toNat_natCast]; exact Nat.min_eq_left hn
  simp only [ishl, e]
  congr 1
theorem shr_expo {m : Int} (hm : 0 ≤ m ∧ m ≤ 32767) : iand .i64 (ishr .i64 m (expo m + 3)) 15 = shr3 m % 16 := by
  simp only [expo, shr3]
  have e : ∀ n : Nat, 3 ≤ n → n ≤ 10 → ishr .i64 m n = m / ((2 ^ n : Nat) : Int) := fun n _ _ => ishr_i64 n (by omega)
  have e3 : ishr .i64 m 3 = m / 8 := e 3 (by omega) (by omega)
  have e4 : ishr .i64 m 4 = m / 16 := e 4 (by omega) (by omega)
  have e5 : ishr .i64 m 5 = m / 32 := e 5 (by omega) (by omega)
  have e6 : ishr .i64 m 6 = m / 64 := e 6 (by omega) (by omega)
  have e7 : ishr .i64 m 7 = m / 128 := e 7 (by omega) (by omega)
  have e8 : ishr .i64 m 8 = m / 256 := e 8 (by omega) (by omega)
  have e9 : ishr .i64 m 9 = m / 512 := e 9 (by omega) (by omega)
  have e10 : ishr .i64 m 10 = m / 1024 := e 10 (by omega) (by omega)
  repeat' split
  · rw [show (0 : Int) + 3 = 3 from rfl, e3, iand15 (by omega)]
  · rw [show (1 : Int) + 3 = 4 from rfl, e4, iand15 (by omega)]
  · rw [show (2 : Int) + 3 = 5 from rfl, e5, iand15 (by omega)]
  · rw [show (3 : Int) + 3 = 6 from rfl, e6, iand15 (by omega)]
  · rw [show (4 : Int) + 3 = 7 from rfl, e7, iand15 (by omega)]
  · rw [show (5 : Int) + 3 = 8 from rfl, e8, iand15 (by omega)]
  · rw [show (6 : Int) + 3 = 9 from rfl, e9, iand15 (by omega)]
  · rw [show (7 : Int) + 3 = 10 from rfl, e10, iand15 (by omega)]
theorem shl_sh8 {y e : Int} (hy : 0 ≤ y ∧ y ≤ 65535) (he : 0 ≤ e ∧ e ≤ 7) : ishl .i64 y e = sh8 y e := by
  have h : e = 0 ∨ e = 1 ∨ e = 2 ∨ e = 3 ∨ e = 4 ∨ e = 5 ∨ e = 6 ∨ e = 7 := by omega
  rcases h with h | h | h | h | h | h | h | h <;> subst h
  · exact (ishl_i64 0 (by omega)).trans (by rw [wrap_i64 (by omega) (by omega)]; simp [sh8])
  · exact (ishl_i64 1 (by omega)).trans (by rw [wrap_i64 (by omega) (by omega)]; simp [sh8]; omega)
  · exact (ishl_i64 2 (by omega)).trans (by rw [wrap_i64 (by omega) (by omega)]; simp [sh8]; omega)
  · exact (ishl_i64 3 (by omega)).trans (by rw [wrap_i64 (by omega) (by omega)]; simp [sh8]; omega)
  · exact (ishl_i64 4 (by omega)).trans (by rw [wrap_i64 (by omega) (by omega)]; simp [sh8]; omega)
  · exact (ishl_i64 5 (by omega)).trans (by rw [wrap_i64 (by omega) (by omega)]; simp [sh8]; omega)
  · exact (ishl_i64 6 (by omega)).trans (by rw [wrap_i64 (by omega) (by omega)]; simp [sh8]; omega)
  · exact (ishl_i64 7 (by omega)).trans (by rw [wrap_i64 (by omega) (by omega)]; simp [sh8]; omega)
theorem mul_pow {y e : Int} (he : 0 ≤ e ∧ e ≤ 7) : y * pow e = sh8 y e := by
  have h : e = 0 ∨ e = 1 ∨ e = 2 ∨ e = 3 ∨ e = 4 ∨ e = 5 ∨ e = 6 ∨ e = 7 := by omega
  rcases h with h | h | h | h | h | h | h | h <;> subst h <;> simp [pow, pw, sh8] <;> omega
theorem sh8_range {y e : Int} (hy : 0 ≤ y ∧ y ≤ 600) : 0 ≤ sh8 y e ∧ sh8 y e ≤ 128 * y := by
  simp only [sh8]; repeat' split
  all_goals omega
theorem pw_range : ∀ n : Nat, n ≤ 60 → 1 ≤ pw n ∧ pw n ≤ 1152921504606846976
  | n, h => by
    have : ∀ n : Nat, pw n = ((2 ^ n : Nat) : Int) := by
      intro n; induction n with
      | zero => rfl
      | succ n ih => simp only [pw, ih, Nat.pow_succ]; omega
    rw [this]
    have h1 : 2 ^ n ≤ 2 ^ 60 := Nat.pow_le_pow_right (by omega) h
    have h2 : 0 < 2 ^ n := Nat.pow_pos (by omega)
    omega
theorem pw_end {n : Int} {j : Nat} (h : (j : Int) ≤ n) (h2 : n ≤ j) : pw j = pow n := by simp only [pow]; congr 1; omega
theorem pow_nonpos {n : Int} (h : n ≤ 0) : pow n = 1 := by simp only [pow, show n.toNat = 0 from by omega]; rfl
theorem xor_lt {x : Int} (h : 0 ≤ x ∧ x ≤ 255) : ixor .u8 x 85 = ((x.toNat ^^^ 85 : Nat) : Int) ∧ 0 ≤ ixor .u8 x 85 ∧ ixor .u8 x 85 ≤ 255 ∧ ixor .i64 x 85 = ixor .u8 x 85 := by
  have hx : x < 2 ^ IntKind.u8.bits := by show x < 256; omega
  have hx' : x < 2 ^ IntKind.i64.bits := by show x < 18446744073709551616; omega
  have h8 : (85 : Int) < 2 ^ IntKind.u8.bits := by decide
  have h8' : (85 : Int) < 2 ^ IntKind.i64.bits := by decide
  have hlt : x.toNat ^^^ 85 < 2 ^ 8 := Nat.xor_lt_two_pow (by omega) (by omega)
  have e1 : ixor .u8 x 85 = ((x.toNat ^^^ 85 : Nat) : Int) := by
    rw [ixor_nat h.1 hx (by omega) h8, show Int.toNat 85 = 85 from rfl]; exact wrap_u8 (by omega) (by omega)
  have e2 : ixor .i64 x 85 = ((x.toNat ^^^ 85 : Nat) : Int) := by
    rw [ixor_nat h.1 hx' (by omega) h8', show Int.toNat 85 = 85 from rfl]; exact wrap_i64 (by omega) (by omega)
  exact ⟨e1, by rw [e1]; omega, by rw [e1]; omega, by rw [e2, e1]⟩
end Sp
def C0 : Tab where
  own f := false
  meth t n := if t = 42 then (if n = "dialtone/compand.code" then some 27 else if n = "dialtone/compand.sample" then some 26 else none) else if t = 43 then (if n = "dialtone/compand.code" then some 29 else if n = "dialtone/compand.sample" then some 28 else none) else none
  run f h a := match f, h, a with
    | 32, [], [.c (.int .i64 m)] => some ([], .c (.int .i64 (Sp.expo m)))
    | 30, [], [.c (.int .i64 n)] => some ([], .c (.int .i64 (Sp.pow n)))
    | 27, [], [.a [], .c (.int .i16 x)] => some ([], .c (.int .u8 (Sp.mu x)))
    | 29, [], [.a [], .c (.int .i16 x)] => some ([], .c (.int .u8 (Sp.a x)))
    | 26, [], [.a [], .c (.int .u8 x)] => some ([], .c (.int .i16 (Sp.fmu x)))
    | 28, [], [.a [], .c (.int .u8 x)] => some ([], .c (.int .i16 (Sp.fa x)))
    | 11, [], [.c (.int .i16 x)] => some ([], .c (.int .u8 (Sp.mu x)))
    | 13, [], [.c (.int .i16 x)] => some ([], .c (.int .u8 (Sp.a x)))
    | 10, [], [.c (.int .u8 x)] => some ([], .c (.int .i16 (Sp.fmu x)))
    | 12, [], [.c (.int .u8 x)] => some ([], .c (.int .i16 (Sp.fa x)))
    | 19, [], [.c (.int .u8 x)] => some ([], .c (.int .u8 (Sp.a (Sp.fmu x))))
    | 20, [], [.c (.int .u8 x)] => some ([], .c (.int .u8 (Sp.mu (Sp.fa x))))
    | 15, [], [.c (.int .i16 x)] => some ([], .c (.int .u8 (Sp.mu x)))
    | 16, [], [.c (.int .i16 x)] => some ([], .c (.int .u8 (Sp.a x)))
    | 17, [], [.c (.int .u8 x)] => some ([], .c (.int .i16 (Sp.fmu x)))
    | 18, [], [.c (.int .u8 x)] => some ([], .c (.int .i16 (Sp.fa x)))
    | _, _, _ => none
theorem con_expo (m : Int) : Con Try.prog L0 32 [] [.c (.int .i64 m)] [] (.c (.int .i64 (Sp.expo m))) := by
  refine con_of_vc E_ok mixed Try.func32 rfl Try.call32 (Nat.le_of_ble_eq_true rfl) ?_
  refine VC.seq ?_
  refine VC.region (E := E) (C := C0) E_ok mixed (by first | exact fun _ => rfl | exact fun h => by cases h) [0, 2, 3, 4, 5, 6, 7, 8, 9, 10, 11, 12, 13] (st' := St.mk [(0, AV.c (Value.int IntKind.i64 m)), (2, AV.c (Value.int IntKind.i64 0))] []) (ps := []) (by kernel_rfl) (.nil) ?_
  refine seqK_n ?_
  refine VC.seq ?_
  refine VC.seq ?_
  refine VC.region (E := E) (C := C0) E_ok mixed (by first | exact fun _ => rfl | exact fun h => by cases h) [0, 2, 3, 4, 5, 6, 7, 8, 9, 10, 11, 12, 13] (st' := St.mk [(0, AV.c (Value.int IntKind.i64 m)), (2, AV.c (Value.int IntKind.i64 0)), (4, AV.c (Value.int IntKind.i64 0))] []) (ps := []) (by kernel_rfl) (.nil) ?_
  refine seqK_n ?_
  refine VC.block ?_
  refine VC.rounds 1000 ?_
  refine VCR.next ?_
  refine VC.seq ?_
  refine VC.region (E := E) (C := C0) E_ok mixed (by first | exact fun _ => rfl | exact fun h => by cases h) [0, 2, 3, 4, 5, 6, 7, 8, 9, 10, 11, 12, 13] (st' := St.mk [(0, AV.c (Value.int IntKind.i64 m)), (2, AV.c (Value.int IntKind.i64 0)), (4, AV.c (Value.int IntKind.i64 0)), (5, AV.c (Value.bool true))] []) (ps := []) (by kernel_rfl) (.nil) ?_
  refine seqK_n ?_
  refine VC.seq ?_
  refine VC.cond_t (by kernel_rfl) ?_
  refine VC.skip ?_
  refine seqK_n ?_
  refine VC.seq ?_
  refine VC.block ?_
  refine VC.seq ?_
  refine VC.region (E := E) (C := C0) E_ok mixed (by first | exact fun _ => rfl | exact fun h => by cases h) [0, 2, 3, 4, 5, 6, 7, 8, 9, 10, 11, 12, 13] (st' := St.mk [(0, AV.c (Value.int IntKind.i64 m)), (2, AV.c (Value.int IntKind.i64 0)), (3, AV.c (Value.int IntKind.i64 0)), (4, AV.c (Value.int IntKind.i64 0)), (5, AV.c (Value.bool true)), (6, AV.c (Value.int IntKind.i64 0))] []) (ps := []) (by kernel_rfl) (.nil) ?_
  refine seqK_n ?_
  refine VC.seq ?_
  refine VC.region (E := E) (C := C0) E_ok mixed (by first | exact fun _ => rfl | exact fun h => by cases h) [0, 2, 3, 4, 5, 6, 7, 8, 9, 10, 11, 12, 13] (st' := St.mk [(0, AV.c (Value.int IntKind.i64 m)), (2, AV.c (Value.int IntKind.i64 0)), (3, AV.c (Value.int IntKind.i64 0)), (4, AV.c (Value.int IntKind.i64 0)), (5, AV.c (Value.bool true)), (6, AV.c (Value.int IntKind.i64 0)), (7, AV.c (Value.int IntKind.i64 m)), (8, AV.c (Value.int IntKind.i64 0)), (9, AV.c (Value.int IntKind.i64 8)), (10, AV.c (Value.int IntKind.i64 256)), (11, AV.c (Value.bool (decide (m < 256))))] []) (ps := [(0 : Int) ≤ (8 : Int)]) (by kernel_rfl) (.cons (by trivial) (.nil)) ?_
  refine seqK_n ?_
  refine VC.cond (b := decide (m < 256)) (by kernel_rfl) (fun h1 => ?_) (fun h1 => ?_)
  ·
    simp at h1
    refine VC.seq ?_
    refine VC.region (E := E) (C := C0) E_ok mixed (by first | exact fun _ => rfl | exact fun h => by cases h) [0, 2, 3, 4, 5, 6, 7, 8, 9, 10, 11, 12, 13] (st' := St.mk [(0, AV.c (Value.int IntKind.i64 m)), (2, AV.c (Value.int IntKind.i64 0)), (3, AV.c (Value.int IntKind.i64 0)), (4, AV.c (Value.int IntKind.i64 0)), (5, AV.c (Value.bool true)), (6, AV.c (Value.int IntKind.i64 0)), (7, AV.c (Value.int IntKind.i64 m)), (8, AV.c (Value.int IntKind.i64 0)), (9, AV.c (Value.int IntKind.i64 8)), (10, AV.c (Value.int IntKind.i64 256)), (11, AV.c (Value.bool (decide (m < 256)))), (12, AV.c (Value.int IntKind.i64 0))] []) (ps := []) (by kernel_rfl) (.nil) ?_
    refine seqK_n ?_
    refine VC.ret ?_
    refine blockK_r ?_
    refine seqK_r ?_
    refine roundK_r ?_
    refine blockK_r ?_
    refine seqK_r ?_
    exact Fin.all [] (.inr rfl) (l := [AV.c (Value.int IntKind.i64 0)]) (ps := []) (by kernel_rfl) (by kernel_rfl) (.nil) (All.of (l' := []) (by kernel_rfl) (.nil)) (show AV.c (Value.int IntKind.i64 0) = AV.c (Value.int IntKind.i64 (Sp.expo m)) by refine cong1 ?_; simp only [Sp.expo]; repeat' split; all_goals omega)
  ·
    simp at h1
    refine VC.skip ?_
    refine blockK_n ?_
    refine seqK_n ?_
    refine VC.region (E := E) (C := C0) E_ok mixed (by first | exact fun _ => rfl | exact fun h => by cases h) [0, 2, 3, 4, 5, 6, 7, 8, 9, 10, 11, 12, 13] (st' := St.mk [(0, AV.c (Value.int IntKind.i64 m)), (2, AV.c (Value.int IntKind.i64 0)), (3, AV.c (Value.int IntKind.i64 0)), (4, AV.c (Value.int IntKind.i64 1)), (5, AV.c (Value.bool true)), (6, AV.c (Value.int IntKind.i64 0)), (7, AV.c (Value.int IntKind.i64 m)), (8, AV.c (Value.int IntKind.i64 0)), (9, AV.c (Value.int IntKind.i64 8)), (10, AV.c (Value.int IntKind.i64 256)), (11, AV.c (Value.bool (decide (m < 256)))), (13, AV.c (Value.int IntKind.i64 1))] []) (ps := []) (by kernel_rfl) (.nil) ?_
    refine roundK_n ?_
    refine VCR.next ?_
    refine VC.seq ?_
    refine VC.region (E := E) (C := C0) E_ok mixed (by first | exact fun _ => rfl | exact fun h => by cases h) [0, 2, 3, 4, 5, 6, 7, 8, 9, 10, 11, 12, 13] (st' := St.mk [(0, AV.c (Value.int IntKind.i64 m)), (2, AV.c (Value.int IntKind.i64 0)), (3, AV.c (Value.int IntKind.i64 0)), (4, AV.c (Value.int IntKind.i64 1)), (5, AV.c (Value.bool true)), (6, AV.c (Value.int IntKind.i64 0)), (7, AV.c (Value.int IntKind.i64 m)), (8, AV.c (Value.int IntKind.i64 0)), (9, AV.c (Value.int IntKind.i64 8)), (10, AV.c (Value.int IntKind.i64 256)), (11, AV.c (Value.bool (decide (m < 256)))), (13, AV.c (Value.int IntKind.i64 1))] []) (ps := []) (by kernel_rfl) (.nil) ?_
    refine seqK_n ?_
    refine VC.seq ?_
    refine VC.cond_t (by kernel_rfl) ?_
    refine VC.skip ?_
    refine seqK_n ?_
    refine VC.seq ?_
    refine VC.block ?_
    refine VC.seq ?_
    refine VC.region (E := E) (C := C0) E_ok mixed (by first | exact fun _ => rfl | exact fun h => by cases h) [0, 2, 3, 4, 5, 6, 7, 8, 9, 10, 11, 12, 13] (st' := St.mk [(0, AV.c (Value.int IntKind.i64 m)), (2, AV.c (Value.int IntKind.i64 0)), (3, AV.c (Value.int IntKind.i64 1)), (4, AV.c (Value.int IntKind.i64 1)), (5, AV.c (Value.bool true)), (6, AV.c (Value.int IntKind.i64 1)), (7, AV.c (Value.int IntKind.i64 m)), (8, AV.c (Value.int IntKind.i64 0)), (9, AV.c (Value.int IntKind.i64 8)), (10, AV.c (Value.int IntKind.i64 256)), (11, AV.c (Value.bool (decide (m < 256)))), (13, AV.c (Value.int IntKind.i64 1))] []) (ps := []) (by kernel_rfl) (.nil) ?_
    refine seqK_n ?_
    refine VC.seq ?_
    refine VC.region (E := E) (C := C0) E_ok mixed (by first | exact fun _ => rfl | exact fun h => by cases h) [0, 2, 3, 4, 5, 6, 7, 8, 9, 10, 11, 12, 13] (st' := St.mk [(0, AV.c (Value.int IntKind.i64 m)), (2, AV.c (Value.int IntKind.i64 0)), (3, AV.c (Value.int IntKind.i64 1)), (4, AV.c (Value.int IntKind.i64 1)), (5, AV.c (Value.bool true)), (6, AV.c (Value.int IntKind.i64 1)), (7, AV.c (Value.int IntKind.i64 m)), (8, AV.c (Value.int IntKind.i64 1)), (9, AV.c (Value.int IntKind.i64 9)), (10, AV.c (Value.int IntKind.i64 512)), (11, AV.c (Value.bool (decide (m < 512)))), (13, AV.c (Value.int IntKind.i64 1))] []) (ps := [(0 : Int) ≤ (9 : Int)]) (by kernel_rfl) (.cons (by trivial) (.nil)) ?_
    refine seqK_n ?_
    refine VC.cond (b := decide (m < 512)) (by kernel_rfl) (fun h2 => ?_) (fun h2 => ?_)
    ·
      simp at h2
      refine VC.seq ?_
      refine VC.region (E := E) (C := C0) E_ok mixed (by first | exact fun _ => rfl | exact fun h => by cases h) [0, 2, 3, 4, 5, 6, 7, 8, 9, 10, 11, 12, 13] (st' := St.mk [(0, AV.c (Value.int IntKind.i64 m)), (2, AV.c (Value.int IntKind.i64 1)), (3, AV.c (Value.int IntKind.i64 1)), (4, AV.c (Value.int IntKind.i64 1)), (5, AV.c (Value.bool true)), (6, AV.c (Value.int IntKind.i64 1)), (7, AV.c (Value.int IntKind.i64 m)), (8, AV.c (Value.int IntKind.i64 1)), (9, AV.c (Value.int IntKind.i64 9)), (10, AV.c (Value.int IntKind.i64 512)), (11, AV.c (Value.bool (decide (m < 512)))), (12, AV.c (Value.int IntKind.i64 1)), (13, AV.c (Value.int IntKind.i64 1))] []) (ps := []) (by kernel_rfl) (.nil) ?_
      refine seqK_n ?_
      refine VC.ret ?_
      refine blockK_r ?_
      refine seqK_r ?_
      refine roundK_r ?_
      refine blockK_r ?_
      refine seqK_r ?_
      exact Fin.all [] (.inr rfl) (l := [AV.c (Value.int IntKind.i64 1)]) (ps := []) (by kernel_rfl) (by kernel_rfl) (.nil) (All.of (l' := []) (by kernel_rfl) (.nil)) (show AV.c (Value.int IntKind.i64 1) = AV.c (Value.int IntKind.i64 (Sp.expo m)) by refine cong1 ?_; simp only [Sp.expo]; repeat' split; all_goals omega)
    ·
      simp at h2
      refine VC.skip ?_
      refine blockK_n ?_
      refine seqK_n ?_
      refine VC.region (E := E) (C := C0) E_ok mixed (by first | exact fun _ => rfl | exact fun h => by cases h) [0, 2, 3, 4, 5, 6, 7, 8, 9, 10, 11, 12, 13] (st' := St.mk [(0, AV.c (Value.int IntKind.i64 m)), (2, AV.c (Value.int IntKind.i64 0)), (3, AV.c (Value.int IntKind.i64 1)), (4, AV.c (Value.int IntKind.i64 2)), (5, AV.c (Value.bool true)), (6, AV.c (Value.int IntKind.i64 1)), (7, AV.c (Value.int IntKind.i64 m)), (8, AV.c (Value.int IntKind.i64 1)), (9, AV.c (Value.int IntKind.i64 9)), (10, AV.c (Value.int IntKind.i64 512)), (11, AV.c (Value.bool (decide (m < 512)))), (13, AV.c (Value.int IntKind.i64 2))] []) (ps := []) (by kernel_rfl) (.nil) ?_
      refine roundK_n ?_
      refine VCR.next ?_
      refine VC.seq ?_
      refine VC.region (E := E) (C := C0) E_ok mixed (by first | exact fun _ => rfl | exact fun h => by cases h) [0, 2, 3, 4, 5, 6, 7, 8, 9, 10, 11, 12, 13] (st' := St.mk [(0, AV.c (Value.int IntKind.i64 m)), (2, AV.c (Value.int IntKind.i64 0)), (3, AV.c (Value.int IntKind.i64 1)), (4, AV.c (Value.int IntKind.i64 2)), (5, AV.c (Value.bool true)), (6, AV.c (Value.int IntKind.i64 1)), (7, AV.c (Value.int IntKind.i64 m)), (8, AV.c (Value.int IntKind.i64 1)), (9, AV.c (Value.int IntKind.i64 9)), (10, AV.c (Value.int IntKind.i64 512)), (11, AV.c (Value.bool (decide (m < 512)))), (13, AV.c (Value.int IntKind.i64 2))] []) (ps := []) (by kernel_rfl) (.nil) ?_
      refine seqK_n ?_
      refine VC.seq ?_
      refine VC.cond_t (by kernel_rfl) ?_
      refine VC.skip ?_
      refine seqK_n ?_
      refine VC.seq ?_
      refine VC.block ?_
      refine VC.seq ?_
      refine VC.region (E := E) (C := C0) E_ok mixed (by first | exact fun _ => rfl | exact fun h => by cases h) [0, 2, 3, 4, 5, 6, 7, 8, 9, 10, 11, 12, 13] (st' := St.mk [(0, AV.c (Value.int IntKind.i64 m)), (2, AV.c (Value.int IntKind.i64 0)), (3, AV.c (Value.int IntKind.i64 2)), (4, AV.c (Value.int IntKind.i64 2)), (5, AV.c (Value.bool true)), (6, AV.c (Value.int IntKind.i64 2)), (7, AV.c (Value.int IntKind.i64 m)), (8, AV.c (Value.int IntKind.i64 1)), (9, AV.c (Value.int IntKind.i64 9)), (10, AV.c (Value.int IntKind.i64 512)), (11, AV.c (Value.bool (decide (m < 512)))), (13, AV.c (Value.int IntKind.i64 2))] []) (ps := []) (by kernel_rfl) (.nil) ?_
      refine seqK_n ?_
      refine VC.seq ?_
      refine VC.region (E := E) (C := C0) E_ok mixed (by first | exact fun _ => rfl | exact fun h => by cases h) [0, 2, 3, 4, 5, 6, 7, 8, 9, 10, 11, 12, 13] (st' := St.mk [(0, AV.c (Value.int IntKind.i64 m)), (2, AV.c (Value.int IntKind.i64 0)), (3, AV.c (Value.int IntKind.i64 2)), (4, AV.c (Value.int IntKind.i64 2)), (5, AV.c (Value.bool true)), (6, AV.c (Value.int IntKind.i64 2)), (7, AV.c (Value.int IntKind.i64 m)), (8, AV.c (Value.int IntKind.i64 2)), (9, AV.c (Value.int IntKind.i64 10)), (10, AV.c (Value.int IntKind.i64 1024)), (11, AV.c (Value.bool (decide (m < 1024)))), (13, AV.c (Value.int IntKind.i64 2))] []) (ps := [(0 : Int) ≤ (10 : Int)]) (by kernel_rfl) (.cons (by trivial) (.nil)) ?_
      refine seqK_n ?_
      refine VC.cond (b := decide (m < 1024)) (by kernel_rfl) (fun h3 => ?_) (fun h3 => ?_)
      ·
        simp at h3
        refine VC.seq ?_
        refine VC.region (E := E) (C := C0) E_ok mixed (by first | exact fun _ => rfl | exact fun h => by cases h) [0, 2, 3, 4, 5, 6, 7, 8, 9, 10, 11, 12, 13] (st' := St.mk [(0, AV.c (Value.int IntKind.i64 m)), (2, AV.c (Value.int IntKind.i64 2)), (3, AV.c (Value.int IntKind.i64 2)), (4, AV.c (Value.int IntKind.i64 2)), (5, AV.c (Value.bool true)), (6, AV.c (Value.int IntKind.i64 2)), (7, AV.c (Value.int IntKind.i64 m)), (8, AV.c (Value.int IntKind.i64 2)), (9, AV.c (Value.int IntKind.i64 10)), (10, AV.c (Value.int IntKind.i64 1024)), (11, AV.c (Value.bool (decide (m < 1024)))), (12, AV.c (Value.int IntKind.i64 2)), (13, AV.c (Value.int IntKind.i64 2))] []) (ps := []) (by kernel_rfl) (.nil) ?_
        refine seqK_n ?_
        refine VC.ret ?_
        refine blockK_r ?_
        refine seqK_r ?_
        refine roundK_r ?_
        refine blockK_r ?_
        refine seqK_r ?_
        exact Fin.all [] (.inr rfl) (l := [AV.c (Value.int IntKind.i64 2)]) (ps := []) (by kernel_rfl) (by kernel_rfl) (.nil) (All.of (l' := []) (by kernel_rfl) (.nil)) (show AV.c (Value.int IntKind.i64 2) = AV.c (Value.int IntKind.i64 (Sp.expo m)) by refine cong1 ?_; simp only [Sp.expo]; repeat' split; all_goals omega)
      ·
        simp at h3
        refine VC.skip ?_
        refine blockK_n ?_
        refine seqK_n ?_
        refine VC.region (E := E) (C := C0) E_ok mixed (by first | exact fun _ => rfl | exact fun h => by cases h) [0, 2, 3, 4, 5, 6, 7, 8, 9, 10, 11, 12, 13] (st' := St.mk [(0, AV.c (Value.int IntKind.i64 m)), (2, AV.c (Value.int IntKind.i64 0)), (3, AV.c (Value.int IntKind.i64 2)), (4, AV.c (Value.int IntKind.i64 3)), (5, AV.c (Value.bool true)), (6, AV.c (Value.int IntKind.i64 2)), (7, AV.c (Value.int IntKind.i64 m)), (8, AV.c (Value.int IntKind.i64 2)), (9, AV.c (Value.int IntKind.i64 10)), (10, AV.c (Value.int IntKind.i64 1024)), (11, AV.c (Value.bool (decide (m < 1024)))), (13, AV.c (Value.int IntKind.i64 3))] []) (ps := []) (by kernel_rfl) (.nil) ?_
        refine roundK_n ?_
        refine VCR.next ?_
        refine VC.seq ?_
        refine VC.region (E := E) (C := C0) E_ok mixed (by first | exact fun _ => rfl | exact fun h => by cases h) [0, 2, 3, 4, 5, 6, 7, 8, 9, 10, 11, 12, 13] (st' := St.mk [(0, AV.c (Value.int IntKind.i64 m)), (2, AV.c (Value.int IntKind.i64 0)), (3, AV.c (Value.int IntKind.i64 2)), (4, AV.c (Value.int IntKind.i64 3)), (5, AV.c (Value.bool true)), (6, AV.c (Value.int IntKind.i64 2)), (7, AV.c (Value.int IntKind.i64 m)), (8, AV.c (Value.int IntKind.i64 2)), (9, AV.c (Value.int IntKind.i64 10)), (10, AV.c (Value.int IntKind.i64 1024)), (11, AV.c (Value.bool (decide (m < 1024)))), (13, AV.c (Value.int IntKind.i64 3))] []) (ps := []) (by kernel_rfl) (.nil) ?_
        refine seqK_n ?_
        refine VC.seq ?_
        refine VC.cond_t (by kernel_rfl) ?_
        refine VC.skip ?_
        refine seqK_n ?_
        refine VC.seq ?_
        refine VC.block ?_
        refine VC.seq ?_
        refine VC.region (E := E) (C := C0) E_ok mixed (by first | exact fun _ => rfl | exact fun h => by cases h) [0, 2, 3, 4, 5, 6, 7, 8, 9, 10, 11, 12, 13] (st' := St.mk [(0, AV.c (Value.int IntKind.i64 m)), (2, AV.c (Value.int IntKind.i64 0)), (3, AV.c (Value.int IntKind.i64 3)), (4, AV.c (Value.int IntKind.i64 3)), (5, AV.c (Value.bool true)), (6, AV.c (Value.int IntKind.i64 3)), (7, AV.c (Value.int IntKind.i64 m)), (8, AV.c (Value.int IntKind.i64 2)), (9, AV.c (Value.int IntKind.i64 10)), (10, AV.c (Value.int IntKind.i64 1024)), (11, AV.c (Value.bool (decide (m < 1024)))), (13, AV.c (Value.int IntKind.i64 3))] []) (ps := []) (by kernel_rfl) (.nil) ?_
        refine seqK_n ?_
        refine VC.seq ?_
        refine VC.region (E := E) (C := C0) E_ok mixed (by first | exact fun _ => rfl | exact fun h => by cases h) [0, 2, 3, 4, 5, 6, 7, 8, 9, 10, 11, 12, 13] (st' := St.mk [(0, AV.c (Value.int IntKind.i64 m)), (2, AV.c (Value.int IntKind.i64 0)), (3, AV.c (Value.int IntKind.i64 3)), (4, AV.c (Value.int IntKind.i64 3)), (5, AV.c (Value.bool true)), (6, AV.c (Value.int IntKind.i64 3)), (7, AV.c (Value.int IntKind.i64 m)), (8, AV.c (Value.int IntKind.i64 3)), (9, AV.c (Value.int IntKind.i64 11)), (10, AV.c (Value.int IntKind.i64 2048)), (11, AV.c (Value.bool (decide (m < 2048)))), (13, AV.c (Value.int IntKind.i64 3))] []) (ps := [(0 : Int) ≤ (11 : Int)]) (by kernel_rfl) (.cons (by trivial) (.nil)) ?_
        refine seqK_n ?_
        refine VC.cond (b := decide (m < 2048)) (by kernel_rfl) (fun h4 => ?_) (fun h4 => ?_)
        ·
          simp at h4
          refine VC.seq ?_
          refine VC.region (E := E) (C := C0) E_ok mixed (by first | exact fun _ => rfl | exact fun h => by cases h) [0, 2, 3, 4, 5, 6, 7, 8, 9, 10, 11, 12, 13] (st' := St.mk [(0, AV.c (Value.int IntKind.i64 m)), (2, AV.c (Value.int IntKind.i64 3)), (3, AV.c (Value.int IntKind.i64 3)), (4, AV.c (Value.int IntKind.i64 3)), (5, AV.c (Value.bool true)), (6, AV.c (Value.int IntKind.i64 3)), (7, AV.c (Value.int IntKind.i64 m)), (8, AV.c (Value.int IntKind.i64 3)), (9, AV.c (Value.int IntKind.i64 11)), (10, AV.c (Value.int IntKind.i64 2048)), (11, AV.c (Value.bool (decide (m < 2048)))), (12, AV.c (Value.int IntKind.i64 3)), (13, AV.c (Value.int IntKind.i64 3))] []) (ps := []) (by kernel_rfl) (.nil) ?_
          refine seqK_n ?_
          refine VC.ret ?_
          refine blockK_r ?_
          refine seqK_r ?_
          refine roundK_r ?_
          refine blockK_r ?_
          refine seqK_r ?_
          exact Fin.all [] (.inr rfl) (l := [AV.c (Value.int IntKind.i64 3)]) (ps := []) (by kernel_rfl) (by kernel_rfl) (.nil) (All.of (l' := []) (by kernel_rfl) (.nil)) (show AV.c (Value.int IntKind.i64 3) = AV.c (Value.int IntKind.i64 (Sp.expo m)) by refine cong1 ?_; simp only [Sp.expo]; repeat' split; all_goals omega)
        ·
          simp at h4
          refine VC.skip ?_
          refine blockK_n ?_
          refine seqK_n ?_
          refine VC.region (E := E) (C := C0) E_ok mixed (by first | exact fun _ => rfl | exact fun h => by cases h) [0, 2, 3, 4, 5, 6, 7, 8, 9, 10, 11, 12, 13] (st' := St.mk [(0, AV.c (Value.int IntKind.i64 m)), (2, AV.c (Value.int IntKind.i64 0)), (3, AV.c (Value.int IntKind.i64 3)), (4, AV.c (Value.int IntKind.i64 4)), (5, AV.c (Value.bool true)), (6, AV.c (Value.int IntKind.i64 3)), (7, AV.c (Value.int IntKind.i64 m)), (8, AV.c (Value.int IntKind.i64 3)), (9, AV.c (Value.int IntKind.i64 11)), (10, AV.c (Value.int IntKind.i64 2048)), (11, AV.c (Value.bool (decide (m < 2048)))), (13, AV.c (Value.int IntKind.i64 4))] []) (ps := []) (by kernel_rfl) (.nil) ?_
          refine roundK_n ?_
          refine VCR.next ?_
          refine VC.seq ?_
          refine VC.region (E := E) (C := C0) E_ok mixed (by first | exact fun _ => rfl | exact fun h => by cases h) [0, 2, 3, 4, 5, 6, 7, 8, 9, 10, 11, 12, 13] (st' := St.mk [(0, AV.c (Value.int IntKind.i64 m)), (2, AV.c (Value.int IntKind.i64 0)), (3, AV.c (Value.int IntKind.i64 3)), (4, AV.c (Value.int IntKind.i64 4)), (5, AV.c (Value.bool true)), (6, AV.c (Value.int IntKind.i64 3)), (7, AV.c (Value.int IntKind.i64 m)), (8, AV.c (Value.int IntKind.i64 3)), (9, AV.c (Value.int IntKind.i64 11)), (10, AV.c (Value.int IntKind.i64 2048)), (11, AV.c (Value.bool (decide (m < 2048)))), (13, AV.c (Value.int IntKind.i64 4))] []) (ps := []) (by kernel_rfl) (.nil) ?_
          refine seqK_n ?_
          refine VC.seq ?_
          refine VC.cond_t (by kernel_rfl) ?_
          refine VC.skip ?_
          refine seqK_n ?_
          refine VC.seq ?_
          refine VC.block ?_
          refine VC.seq ?_
          refine VC.region (E := E) (C := C0) E_ok mixed (by first | exact fun _ => rfl | exact fun h => by cases h) [0, 2, 3, 4, 5, 6, 7, 8, 9, 10, 11, 12, 13] (st' := St.mk [(0, AV.c (Value.int IntKind.i64 m)), (2, AV.c (Value.int IntKind.i64 0)), (3, AV.c (Value.int IntKind.i64 4)), (4, AV.c (Value.int IntKind.i64 4)), (5, AV.c (Value.bool true)), (6, AV.c (Value.int IntKind.i64 4)), (7, AV.c (Value.int IntKind.i64 m)), (8, AV.c (Value.int IntKind.i64 3)), (9, AV.c (Value.int IntKind.i64 11)), (10, AV.c (Value.int IntKind.i64 2048)), (11, AV.c (Value.bool (decide (m < 2048)))), (13, AV.c (Value.int IntKind.i64 4))] []) (ps := []) (by kernel_rfl) (.nil) ?_
          refine seqK_n ?_
          refine VC.seq ?_
          refine VC.region (E := E) (C := C0) E_ok mixed (by first | exact fun _ => rfl | exact fun h => by cases h) [0, 2, 3, 4, 5, 6, 7, 8, 9, 10, 11, 12, 13] (st' := St.mk [(0, AV.c (Value.int IntKind.i64 m)), (2, AV.c (Value.int IntKind.i64 0)), (3, AV.c (Value.int IntKind.i64 4)), (4, AV.c (Value.int IntKind.i64 4)), (5, AV.c (Value.bool true)), (6, AV.c (Value.int IntKind.i64 4)), (7, AV.c (Value.int IntKind.i64 m)), (8, AV.c (Value.int IntKind.i64 4)), (9, AV.c (Value.int IntKind.i64 12)), (10, AV.c (Value.int IntKind.i64 4096)), (11, AV.c (Value.bool (decide (m < 4096)))), (13, AV.c (Value.int IntKind.i64 4))] []) (ps := [(0 : Int) ≤ (12 : Int)]) (by kernel_rfl) (.cons (by trivial) (.nil)) ?_
          refine seqK_n ?_
          refine VC.cond (b := decide (m < 4096)) (by kernel_rfl) (fun h5 => ?_) (fun h5 => ?_)
          ·
            simp at h5
            refine VC.seq ?_
            refine VC.region (E := E) (C := C0) E_ok mixed (by first | exact fun _ => rfl | exact fun h => by cases h) [0, 2, 3, 4, 5, 6, 7, 8, 9, 10, 11, 12, 13] (st' := St.mk [(0, AV.c (Value.int IntKind.i64 m)), (2, AV.c (Value.int IntKind.i64 4)), (3, AV.c (Value.int IntKind.i64 4)), (4, AV.c (Value.int IntKind.i64 4)), (5, AV.c (Value.bool true)), (6, AV.c (Value.int IntKind.i64 4)), (7, AV.c (Value.int IntKind.i64 m)), (8, AV.c (Value.int IntKind.i64 4)), (9, AV.c (Value.int IntKind.i64 12)), (10, AV.c (Value.int IntKind.i64 4096)), (11, AV.c (Value.bool (decide (m < 4096)))), (12, AV.c (Value.int IntKind.i64 4)), (13, AV.c (Value.int IntKind.i64 4))] []) (ps := []) (by kernel_rfl) (.nil) ?_
            refine seqK_n ?_
            refine VC.ret ?_
            refine blockK_r ?_
            refine seqK_r ?_
            refine roundK_r ?_
            refine blockK_r ?_
            refine seqK_r ?_
            exact Fin.all [] (.inr rfl) (l := [AV.c (Value.int IntKind.i64 4)]) (ps := []) (by kernel_rfl) (by kernel_rfl) (.nil) (All.of (l' := []) (by kernel_rfl) (.nil)) (show AV.c (Value.int IntKind.i64 4) = AV.c (Value.int IntKind.i64 (Sp.expo m)) by refine cong1 ?_; simp only [Sp.expo]; repeat' split; all_goals omega)
          ·
            simp at h5
            refine VC.skip ?_
            refine blockK_n ?_
            refine seqK_n ?_
            refine VC.region (E := E) (C := C0) E_ok mixed (by first | exact fun _ => rfl | exact fun h => by cases h) [0, 2, 3, 4, 5, 6, 7, 8, 9, 10, 11, 12, 13] (st' := St.mk [(0, AV.c (Value.int IntKind.i64 m)), (2, AV.c (Value.int IntKind.i64 0)), (3, AV.c (Value.int IntKind.i64 4)), (4, AV.c (Value.int IntKind.i64 5)), (5, AV.c (Value.bool true)), (6, AV.c (Value.int IntKind.i64 4)), (7, AV.c (Value.int IntKind.i64 m)), (8, AV.c (Value.int IntKind.i64 4)), (9, AV.c (Value.int IntKind.i64 12)), (10, AV.c (Value.int IntKind.i64 4096)), (11, AV.c (Value.bool (decide (m < 4096)))), (13, AV.c (Value.int IntKind.i64 5))] []) (ps := []) (by kernel_rfl) (.nil) ?_
            refine roundK_n ?_
            refine VCR.next ?_
            refine VC.seq ?_
            refine VC.region (E := E) (C := C0) E_ok mixed (by first | exact fun _ => rfl | exact fun h => by cases h) [0, 2, 3, 4, 5, 6, 7, 8, 9, 10, 11, 12, 13] (st' := St.mk [(0, AV.c (Value.int IntKind.i64 m)), (2, AV.c (Value.int IntKind.i64 0)), (3, AV.c (Value.int IntKind.i64 4)), (4, AV.c (Value.int IntKind.i64 5)), (5, AV.c (Value.bool true)), (6, AV.c (Value.int IntKind.i64 4)), (7, AV.c (Value.int IntKind.i64 m)), (8, AV.c (Value.int IntKind.i64 4)), (9, AV.c (Value.int IntKind.i64 12)), (10, AV.c (Value.int IntKind.i64 4096)), (11, AV.c (Value.bool (decide (m < 4096)))), (13, AV.c (Value.int IntKind.i64 5))] []) (ps := []) (by kernel_rfl) (.nil) ?_
            refine seqK_n ?_
            refine VC.seq ?_
            refine VC.cond_t (by kernel_rfl) ?_
            refine VC.skip ?_
            refine seqK_n ?_
            refine VC.seq ?_
            refine VC.block ?_
            refine VC.seq ?_
            refine VC.region (E := E) (C := C0) E_ok mixed (by first | exact fun _ => rfl | exact fun h => by cases h) [0, 2, 3, 4, 5, 6, 7, 8, 9, 10, 11, 12, 13] (st' := St.mk [(0, AV.c (Value.int IntKind.i64 m)), (2, AV.c (Value.int IntKind.i64 0)), (3, AV.c (Value.int IntKind.i64 5)), (4, AV.c (Value.int IntKind.i64 5)), (5, AV.c (Value.bool true)), (6, AV.c (Value.int IntKind.i64 5)), (7, AV.c (Value.int IntKind.i64 m)), (8, AV.c (Value.int IntKind.i64 4)), (9, AV.c (Value.int IntKind.i64 12)), (10, AV.c (Value.int IntKind.i64 4096)), (11, AV.c (Value.bool (decide (m < 4096)))), (13, AV.c (Value.int IntKind.i64 5))] []) (ps := []) (by kernel_rfl) (.nil) ?_
            refine seqK_n ?_
            refine VC.seq ?_
            refine VC.region (E := E) (C := C0) E_ok mixed (by first | exact fun _ => rfl | exact fun h => by cases h) [0, 2, 3, 4, 5, 6, 7, 8, 9, 10, 11, 12, 13] (st' := St.mk [(0, AV.c (Value.int IntKind.i64 m)), (2, AV.c (Value.int IntKind.i64 0)), (3, AV.c (Value.int IntKind.i64 5)), (4, AV.c (Value.int IntKind.i64 5)), (5, AV.c (Value.bool true)), (6, AV.c (Value.int IntKind.i64 5)), (7, AV.c (Value.int IntKind.i64 m)), (8, AV.c (Value.int IntKind.i64 5)), (9, AV.c (Value.int IntKind.i64 13)), (10, AV.c (Value.int IntKind.i64 8192)), (11, AV.c (Value.bool (decide (m < 8192)))), (13, AV.c (Value.int IntKind.i64 5))] []) (ps := [(0 : Int) ≤ (13 : Int)]) (by kernel_rfl) (.cons (by trivial) (.nil)) ?_
            refine seqK_n ?_
            refine VC.cond (b := decide (m < 8192)) (by kernel_rfl) (fun h6 => ?_) (fun h6 => ?_)
            ·
              simp at h6
              refine VC.seq ?_
              refine VC.region (E := E) (C := C0) E_ok mixed (by first | exact fun _ => rfl | exact fun h => by cases h) [0, 2, 3, 4, 5, 6, 7, 8, 9, 10, 11, 12, 13] (st' := St.mk [(0, AV.c (Value.int IntKind.i64 m)), (2, AV.c (Value.int IntKind.i64 5)), (3, AV.c (Value.int IntKind.i64 5)), (4, AV.c (Value.int IntKind.i64 5)), (5, AV.c (Value.bool true)), (6, AV.c (Value.int IntKind.i64 5)), (7, AV.c (Value.int IntKind.i64 m)), (8, AV.c (Value.int IntKind.i64 5)), (9, AV.c (Value.int IntKind.i64 13)), (10, AV.c (Value.int IntKind.i64 8192)), (11, AV.c (Value.bool (decide (m < 8192)))), (12, AV.c (Value.int IntKind.i64 5)), (13, AV.c (Value.int IntKind.i64 5))] []) (ps := []) (by kernel_rfl) (.nil) ?_
              refine seqK_n ?_
              refine VC.ret ?_
              refine blockK_r ?_
              refine seqK_r ?_
              refine roundK_r ?_
              refine blockK_r ?_
              refine seqK_r ?_
              exact Fin.all [] (.inr rfl) (l := [AV.c (Value.int IntKind.i64 5)]) (ps := []) (by kernel_rfl) (by kernel_rfl) (.nil) (All.of (l' := []) (by kernel_rfl) (.nil)) (show AV.c (Value.int IntKind.i64 5) = AV.c (Value.int IntKind.i64 (Sp.expo m)) by refine cong1 ?_; simp only [Sp.expo]; repeat' split; all_goals omega)
            ·
              simp at h6
              refine VC.skip ?_
              refine blockK_n ?_
              refine seqK_n ?_
              refine VC.region (E := E) (C := C0) E_ok mixed (by first | exact fun _ => rfl | exact fun h => by cases h) [0, 2, 3, 4, 5, 6, 7, 8, 9, 10, 11, 12, 13] (st' := St.mk [(0, AV.c (Value.int IntKind.i64 m)), (2, AV.c (Value.int IntKind.i64 0)), (3, AV.c (Value.int IntKind.i64 5)), (4, AV.c (Value.int IntKind.i64 6)), (5, AV.c (Value.bool true)), (6, AV.c (Value.int IntKind.i64 5)), (7, AV.c (Value.int IntKind.i64 m)), (8, AV.c (Value.int IntKind.i64 5)), (9, AV.c (Value.int IntKind.i64 13)), (10, AV.c (Value.int IntKind.i64 8192)), (11, AV.c (Value.bool (decide (m < 8192)))), (13, AV.c (Value.int IntKind.i64 6))] []) (ps := []) (by kernel_rfl) (.nil) ?_
              refine roundK_n ?_
              refine VCR.next ?_
              refine VC.seq ?_
              refine VC.region (E := E) (C := C0) E_ok mixed (by first | exact fun _ => rfl | exact fun h => by cases h) [0, 2, 3, 4, 5, 6, 7, 8, 9, 10, 11, 12, 13] (st' := St.mk [(0, AV.c (Value.int IntKind.i64 m)), (2, AV.c (Value.int IntKind.i64 0)), (3, AV.c (Value.int IntKind.i64 5)), (4, AV.c (Value.int IntKind.i64 6)), (5, AV.c (Value.bool true)), (6, AV.c (Value.int IntKind.i64 5)), (7, AV.c (Value.int IntKind.i64 m)), (8, AV.c (Value.int IntKind.i64 5)), (9, AV.c (Value.int IntKind.i64 13)), (10, AV.c (Value.int IntKind.i64 8192)), (11, AV.c (Value.bool (decide (m < 8192)))), (13, AV.c (Value.int IntKind.i64 6))] []) (ps := []) (by kernel_rfl) (.nil) ?_
              refine seqK_n ?_
              refine VC.seq ?_
              refine VC.cond_t (by kernel_rfl) ?_
              refine VC.skip ?_
              refine seqK_n ?_
              refine VC.seq ?_
              refine VC.block ?_
              refine VC.seq ?_
              refine VC.region (E := E) (C := C0) E_ok mixed (by first | exact fun _ => rfl | exact fun h => by cases h) [0, 2, 3, 4, 5, 6, 7, 8, 9, 10, 11, 12, 13] (st' := St.mk [(0, AV.c (Value.int IntKind.i64 m)), (2, AV.c (Value.int IntKind.i64 0)), (3, AV.c (Value.int IntKind.i64 6)), (4, AV.c (Value.int IntKind.i64 6)), (5, AV.c (Value.bool true)), (6, AV.c (Value.int IntKind.i64 6)), (7, AV.c (Value.int IntKind.i64 m)), (8, AV.c (Value.int IntKind.i64 5)), (9, AV.c (Value.int IntKind.i64 13)), (10, AV.c (Value.int IntKind.i64 8192)), (11, AV.c (Value.bool (decide (m < 8192)))), (13, AV.c (Value.int IntKind.i64 6))] []) (ps := []) (by kernel_rfl) (.nil) ?_
              refine seqK_n ?_
              refine VC.seq ?_
              refine VC.region (E := E) (C := C0) E_ok mixed (by first | exact fun _ => rfl | exact fun h => by cases h) [0, 2, 3, 4, 5, 6, 7, 8, 9, 10, 11, 12, 13] (st' := St.mk [(0, AV.c (Value.int IntKind.i64 m)), (2, AV.c (Value.int IntKind.i64 0)), (3, AV.c (Value.int IntKind.i64 6)), (4, AV.c (Value.int IntKind.i64 6)), (5, AV.c (Value.bool true)), (6, AV.c (Value.int IntKind.i64 6)), (7, AV.c (Value.int IntKind.i64 m)), (8, AV.c (Value.int IntKind.i64 6)), (9, AV.c (Value.int IntKind.i64 14)), (10, AV.c (Value.int IntKind.i64 16384)), (11, AV.c (Value.bool (decide (m < 16384)))), (13, AV.c (Value.int IntKind.i64 6))] []) (ps := [(0 : Int) ≤ (14 : Int)]) (by kernel_rfl) (.cons (by trivial) (.nil)) ?_
              refine seqK_n ?_
              refine VC.cond (b := decide (m < 16384)) (by kernel_rfl) (fun h7 => ?_) (fun h7 => ?_)
              ·
                simp at h7
                refine VC.seq ?_
                refine VC.region (E := E) (C := C0) E_ok mixed (by first | exact fun _ => rfl | exact fun h => by cases h) [0, 2, 3, 4, 5, 6, 7, 8, 9, 10, 11, 12, 13] (st' := St.mk [(0, AV.c (Value.int IntKind.i64 m)), (2, AV.c (Value.int IntKind.i64 6)), (3, AV.c (Value.int IntKind.i64 6)), (4, AV.c (Value.int IntKind.i64 6)), (5, AV.c (Value.bool true)), (6, AV.c (Value.int IntKind.i64 6)), (7, AV.c (Value.int IntKind.i64 m)), (8, AV.c (Value.int IntKind.i64 6)), (9, AV.c (Value.int IntKind.i64 14)), (10, AV.c (Value.int IntKind.i64 16384)), (11, AV.c (Value.bool (decide (m < 16384)))), (12, AV.c (Value.int IntKind.i64 6)), (13, AV.c (Value.int IntKind.i64 6))] []) (ps := []) (by kernel_rfl) (.nil) ?_
                refine seqK_n ?_
                refine VC.ret ?_
                refine blockK_r ?_
                refine seqK_r ?_
                refine roundK_r ?_
                refine blockK_r ?_
                refine seqK_r ?_
                exact Fin.all [] (.inr rfl) (l := [AV.c (Value.int IntKind.i64 6)]) (ps := []) (by kernel_rfl) (by kernel_rfl) (.nil) (All.of (l' := []) (by kernel_rfl) (.nil)) (show AV.c (Value.int IntKind.i64 6) = AV.c (Value.int IntKind.i64 (Sp.expo m)) by refine cong1 ?_; simp only [Sp.expo]; repeat' split; all_goals omega)
              ·
                simp at h7
                refine VC.skip ?_
                refine blockK_n ?_
                refine seqK_n ?_
                refine VC.region (E := E) (C := C0) E_ok mixed (by first | exact fun _ => rfl | exact fun h => by cases h) [0, 2, 3, 4, 5, 6, 7, 8, 9, 10, 11, 12, 13] (st' := St.mk [(0, AV.c (Value.int IntKind.i64 m)), (2, AV.c (Value.int IntKind.i64 0)), (3, AV.c (Value.int IntKind.i64 6)), (4, AV.c (Value.int IntKind.i64 7)), (5, AV.c (Value.bool true)), (6, AV.c (Value.int IntKind.i64 6)), (7, AV.c (Value.int IntKind.i64 m)), (8, AV.c (Value.int IntKind.i64 6)), (9, AV.c (Value.int IntKind.i64 14)), (10, AV.c (Value.int IntKind.i64 16384)), (11, AV.c (Value.bool (decide (m < 16384)))), (13, AV.c (Value.int IntKind.i64 7))] []) (ps := []) (by kernel_rfl) (.nil) ?_
                refine roundK_n ?_
                refine VCR.next ?_
                refine VC.seq ?_
                refine VC.region (E := E) (C := C0) E_ok mixed (by first | exact fun _ => rfl | exact fun h => by cases h) [0, 2, 3, 4, 5, 6, 7, 8, 9, 10, 11, 12, 13] (st' := St.mk [(0, AV.c (Value.int IntKind.i64 m)), (2, AV.c (Value.int IntKind.i64 0)), (3, AV.c (Value.int IntKind.i64 6)), (4, AV.c (Value.int IntKind.i64 7)), (5, AV.c (Value.bool false)), (6, AV.c (Value.int IntKind.i64 6)), (7, AV.c (Value.int IntKind.i64 m)), (8, AV.c (Value.int IntKind.i64 6)), (9, AV.c (Value.int IntKind.i64 14)), (10, AV.c (Value.int IntKind.i64 16384)), (11, AV.c (Value.bool (decide (m < 16384)))), (13, AV.c (Value.int IntKind.i64 7))] []) (ps := []) (by kernel_rfl) (.nil) ?_
                refine seqK_n ?_
                refine VC.seq ?_
                refine VC.cond_f (by kernel_rfl) ?_
                refine VC.exit ?_
                refine seqK_x ?_
                refine roundK_x ?_
                refine blockK_x ?_
                refine seqK_n ?_
                refine VC.seq ?_
                refine VC.region (E := E) (C := C0) E_ok mixed (by first | exact fun _ => rfl | exact fun h => by cases h) [2] (st' := St.mk [(2, AV.c (Value.int IntKind.i64 7))] []) (ps := []) (by kernel_rfl) (.nil) ?_
                refine seqK_n ?_
                refine VC.ret ?_
                exact Fin.all [] (.inr rfl) (l := [AV.c (Value.int IntKind.i64 7)]) (ps := []) (by kernel_rfl) (by kernel_rfl) (.nil) (All.of (l' := []) (by kernel_rfl) (.nil)) (show AV.c (Value.int IntKind.i64 7) = AV.c (Value.int IntKind.i64 (Sp.expo m)) by refine cong1 ?_; simp only [Sp.expo]; repeat' split; all_goals omega)
theorem con_power (n : Int) (hn : n ≤ 40) : Con Try.prog L0 30 [] [.c (.int .i64 n)] [] (.c (.int .i64 (Sp.pow n))) := by
  refine con_of_vc E_ok mixed Try.func30 rfl Try.call30 (Nat.le_of_ble_eq_true rfl) ?_
  by_cases h0 : n ≤ 0
  ·
    refine VC.seq ?_
    refine VC.region (E := E) (C := C0) E_ok mixed (by first | exact fun _ => rfl | exact fun h => by cases h) [0, 2, 3, 4, 5, 6, 7, 8, 9, 10, 11, 12] (st' := St.mk [(0, AV.c (Value.int IntKind.i64 n)), (2, AV.c (Value.int IntKind.i64 0))] []) (ps := []) (by kernel_rfl) (.nil) ?_
    refine seqK_n ?_
    refine VC.seq ?_
    refine VC.region (E := E) (C := C0) E_ok mixed (by first | exact fun _ => rfl | exact fun h => by cases h) [0, 2, 3, 4, 5, 6, 7, 8, 9, 10, 11, 12] (st' := St.mk [(0, AV.c (Value.int IntKind.i64 n)), (2, AV.c (Value.int IntKind.i64 0)), (3, AV.c (Value.int IntKind.i64 1))] []) (ps := []) (by kernel_rfl) (.nil) ?_
    refine seqK_n ?_
    refine VC.seq ?_
    refine VC.seq ?_
    refine VC.region (E := E) (C := C0) E_ok mixed (by first | exact fun _ => rfl | exact fun h => by cases h) [0, 2, 3, 4, 5, 6, 7, 8, 9, 10, 11, 12] (st' := St.mk [(0, AV.c (Value.int IntKind.i64 n)), (2, AV.c (Value.int IntKind.i64 0)), (3, AV.c (Value.int IntKind.i64 1)), (4, AV.c (Value.int IntKind.i64 0))] []) (ps := []) (by kernel_rfl) (.nil) ?_
    refine seqK_n ?_
    refine VC.block ?_
    refine VC.rounds 1000 ?_
    refine VCR.next ?_
    refine VC.seq ?_
    refine VC.seq ?_
    refine VC.region (E := E) (C := C0) E_ok mixed (by first | exact fun _ => rfl | exact fun h => by cases h) [0, 2, 3, 4, 5, 6, 7, 8, 9, 10, 11, 12] (st' := St.mk [(0, AV.c (Value.int IntKind.i64 n)), (2, AV.c (Value.int IntKind.i64 0)), (3, AV.c (Value.int IntKind.i64 1)), (4, AV.c (Value.int IntKind.i64 0)), (5, AV.c (Value.int IntKind.i64 0)), (6, AV.c (Value.int IntKind.i64 n)), (7, AV.c (Value.bool (decide (0 < n))))] []) (ps := []) (by kernel_rfl) (.nil) ?_
    refine seqK_n ?_
    refine VC.cond (b := decide (0 < n)) (by kernel_rfl) (fun h1 => ?_) (fun h1 => ?_)
    ·
      simp at h1
      (exfalso; omega)
    ·
      simp at h1
      refine VC.exit ?_
      refine seqK_x ?_
      refine roundK_x ?_
      refine blockK_x ?_
      refine seqK_n ?_
      refine VC.seq ?_
      refine VC.region (E := E) (C := C0) E_ok mixed (by first | exact fun _ => rfl | exact fun h => by cases h) [2] (st' := St.mk [(2, AV.c (Value.int IntKind.i64 1))] []) (ps := []) (by kernel_rfl) (.nil) ?_
      refine seqK_n ?_
      refine VC.ret ?_
      exact Fin.all [] (.inr rfl) (l := [AV.c (Value.int IntKind.i64 1)]) (ps := []) (by kernel_rfl) (by kernel_rfl) (.nil) (All.of (l' := []) (by kernel_rfl) (.nil)) (show AV.c (Value.int IntKind.i64 1) = AV.c (Value.int IntKind.i64 (Sp.pow n)) by rw [Sp.pow_nonpos h0])
  ·
    refine VC.seq ?_
    refine VC.region (E := E) (C := C0) E_ok mixed (by first | exact fun _ => rfl | exact fun h => by cases h) [0, 2, 3, 4, 5, 6, 7, 8, 9, 10, 11, 12] (st' := St.mk [(0, AV.c (Value.int IntKind.i64 n)), (2, AV.c (Value.int IntKind.i64 0))] []) (ps := []) (by kernel_rfl) (.nil) ?_
    refine seqK_n ?_
    refine VC.seq ?_
    refine VC.region (E := E) (C := C0) E_ok mixed (by first | exact fun _ => rfl | exact fun h => by cases h) [0, 2, 3, 4, 5, 6, 7, 8, 9, 10, 11, 12] (st' := St.mk [(0, AV.c (Value.int IntKind.i64 n)), (2, AV.c (Value.int IntKind.i64 0)), (3, AV.c (Value.int IntKind.i64 1))] []) (ps := []) (by kernel_rfl) (.nil) ?_
    refine seqK_n ?_
    refine VC.seq ?_
    refine VC.seq ?_
    refine VC.region (E := E) (C := C0) E_ok mixed (by first | exact fun _ => rfl | exact fun h => by cases h) [0, 2, 3, 4, 5, 6, 7, 8, 9, 10, 11, 12] (st' := St.mk [(0, AV.c (Value.int IntKind.i64 n)), (2, AV.c (Value.int IntKind.i64 0)), (3, AV.c (Value.int IntKind.i64 1)), (4, AV.c (Value.int IntKind.i64 0))] []) (ps := []) (by kernel_rfl) (.nil) ?_
    refine seqK_n ?_
    refine VC.block ?_
    refine VC.loop (Y := {j : Nat // (j : Int) ≤ n}) (fun j => ⟨[(0, .c (.int .i64 n)), (3, .c (.int .i64 (Sp.pw j.1))), (4, .c (.int .i64 (j.1 : Nat)))], []⟩) (fun j => (n - j.1).toNat) ⟨0, by omega⟩ ?_ ?_
    ·
      exact Ent.map [] (by kernel_rfl) (All.of (l' := []) (by kernel_rfl) (.nil)) (All.of (l' := [some (AV.c (Value.int IntKind.i64 n)) = some (AV.c (Value.int IntKind.i64 n)), some (AV.c (Value.int IntKind.i64 (1 : Int))) = some (AV.c (Value.int IntKind.i64 (1 : Int))), some (AV.c (Value.int IntKind.i64 (0 : Int))) = some (AV.c (Value.int IntKind.i64 (0 : Int)))]) (by kernel_rfl) (.cons (by with_reducible rfl) (.cons (by with_reducible rfl) (.cons (by with_reducible rfl) (.nil)))))
    intro ⟨j, hj⟩
    refine VC.seq ?_
    refine VC.seq ?_
    refine VC.region (E := E) (C := C0) E_ok mixed (by first | exact fun _ => rfl | exact fun h => by cases h) [0, 2, 3, 4, 7, 8, 9, 10, 11, 12] (st' := St.mk [(0, AV.c (Value.int IntKind.i64 n)), (3, AV.c (Value.int IntKind.i64 (Sp.pw j))), (4, AV.c (Value.int IntKind.i64 (↑j : Int))), (7, AV.c (Value.bool (decide ((↑j : Int) < n))))] []) (ps := []) (by kernel_rfl) (.nil) ?_
    refine seqK_n ?_
    refine VC.cond (b := decide ((↑j : Int) < n)) (by kernel_rfl) (fun h1 => ?_) (fun h1 => ?_)
    ·
      simp at h1
      refine VC.skip ?_
      refine seqK_n ?_
      refine VC.seq ?_
      refine VC.block ?_
      refine VC.region (E := E) (C := C0) E_ok mixed (by first | exact fun _ => rfl | exact fun h => by cases h) [0, 2, 3, 4, 8, 9, 12] (st' := St.mk [(0, AV.c (Value.int IntKind.i64 n)), (3, AV.c (Value.int IntKind.i64 (IntKind.wrap IntKind.i64 (2 * Sp.pw j)))), (4, AV.c (Value.int IntKind.i64 (↑j : Int)))] []) (ps := []) (by kernel_rfl) (.nil) ?_
      refine blockK_n ?_
      refine seqK_n ?_
      refine VC.regionE (E := E) (C := C0) E_ok mixed (by first | exact fun _ => rfl | exact fun h => by cases h) [0, 2, 3, 4, 12] (st' := St.mk [(0, AV.c (Value.int IntKind.i64 n)), (3, AV.c (Value.int IntKind.i64 (IntKind.wrap IntKind.i64 (2 * Sp.pw j)))), (4, AV.c (Value.int IntKind.i64 (IntKind.wrap IntKind.i64 ((↑j : Int) + 1))))] []) (ps := []) (by kernel_rfl) (.nil) (st'' := St.mk [(0, AV.c (Value.int IntKind.i64 n)), (3, AV.c (Value.int IntKind.i64 (IntKind.wrap IntKind.i64 (2 * Sp.pw j)))), (4, AV.c (Value.int IntKind.i64 ((↑j : Int) + 1)))] []) (by simp (disch := omega) only [wrap_i8, wrap_i16, wrap_i32, wrap_i64, wrap_u8, wrap_u16, wrap_u32, wrap_u64, Int.tdiv_eq_ediv_of_nonneg, Int.tmod_eq_emod_of_nonneg, Int.toNat_natCast, Int.reduceToNat, Nat.mul_one, Nat.zero_add, Nat.add_zero, Nat.one_mul, Int.one_mul, Int.zero_add, Int.add_zero, Int.mul_one, List.drop_zero, List.take_length, Int.zero_sub]) ?_
      refine loopK_n (⟨j + 1, by omega⟩) ?_ ?_
      ·
        exact (show Int.toNat (n - (↑(j + 1) : Int)) < Int.toNat (n - (↑j : Int)) by omega)
      ·
        exact Ent.map [] (by kernel_rfl) (All.of (l' := []) (by kernel_rfl) (.nil)) (All.of (l' := [some (AV.c (Value.int IntKind.i64 n)) = some (AV.c (Value.int IntKind.i64 n)), some (AV.c (Value.int IntKind.i64 (IntKind.wrap IntKind.i64 ((2 : Int) * Sp.pw j)))) = some (AV.c (Value.int IntKind.i64 (Sp.pw (j + (1 : Nat))))), some (AV.c (Value.int IntKind.i64 ((↑j : Int) + (1 : Int)))) = some (AV.c (Value.int IntKind.i64 (↑(j + (1 : Nat)) : Int)))]) (by kernel_rfl) (.cons (by with_reducible rfl) (.cons (by exact congrArg (fun x => some (AV.c (Value.int .i64 x))) (wrap_i64 (x := 2 * Sp.pw j) (by have := Sp.pw_range j (by omega); omega) (by have := Sp.pw_range j (by omega); omega))) (.cons (by trivial) (.nil)))))
    ·
      simp at h1
      refine VC.exit ?_
      refine seqK_x ?_
      refine loopK_x ?_
      refine blockK_x ?_
      refine seqK_n ?_
      refine VC.seq ?_
      refine VC.region (E := E) (C := C0) E_ok mixed (by first | exact fun _ => rfl | exact fun h => by cases h) [2] (st' := St.mk [(2, AV.c (Value.int IntKind.i64 (Sp.pw j)))] []) (ps := []) (by kernel_rfl) (.nil) ?_
      refine seqK_n ?_
      refine VC.ret ?_
      exact Fin.all [] (.inr rfl) (l := [AV.c (Value.int IntKind.i64 (Sp.pw j))]) (ps := []) (by kernel_rfl) (by kernel_rfl) (.nil) (All.of (l' := []) (by kernel_rfl) (.nil)) (show AV.c (Value.int IntKind.i64 (Sp.pw j)) = AV.c (Value.int IntKind.i64 (Sp.pow n)) by rw [Sp.pw_end (by omega) (by omega)])

end Go.Proofs.Ytmghbhaocfehnaa
