/-
  A part of the walk: contracts of functions, each proved once.
-/
import Derived.Test.YtllomeekbocfmaaEvRow
import Derived.Test.YtllomeekbocfmaaK29H
namespace Go.Proofs.Ytllomeekbocfmaa
open Go Go.Ev
set_option linter.unusedVariables false
set_option linter.unusedSimpArgs false
set_option maxRecDepth 20000
namespace Sp
def amp (v : Int) : Int := ishr .u32 32767 (v / 6)
def nx (s : Int) : Int := (s * 1103515245 + 12345) % 4294967296
def sd : Nat → Int → Int
  | 0, s => s
  | n + 1, s => nx (sd n s)
def smp (a s : Int) : Int := s / 65536 % (2 * a + 1) - a
def noise (a s : Int) (n : Nat) : List Int := (List.range n).map fun i => smp a (sd (i + 1) s)
def noiF (a s : Int) (n j : Nat) : List Int := noise a s j ++ List.replicate (n - j) 0
def noiE (n : Int) : Int := if n < 0 ∨ 8000 < n then 3 else 0
def noiL (v s n : Int) : List Int := if noiE n = 0 then noise (amp v) s n.toNat else []
def noiS (v s n : Int) : Int := if noiE n = 0 then sd n.toNat s else 0
theorem noise_len (a s : Int) (n : Nat) : (noise a s n).length = n := by simp [noise]
theorem noise_succ (a s : Int) (n : Nat) : noise a s (n + 1) = noise a s n ++ [smp a (nx (sd n s))] := by simp [noise, List.range_succ, sd]
theorem noiF_len (a s : Int) {n j : Nat} (h : j ≤ n) : (noiF a s n j).length = n := by simp [noiF, noise_len]; omega
theorem noiF_0 (a s : Int) (n : Nat) : noiF a s n 0 = List.replicate n 0 := by simp [noiF, noise]
theorem noiF_end (a s : Int) (n : Nat) : noiF a s n n = noise a s n := by simp [noiF]
theorem noiF_set (a s : Int) {n j : Nat} (h : j < n) : (noiF a s n j).set j (smp a (nx (sd j s))) = noiF a s n (j + 1) := by
  have e : n - j = (n - (j + 1)) + 1 := by omega
  simp only [noiF]
  rw [e, List.replicate_succ, List.set_append_right _ _ (by rw [noise_len]; omega), noise_len, Nat.sub_self, List.set_cons_zero, noise_succ]
  simp
theorem nx_rng (s : Int) : 0 ≤ nx s ∧ nx s ≤ 4294967295 := by simp only [nx]; omega
theorem sd_rng {s : Int} (h : 0 ≤ s ∧ s ≤ 4294967295) : ∀ n, 0 ≤ sd n s ∧ sd n s ≤ 4294967295
  | 0 => h
  | n + 1 => nx_rng _
theorem nx_u32 (s : Int) : IntKind.u32.wrap (IntKind.u32.wrap (s * 1103515245) + 12345) = nx s := by
  rw [mod_u32, mod_u32, nx]; omega
theorem amp_rng {v : Int} (h : 0 ≤ v ∧ v ≤ 255) : 0 ≤ amp v ∧ amp v ≤ 32767 := by
  have : ∀ v : Fin 256, 0 ≤ amp (v.val : Int) ∧ amp (v.val : Int) ≤ 32767 := by decide +kernel
  have := this ⟨v.toNat, by omega⟩
  simpa [Int.toNat_of_nonneg h.1] using this
theorem shr16 (s : Int) : ishr .u32 s 16 = s / 65536 := by
  show s.fdiv (2 ^ (min 16 32)) = _
  rw [show ((2 : Int) ^ (min 16 32)) = 65536 from rfl, Int.fdiv_eq_ediv_of_nonneg _ (by omega)]
theorem smp_rng {a s : Int} (ha : 0 ≤ a ∧ a ≤ 32767) : -a ≤ smp a s ∧ smp a s ≤ a := by
  have h1 := Int.emod_nonneg (s / 65536) (by omega : 2 * a + 1 ≠ 0)
  have h2 := Int.emod_lt_of_pos (s / 65536) (by omega : 0 < 2 * a + 1)
  simp only [smp]; omega
theorem smp_1 {a s : Int} (ha : 0 ≤ a ∧ a ≤ 32767) : IntKind.i16.wrap (IntKind.i64.wrap (IntKind.i64.wrap (Int.tmod (nx s / 65536) (2 * a + 1)) - a)) = smp a (nx s) := by
  have h := nx_rng s
  have h1 := Int.emod_nonneg (nx s / 65536) (by omega : 2 * a + 1 ≠ 0)
  have h2 := Int.emod_lt_of_pos (nx s / 65536) (by omega : 0 < 2 * a + 1)
  have h3 := smp_rng (s := nx s) ha
  rw [Int.tmod_eq_emod_of_nonneg (by omega), wrap_i64 (x := _ % _) (by omega) (by omega)]
  rw [show nx s / 65536 % (2 * a + 1) - a = smp a (nx s) from rfl, wrap_i64 (by omega) (by omega), wrap_i16 (by omega) (by omega)]
theorem noi_bad {v s n : Int} (h : n < 0 ∨ 8000 < n) : noiL v s n = [] ∧ noiS v s n = 0 ∧ noiE n = 3 := by
  have : noiE n = 3 := by simp only [noiE]; rw [if_pos h]
  simp [noiL, noiS, this]
theorem noi_ok {v s n : Int} (h : 0 ≤ n ∧ n ≤ 8000) : noiL v s n = noise (amp v) s n.toNat ∧ noiS v s n = sd n.toNat s ∧ noiE n = 0 := by
  have : noiE n = 0 := by simp only [noiE]; rw [if_neg (by omega)]
  simp [noiL, noiS, this]
theorem noi_end {v s n : Int} {j : Nat} (h : 0 ≤ n ∧ n ≤ 8000) (hj : (j : Int) ≤ n) (h2 : n ≤ j) : List.take n.toNat (List.drop 0 (noiF (amp v) s n.toNat j)) = noiL v s n ∧ sd j s = noiS v s n ∧ noiE n = 0 := by
  obtain ⟨e1, e2, e3⟩ := noi_ok (v := v) (s := s) h
  have e : n.toNat = j := by omega
  rw [e1, e2, e, noiF_end, List.drop_zero, List.take_of_length_le (by rw [noise_len]; omega)]
  exact ⟨rfl, rfl, e3⟩
def half : Nat → Int
  | 0 => 32767
  | n + 1 => half n / 2
theorem half_rng : ∀ n, 0 ≤ half n ∧ half n ≤ 32767
  | 0 => by decide
  | n + 1 => by have := half_rng n; simp only [half]; omega
theorem halve (n : Nat) : half (n + 1) = half n / 2 := rfl
theorem half_amp : ∀ v : Fin 256, half ((v.val : Int) / 6).toNat = amp (v.val : Int) := by decide +kernel
theorem half_end {v : Int} {j : Nat} (hv : 0 ≤ v ∧ v ≤ 255) (hj : (j : Int) ≤ v / 6) (h : v / 6 ≤ j) : half j = amp v := by
  have := half_amp ⟨v.toNat, by omega⟩
  simp only [Int.toNat_of_nonneg hv.1] at this
  rw [show (v / 6).toNat = j by omega] at this
  exact this
end Sp
theorem con_Noise (v s n : Int) (hv : 0 ≤ v ∧ v ≤ 255) (hs : 0 ≤ s ∧ s ≤ 4294967295) : Con Try.prog L0 32 [] [.c (.int .u8 v), .c (.int .u32 s), .c (.int .i64 n)] [] (.t [.ri .i16 (Sp.noiL v s n), .c (.int .u32 (Sp.noiS v s n)), .c (.int .u8 (Sp.noiE n))]) := by
  refine con_of_vc E_ok mixed Try.func32 rfl Try.call32 (Nat.le_of_ble_eq_true rfl) ?_
  have ha := Sp.amp_rng hv
  refine VC.seq ?_
  refine VC.region (E := E) (C := C4) E_ok mixed (by first | exact fun _ => rfl | exact fun h => by cases h) [0, 1, 2, 6, 7, 8, 9, 10, 11, 12, 13, 14, 15, 16, 17, 18, 19, 20, 21, 22, 23, 24, 25, 26, 27, 28, 29, 30, 31, 32, 33, 34, 35, 36, 37, 38, 39, 40, 41, 42, 43, 44, 45, 46] (st' := St.mk [(0, AV.c (Value.int IntKind.u8 v)), (1, AV.c (Value.int IntKind.u32 s)), (2, AV.c (Value.int IntKind.i64 n)), (6, AV.c (Value.slice none 0 0)), (7, AV.c (Value.int IntKind.u32 0)), (8, AV.c (Value.int IntKind.u8 0))] []) (ps := []) (by kernel_rfl) (.nil) ?_
  refine seqK_n ?_
  refine VC.seq ?_
  refine VC.seq ?_
  refine VC.region (E := E) (C := C4) E_ok mixed (by first | exact fun _ => rfl | exact fun h => by cases h) [0, 1, 2, 6, 7, 8, 9, 10, 11, 17, 18, 19, 20, 21, 22, 23, 24, 25, 26, 27, 28, 29, 30, 31, 32, 33, 34, 35, 36, 37, 38, 39, 40, 41, 42, 43, 44, 45, 46] (st' := St.mk [(0, AV.c (Value.int IntKind.u8 v)), (1, AV.c (Value.int IntKind.u32 s)), (2, AV.c (Value.int IntKind.i64 n)), (6, AV.c (Value.slice none 0 0)), (7, AV.c (Value.int IntKind.u32 0)), (8, AV.c (Value.int IntKind.u8 0)), (17, AV.c (Value.bool (if decide (n < 0) = true then true else decide (8000 < n))))] []) (ps := [(!decide (n < (0 : Int))) = true → True, (!decide (n < (0 : Int))) = true → (!decide (n < (0 : Int))) = true ∧ True, decide (n < (0 : Int)) = true → True, decide (n < (0 : Int)) = false → (!decide (n < (0 : Int))) = true ∧ True]) (by kernel_rfl) (.cons (by exact fun _ => trivial) (.cons (by exact fun h => ⟨h, trivial⟩) (.cons (by exact fun _ => trivial) (.cons (by exact fun h => ⟨by rw [h]; rfl, trivial⟩) (.nil))))) ?_
  refine seqK_n ?_
  refine VC.cond (b := if decide (n < 0) = true then true else decide (8000 < n)) (by kernel_rfl) (fun h1 => ?_) (fun h1 => ?_)
  ·
    simp [-List.getD_eq_getElem?_getD] at h1
    refine VC.seq ?_
    refine VC.region (E := E) (C := C4) E_ok mixed (by first | exact fun _ => rfl | exact fun h => by cases h) [0, 1, 2, 6, 7, 8, 9, 10, 11, 18, 19, 20, 21, 22, 23, 24, 25, 26, 27, 28, 29, 30, 31, 32, 33, 34, 35, 36, 37, 38, 39, 40, 41, 42, 43, 44, 45, 46] (st' := St.mk [(0, AV.c (Value.int IntKind.u8 v)), (1, AV.c (Value.int IntKind.u32 s)), (2, AV.c (Value.int IntKind.i64 n)), (6, AV.c (Value.slice none 0 0)), (7, AV.c (Value.int IntKind.u32 0)), (8, AV.c (Value.int IntKind.u8 3))] []) (ps := []) (by kernel_rfl) (.nil) ?_
    refine seqK_n ?_
    refine VC.ent (Ent.sub (st' := St.mk [(0, AV.c (Value.int IntKind.u8 v)), (1, AV.c (Value.int IntKind.u32 s)), (2, AV.c (Value.int IntKind.i64 n)), (6, AV.ri IntKind.i16 []), (7, AV.c (Value.int IntKind.u32 0)), (8, AV.c (Value.int IntKind.u8 3))] []) (All.of (l' := [(0 : Nat) = (0 : Nat), AV.c (Value.int IntKind.u8 v) = AV.c (Value.int IntKind.u8 v), (1 : Nat) = (1 : Nat), AV.c (Value.int IntKind.u32 s) = AV.c (Value.int IntKind.u32 s), (2 : Nat) = (2 : Nat), AV.c (Value.int IntKind.i64 n) = AV.c (Value.int IntKind.i64 n), (6 : Nat) = (6 : Nat), @Eq (List Int) ([]) ([]), (7 : Nat) = (7 : Nat), AV.c (Value.int IntKind.u32 (0 : Int)) = AV.c (Value.int IntKind.u32 (0 : Int)), (8 : Nat) = (8 : Nat), AV.c (Value.int IntKind.u8 (3 : Int)) = AV.c (Value.int IntKind.u8 (3 : Int))]) (by kernel_rfl) (.cons (by rfl) (.cons (by rfl) (.cons (by rfl) (.cons (by rfl) (.cons (by rfl) (.cons (by rfl) (.cons (by rfl) (.cons (by rfl) (.cons (by rfl) (.cons (by rfl) (.cons (by rfl) (.cons (by rfl) (.nil))))))))))))))) ?_
    refine VC.ret ?_
    refine seqK_r ?_
    exact Fin.all [] (.inr rfl) (l := [AV.ri IntKind.i16 [], AV.c (Value.int IntKind.u32 0), AV.c (Value.int IntKind.u8 3)]) (ps := []) (by kernel_rfl) (by kernel_rfl) (.nil) (All.of (l' := []) (by kernel_rfl) (.nil)) (show AV.t [AV.ri IntKind.i16 [], AV.c (Value.int IntKind.u32 0), AV.c (Value.int IntKind.u8 3)] = AV.t [AV.ri IntKind.i16 (Sp.noiL v s n), AV.c (Value.int IntKind.u32 (Sp.noiS v s n)), AV.c (Value.int IntKind.u8 (Sp.noiE n))] by have hb := Sp.noi_bad (v := v) (s := s) h1; rw [hb.1, hb.2.1, hb.2.2])
  ·
    simp [-List.getD_eq_getElem?_getD] at h1
    refine VC.skip ?_
    refine seqK_n ?_
    refine VC.seq ?_
    refine VC.regionE (E := E) (C := C4) E_ok mixed (by first | exact fun _ => rfl | exact fun h => by cases h) [1, 2, 6, 7, 8, 9, 10, 11, 21, 22, 23, 24, 25, 26, 27, 28, 29, 30, 31, 32, 33, 34, 35, 36, 37, 38, 39, 40, 41, 42, 43, 44, 45, 46] (st' := St.mk [(1, AV.c (Value.int IntKind.u32 s)), (2, AV.c (Value.int IntKind.i64 n)), (6, AV.c (Value.slice none 0 0)), (7, AV.c (Value.int IntKind.u32 0)), (8, AV.c (Value.int IntKind.u8 0)), (9, AV.c (Value.int IntKind.u32 (ishr IntKind.u32 32767 (IntKind.wrap IntKind.u8 (Int.tdiv v 6)))))] []) (ps := [(6 : Int) ≠ (0 : Int), (0 : Int) ≤ IntKind.wrap IntKind.u8 (Int.tdiv v (6 : Int))]) (by kernel_rfl) (.cons (by trivial) (.cons (by simp (disch := omega) only [wrap_i8, wrap_i16, wrap_i32, wrap_i64, wrap_u8, wrap_u16, wrap_u32, wrap_u64, Int.tdiv_eq_ediv_of_nonneg, Int.tmod_eq_emod_of_nonneg, Int.toNat_natCast, Int.reduceToNat, Nat.mul_one, Nat.zero_add, Nat.add_zero, Nat.one_mul, Int.one_mul, Int.zero_add, Int.add_zero, Int.mul_one, List.drop_zero, List.take_length, Int.zero_sub, List.length_map, List.length_set, Sp.nx_u32, Sp.shr16]; omega) (.nil))) (st'' := St.mk [(1, AV.c (Value.int IntKind.u32 s)), (2, AV.c (Value.int IntKind.i64 n)), (6, AV.c (Value.slice none 0 0)), (7, AV.c (Value.int IntKind.u32 0)), (8, AV.c (Value.int IntKind.u8 0)), (9, AV.c (Value.int IntKind.u32 (ishr IntKind.u32 32767 (v / 6))))] []) (by (simp (disch := omega) only [wrap_i8, wrap_i16, wrap_i32, wrap_i64, wrap_u8, wrap_u16, wrap_u32, wrap_u64, Int.tdiv_eq_ediv_of_nonneg, Int.tmod_eq_emod_of_nonneg, Int.toNat_natCast, Int.reduceToNat, Nat.mul_one, Nat.zero_add, Nat.add_zero, Nat.one_mul, Int.one_mul, Int.zero_add, Int.add_zero, Int.mul_one, List.drop_zero, List.take_length, Int.zero_sub, List.length_map, List.length_set, Sp.nx_u32, Sp.shr16]) <;> rfl) ?_
    refine seqK_n ?_
    refine VC.seq ?_
    refine VC.region (E := E) (C := C4) E_ok mixed (by first | exact fun _ => rfl | exact fun h => by cases h) [1, 2, 6, 7, 8, 9, 10, 11, 23, 24, 25, 26, 27, 28, 29, 30, 31, 32, 33, 34, 35, 36, 37, 38, 39, 40, 41, 42, 43, 44, 45, 46] (st' := St.mk [(1, AV.c (Value.int IntKind.u32 s)), (2, AV.c (Value.int IntKind.i64 n)), (6, AV.c (Value.slice none 0 0)), (7, AV.c (Value.int IntKind.u32 0)), (8, AV.c (Value.int IntKind.u8 0)), (9, AV.c (Value.int IntKind.u32 (ishr IntKind.u32 32767 (v / 6)))), (10, AV.s 0 0 (Int.toNat n) (Int.toNat n))] [HObj.oi 40 IntKind.i16 (List.replicate (Int.toNat n) 0)]) (ps := [(0 : Int) ≤ n, n ≤ n, (2 : Int) * n ≤ (281474976710656 : Int), n ≤ (9223372036854775807 : Int), (1 : Nat) = (1 : Nat), @Eq (List Value) ([Value.int IntKind.i16 (0 : Int)]) ([Value.int IntKind.i16 (0 : Int)])]) (by kernel_rfl) (.cons (by omega) (.cons (by omega) (.cons (by omega) (.cons (by omega) (.cons (by trivial) (.cons (by trivial) (.nil))))))) ?_
    refine seqK_n ?_
    refine VC.seq ?_
    refine VC.seq ?_
    refine VC.region (E := E) (C := C4) E_ok mixed (by first | exact fun _ => rfl | exact fun h => by cases h) [1, 6, 7, 8, 9, 10, 11, 23, 24, 25, 26, 27, 28, 29, 30, 31, 32, 33, 34, 35, 36, 37, 38, 39, 40, 41, 42, 43, 44, 45, 46] (st' := St.mk [(1, AV.c (Value.int IntKind.u32 s)), (6, AV.c (Value.slice none 0 0)), (7, AV.c (Value.int IntKind.u32 0)), (8, AV.c (Value.int IntKind.u8 0)), (9, AV.c (Value.int IntKind.u32 (ishr IntKind.u32 32767 (v / 6)))), (10, AV.s 0 0 (Int.toNat n) (Int.toNat n)), (23, AV.c (Value.int IntKind.i64 n)), (24, AV.c (Value.int IntKind.i64 0))] [HObj.oi 40 IntKind.i16 (List.replicate (Int.toNat n) 0)]) (ps := []) (by kernel_rfl) (.nil) ?_
    refine seqK_n ?_
    refine VC.block ?_
    refine VC.loop (Y := {j : Nat // (j : Int) ≤ n}) (fun j => ⟨[(1, .c (.int .u32 (Sp.sd j.1 s))), (9, .c (.int .u32 (Sp.amp v))), (10, .s 0 0 n.toNat n.toNat), (23, .c (.int .i64 n)), (24, .c (.int .i64 (j.1 : Nat)))], [.oi 40 .i16 (Sp.noiF (Sp.amp v) s n.toNat j.1)]⟩) (fun j => (n - j.1).toNat) ⟨0, by omega⟩ ?_ ?_
    ·
      exact Ent.map [0] (by kernel_rfl) (All.of (l' := [HObj.oi (40 : TypeId) IntKind.i16 (Sp.noiF (Sp.amp v) s (Int.toNat n) (0 : Nat)) = HObj.dead ∨ HObj.oi (40 : TypeId) IntKind.i16 (List.replicate (Int.toNat n) (0 : Int)) = HObj.oi (40 : TypeId) IntKind.i16 (Sp.noiF (Sp.amp v) s (Int.toNat n) (0 : Nat))]) (by kernel_rfl) (.cons (by exact .inr rfl) (.nil))) (All.of (l' := [some (AV.c (Value.int IntKind.u32 s)) = some (AV.c (Value.int IntKind.u32 (Sp.sd (0 : Nat) s))), some (AV.c (Value.int IntKind.u32 (ishr IntKind.u32 (32767 : Int) (v / (6 : Int))))) = some (AV.c (Value.int IntKind.u32 (Sp.amp v))), some (AV.s (0 : Nat) (0 : Nat) (Int.toNat n) (Int.toNat n)) = some (AV.s (0 : Nat) (0 : Nat) (Int.toNat n) (Int.toNat n)), some (AV.c (Value.int IntKind.i64 n)) = some (AV.c (Value.int IntKind.i64 n)), some (AV.c (Value.int IntKind.i64 (0 : Int))) = some (AV.c (Value.int IntKind.i64 (0 : Int)))]) (by kernel_rfl) (.cons (by trivial) (.cons (by trivial) (.cons (by with_reducible rfl) (.cons (by with_reducible rfl) (.cons (by with_reducible rfl) (.nil)))))))
    intro ⟨j, hj⟩
    refine VC.seq ?_
    refine VC.region (E := E) (C := C4) E_ok mixed (by first | exact fun _ => rfl | exact fun h => by cases h) [1, 6, 7, 8, 9, 10, 11, 23, 24, 25, 26, 27, 28, 29, 30, 31, 32, 33, 34, 35, 36, 37, 38, 39, 40, 41, 42, 43, 44, 45, 46] (st' := St.mk [(1, AV.c (Value.int IntKind.u32 (Sp.sd j s))), (9, AV.c (Value.int IntKind.u32 (Sp.amp v))), (10, AV.s 0 0 (Int.toNat n) (Int.toNat n)), (23, AV.c (Value.int IntKind.i64 n)), (24, AV.c (Value.int IntKind.i64 (↑j : Int))), (25, AV.c (Value.bool (decide ((↑j : Int) < n))))] [HObj.oi 40 IntKind.i16 (Sp.noiF (Sp.amp v) s (Int.toNat n) j)]) (ps := []) (by kernel_rfl) (.nil) ?_
    refine seqK_n ?_
    refine VC.seq ?_
    refine VC.cond (b := decide ((↑j : Int) < n)) (by kernel_rfl) (fun h2 => ?_) (fun h2 => ?_)
    ·
      simp [-List.getD_eq_getElem?_getD] at h2
      refine VC.skip ?_
      refine seqK_n ?_
      refine VC.seq ?_
      refine VC.block ?_
      refine VC.seq ?_
      refine VC.region (E := E) (C := C4) E_ok mixed (by first | exact fun _ => rfl | exact fun h => by cases h) [1, 6, 7, 8, 9, 10, 11, 23, 24, 27, 28, 29, 30, 31, 32, 33, 34, 35, 36, 37, 38, 39, 40, 41, 42, 43, 44, 45, 46] (st' := St.mk [(1, AV.c (Value.int IntKind.u32 (Sp.sd j s))), (9, AV.c (Value.int IntKind.u32 (Sp.amp v))), (10, AV.s 0 0 (Int.toNat n) (Int.toNat n)), (11, AV.c (Value.int IntKind.i64 (↑j : Int))), (23, AV.c (Value.int IntKind.i64 n)), (24, AV.c (Value.int IntKind.i64 (↑j : Int)))] [HObj.oi 40 IntKind.i16 (Sp.noiF (Sp.amp v) s (Int.toNat n) j)]) (ps := []) (by kernel_rfl) (.nil) ?_
      refine seqK_n ?_
      refine VC.seq ?_
      refine VC.regionE (E := E) (C := C4) E_ok mixed (by first | exact fun _ => rfl | exact fun h => by cases h) [1, 6, 7, 8, 9, 10, 11, 23, 24, 30, 31, 32, 33, 34, 35, 36, 37, 38, 39, 40, 41, 42, 43, 44, 45, 46] (st' := St.mk [(1, AV.c (Value.int IntKind.u32 (IntKind.wrap IntKind.u32 (IntKind.wrap IntKind.u32 (Sp.sd j s * 1103515245) + 12345)))), (9, AV.c (Value.int IntKind.u32 (Sp.amp v))), (10, AV.s 0 0 (Int.toNat n) (Int.toNat n)), (11, AV.c (Value.int IntKind.i64 (↑j : Int))), (23, AV.c (Value.int IntKind.i64 n)), (24, AV.c (Value.int IntKind.i64 (↑j : Int)))] [HObj.oi 40 IntKind.i16 (Sp.noiF (Sp.amp v) s (Int.toNat n) j)]) (ps := []) (by kernel_rfl) (.nil) (st'' := St.mk [(1, AV.c (Value.int IntKind.u32 (Sp.nx (Sp.sd j s)))), (9, AV.c (Value.int IntKind.u32 (Sp.amp v))), (10, AV.s 0 0 (Int.toNat n) (Int.toNat n)), (11, AV.c (Value.int IntKind.i64 (↑j : Int))), (23, AV.c (Value.int IntKind.i64 n)), (24, AV.c (Value.int IntKind.i64 (↑j : Int)))] [HObj.oi 40 IntKind.i16 (Sp.noiF (Sp.amp v) s (Int.toNat n) j)]) (by (simp (disch := omega) only [wrap_i8, wrap_i16, wrap_i32, wrap_i64, wrap_u8, wrap_u16, wrap_u32, wrap_u64, Int.tdiv_eq_ediv_of_nonneg, Int.tmod_eq_emod_of_nonneg, Int.toNat_natCast, Int.reduceToNat, Nat.mul_one, Nat.zero_add, Nat.add_zero, Nat.one_mul, Int.one_mul, Int.zero_add, Int.add_zero, Int.mul_one, List.drop_zero, List.take_length, Int.zero_sub, List.length_map, List.length_set, Sp.nx_u32, Sp.shr16]) <;> rfl) ?_
      refine seqK_n ?_
      refine VC.regionE (E := E) (C := C4) E_ok mixed (by first | exact fun _ => rfl | exact fun h => by cases h) [1, 6, 7, 8, 9, 10, 23, 24, 44, 45, 46] (st' := St.mk [(1, AV.c (Value.int IntKind.u32 (Sp.nx (Sp.sd j s)))), (9, AV.c (Value.int IntKind.u32 (Sp.amp v))), (10, AV.s 0 0 (Int.toNat n) (Int.toNat n)), (23, AV.c (Value.int IntKind.i64 n)), (24, AV.c (Value.int IntKind.i64 (↑j : Int)))] [HObj.oi 40 IntKind.i16 (List.set (Sp.noiF (Sp.amp v) s (Int.toNat n) j) (0 + Int.toNat (↑j : Int) * 1) (IntKind.wrap IntKind.i16 (IntKind.wrap IntKind.i64 (IntKind.wrap IntKind.i64 (Int.tmod (ishr IntKind.u32 (Sp.nx (Sp.sd j s)) 16) (IntKind.wrap IntKind.u32 (IntKind.wrap IntKind.u32 (2 * Sp.amp v) + 1))) - IntKind.wrap IntKind.i64 (Sp.amp v)))))]) (ps := [(0 : Int) ≤ (16 : Int), IntKind.wrap IntKind.u32 (IntKind.wrap IntKind.u32 ((2 : Int) * Sp.amp v) + (1 : Int)) ≠ (0 : Int), (0 : Int) ≤ (↑j : Int), (↑j : Int) < (↑(Int.toNat n) : Int), (0 : Nat) < List.length (Sp.noiF (Sp.amp v) s (Int.toNat n) j), (0 : Nat) + Int.toNat (↑j : Int) * (1 : Nat) < List.length (Sp.noiF (Sp.amp v) s (Int.toNat n) j)]) (by kernel_rfl) (.cons (by trivial) (.cons (by simp (disch := omega) only [wrap_i8, wrap_i16, wrap_i32, wrap_i64, wrap_u8, wrap_u16, wrap_u32, wrap_u64, Int.tdiv_eq_ediv_of_nonneg, Int.tmod_eq_emod_of_nonneg, Int.toNat_natCast, Int.reduceToNat, Nat.mul_one, Nat.zero_add, Nat.add_zero, Nat.one_mul, Int.one_mul, Int.zero_add, Int.add_zero, Int.mul_one, List.drop_zero, List.take_length, Int.zero_sub, List.length_map, List.length_set, Sp.nx_u32, Sp.shr16]; omega) (.cons (by omega) (.cons (by omega) (.cons (by rw [Sp.noiF_len _ _ (by omega)]; omega) (.cons (by rw [Sp.noiF_len _ _ (by omega)]; omega) (.nil))))))) (st'' := St.mk [(1, AV.c (Value.int IntKind.u32 (Sp.nx (Sp.sd j s)))), (9, AV.c (Value.int IntKind.u32 (Sp.amp v))), (10, AV.s 0 0 (Int.toNat n) (Int.toNat n)), (23, AV.c (Value.int IntKind.i64 n)), (24, AV.c (Value.int IntKind.i64 (↑j : Int)))] [HObj.oi 40 IntKind.i16 (List.set (Sp.noiF (Sp.amp v) s (Int.toNat n) j) j (IntKind.wrap IntKind.i16 (IntKind.wrap IntKind.i64 (IntKind.wrap IntKind.i64 (Int.tmod (Sp.nx (Sp.sd j s) / 65536) (2 * Sp.amp v + 1)) - Sp.amp v))))]) (by (simp (disch := omega) only [wrap_i8, wrap_i16, wrap_i32, wrap_i64, wrap_u8, wrap_u16, wrap_u32, wrap_u64, Int.tdiv_eq_ediv_of_nonneg, Int.tmod_eq_emod_of_nonneg, Int.toNat_natCast, Int.reduceToNat, Nat.mul_one, Nat.zero_add, Nat.add_zero, Nat.one_mul, Int.one_mul, Int.zero_add, Int.add_zero, Int.mul_one, List.drop_zero, List.take_length, Int.zero_sub, List.length_map, List.length_set, Sp.nx_u32, Sp.shr16]) <;> rfl) ?_
      refine blockK_n ?_
      refine seqK_n ?_
      refine VC.regionE (E := E) (C := C4) E_ok mixed (by first | exact fun _ => rfl | exact fun h => by cases h) [1, 6, 7, 8, 9, 10, 23, 24, 45, 46] (st' := St.mk [(1, AV.c (Value.int IntKind.u32 (Sp.nx (Sp.sd j s)))), (9, AV.c (Value.int IntKind.u32 (Sp.amp v))), (10, AV.s 0 0 (Int.toNat n) (Int.toNat n)), (23, AV.c (Value.int IntKind.i64 n)), (24, AV.c (Value.int IntKind.i64 (IntKind.wrap IntKind.i64 ((↑j : Int) + 1))))] [HObj.oi 40 IntKind.i16 (List.set (Sp.noiF (Sp.amp v) s (Int.toNat n) j) j (IntKind.wrap IntKind.i16 (IntKind.wrap IntKind.i64 (IntKind.wrap IntKind.i64 (Int.tmod (Sp.nx (Sp.sd j s) / 65536) (2 * Sp.amp v + 1)) - Sp.amp v))))]) (ps := []) (by kernel_rfl) (.nil) (st'' := St.mk [(1, AV.c (Value.int IntKind.u32 (Sp.nx (Sp.sd j s)))), (9, AV.c (Value.int IntKind.u32 (Sp.amp v))), (10, AV.s 0 0 (Int.toNat n) (Int.toNat n)), (23, AV.c (Value.int IntKind.i64 n)), (24, AV.c (Value.int IntKind.i64 ((↑j : Int) + 1)))] [HObj.oi 40 IntKind.i16 (List.set (Sp.noiF (Sp.amp v) s (Int.toNat n) j) j (IntKind.wrap IntKind.i16 (IntKind.wrap IntKind.i64 (IntKind.wrap IntKind.i64 (Int.tmod (Sp.nx (Sp.sd j s) / 65536) (2 * Sp.amp v + 1)) - Sp.amp v))))]) (by (simp (disch := omega) only [wrap_i8, wrap_i16, wrap_i32, wrap_i64, wrap_u8, wrap_u16, wrap_u32, wrap_u64, Int.tdiv_eq_ediv_of_nonneg, Int.tmod_eq_emod_of_nonneg, Int.toNat_natCast, Int.reduceToNat, Nat.mul_one, Nat.zero_add, Nat.add_zero, Nat.one_mul, Int.one_mul, Int.zero_add, Int.add_zero, Int.mul_one, List.drop_zero, List.take_length, Int.zero_sub, List.length_map, List.length_set, Sp.nx_u32, Sp.shr16]) <;> rfl) ?_
      refine loopK_n (⟨j + 1, by omega⟩) ?_ ?_
      ·
        exact (show Int.toNat (n - (↑(j + 1) : Int)) < Int.toNat (n - (↑j : Int)) by omega)
      ·
        exact Ent.map [0] (by kernel_rfl) (All.of (l' := [HObj.oi (40 : TypeId) IntKind.i16 (Sp.noiF (Sp.amp v) s (Int.toNat n) (j + (1 : Nat))) = HObj.dead ∨ HObj.oi (40 : TypeId) IntKind.i16 (List.set (Sp.noiF (Sp.amp v) s (Int.toNat n) j) j (IntKind.wrap IntKind.i16 (IntKind.wrap IntKind.i64 (IntKind.wrap IntKind.i64 (Int.tmod (Sp.nx (Sp.sd j s) / (65536 : Int)) ((2 : Int) * Sp.amp v + (1 : Int))) - Sp.amp v)))) = HObj.oi (40 : TypeId) IntKind.i16 (Sp.noiF (Sp.amp v) s (Int.toNat n) (j + (1 : Nat)))]) (by kernel_rfl) (.cons (by exact .inr (by rw [Sp.smp_1 ha, Sp.noiF_set _ _ (by omega)])) (.nil))) (All.of (l' := [some (AV.c (Value.int IntKind.u32 (Sp.nx (Sp.sd j s)))) = some (AV.c (Value.int IntKind.u32 (Sp.sd (j + (1 : Nat)) s))), some (AV.c (Value.int IntKind.u32 (Sp.amp v))) = some (AV.c (Value.int IntKind.u32 (Sp.amp v))), some (AV.s (0 : Nat) (0 : Nat) (Int.toNat n) (Int.toNat n)) = some (AV.s (0 : Nat) (0 : Nat) (Int.toNat n) (Int.toNat n)), some (AV.c (Value.int IntKind.i64 n)) = some (AV.c (Value.int IntKind.i64 n)), some (AV.c (Value.int IntKind.i64 ((↑j : Int) + (1 : Int)))) = some (AV.c (Value.int IntKind.i64 (↑(j + (1 : Nat)) : Int)))]) (by kernel_rfl) (.cons (by trivial) (.cons (by with_reducible rfl) (.cons (by with_reducible rfl) (.cons (by with_reducible rfl) (.cons (by trivial) (.nil)))))))
    ·
      simp [-List.getD_eq_getElem?_getD] at h2
      refine VC.exit ?_
      refine seqK_x ?_
      refine loopK_x ?_
      refine blockK_x ?_
      refine seqK_n ?_
      refine VC.seq ?_
      refine VC.region (E := E) (C := C4) E_ok mixed (by first | exact fun _ => rfl | exact fun h => by cases h) [6, 7, 8] (st' := St.mk [(6, AV.s 0 0 (Int.toNat n) (Int.toNat n)), (7, AV.c (Value.int IntKind.u32 (Sp.sd j s))), (8, AV.c (Value.int IntKind.u8 0))] [HObj.oi 40 IntKind.i16 (Sp.noiF (Sp.amp v) s (Int.toNat n) j)]) (ps := []) (by kernel_rfl) (.nil) ?_
      refine seqK_n ?_
      refine VC.ent (Ent.freeze 0 (st' := St.mk [(6, AV.ri IntKind.i16 (List.take (Int.toNat n) (List.drop 0 (Sp.noiF (Sp.amp v) s (Int.toNat n) j)))), (7, AV.c (Value.int IntKind.u32 (Sp.sd j s))), (8, AV.c (Value.int IntKind.u8 0))] [HObj.dead]) trivial (by kernel_rfl) (All.of (l' := [Int.toNat n ≤ Int.toNat n, (0 : Nat) + Int.toNat n ≤ List.length (Sp.noiF (Sp.amp v) s (Int.toNat n) j)]) (by kernel_rfl) (.cons (by omega) (.cons (by rw [Sp.noiF_len _ _ (by omega)]; omega) (.nil))))) ?_
      refine VC.ret ?_
      exact Fin.all [] (.inr rfl) (l := [AV.ri IntKind.i16 (List.take (Int.toNat n) (List.drop 0 (Sp.noiF (Sp.amp v) s (Int.toNat n) j))), AV.c (Value.int IntKind.u32 (Sp.sd j s)), AV.c (Value.int IntKind.u8 0)]) (ps := []) (by kernel_rfl) (by kernel_rfl) (.nil) (All.of (l' := []) (by kernel_rfl) (.nil)) (show AV.t [AV.ri IntKind.i16 (List.take (Int.toNat n) (List.drop 0 (Sp.noiF (Sp.amp v) s (Int.toNat n) j))), AV.c (Value.int IntKind.u32 (Sp.sd j s)), AV.c (Value.int IntKind.u8 0)] = AV.t [AV.ri IntKind.i16 (Sp.noiL v s n), AV.c (Value.int IntKind.u32 (Sp.noiS v s n)), AV.c (Value.int IntKind.u8 (Sp.noiE n))] by have hE := Sp.noi_end (v := v) (s := s) h1 hj h2; rw [hE.1, hE.2.1, hE.2.2])
theorem con_Amp (v : Int) (hv : 0 ≤ v ∧ v ≤ 255) : Con Try.prog L0 35 [] [.c (.int .u8 v)] [] (.c (.int .i64 (Sp.amp v))) := by
  refine con_of_vc E_ok mixed Try.func35 rfl Try.call35 (Nat.le_of_ble_eq_true rfl) ?_
  refine VC.seq ?_
  refine VC.region (E := E) (C := C4) E_ok mixed (by first | exact fun _ => rfl | exact fun h => by cases h) [0, 2, 3, 4, 5, 6, 7, 8, 9, 10, 11, 12, 13, 14] (st' := St.mk [(0, AV.c (Value.int IntKind.u8 v)), (2, AV.c (Value.int IntKind.i64 0))] []) (ps := []) (by kernel_rfl) (.nil) ?_
  refine seqK_n ?_
  refine VC.seq ?_
  refine VC.region (E := E) (C := C4) E_ok mixed (by first | exact fun _ => rfl | exact fun h => by cases h) [0, 2, 3, 4, 5, 6, 7, 8, 9, 10, 11, 12, 13, 14] (st' := St.mk [(0, AV.c (Value.int IntKind.u8 v)), (2, AV.c (Value.int IntKind.i64 0)), (3, AV.c (Value.int IntKind.i64 32767))] []) (ps := []) (by kernel_rfl) (.nil) ?_
  refine seqK_n ?_
  refine VC.seq ?_
  refine VC.seq ?_
  refine VC.region (E := E) (C := C4) E_ok mixed (by first | exact fun _ => rfl | exact fun h => by cases h) [0, 2, 3, 4, 5, 6, 7, 8, 9, 10, 11, 12, 13, 14] (st' := St.mk [(0, AV.c (Value.int IntKind.u8 v)), (2, AV.c (Value.int IntKind.i64 0)), (3, AV.c (Value.int IntKind.i64 32767)), (4, AV.c (Value.int IntKind.i64 0))] []) (ps := []) (by kernel_rfl) (.nil) ?_
  refine seqK_n ?_
  refine VC.block ?_
  refine VC.loop (Y := {j : Nat // (j : Int) ≤ v / 6}) (fun j => ⟨[(0, .c (.int .u8 v)), (3, .c (.int .i64 (Sp.half j.1))), (4, .c (.int .i64 (j.1 : Nat)))], []⟩) (fun j => (v / 6 - j.1).toNat) ⟨0, by omega⟩ ?_ ?_
  ·
    exact Ent.map [] (by kernel_rfl) (All.of (l' := []) (by kernel_rfl) (.nil)) (All.of (l' := [some (AV.c (Value.int IntKind.u8 v)) = some (AV.c (Value.int IntKind.u8 v)), some (AV.c (Value.int IntKind.i64 (32767 : Int))) = some (AV.c (Value.int IntKind.i64 (32767 : Int))), some (AV.c (Value.int IntKind.i64 (0 : Int))) = some (AV.c (Value.int IntKind.i64 (0 : Int)))]) (by kernel_rfl) (.cons (by with_reducible rfl) (.cons (by with_reducible rfl) (.cons (by with_reducible rfl) (.nil)))))
  intro ⟨j, hj⟩
  refine VC.seq ?_
  refine VC.seq ?_
  refine VC.regionE (E := E) (C := C4) E_ok mixed (by first | exact fun _ => rfl | exact fun h => by cases h) [0, 2, 3, 4, 9, 10, 11, 12, 13, 14] (st' := St.mk [(0, AV.c (Value.int IntKind.u8 v)), (3, AV.c (Value.int IntKind.i64 (Sp.half j))), (4, AV.c (Value.int IntKind.i64 (↑j : Int))), (9, AV.c (Value.bool (decide ((↑j : Int) < IntKind.wrap IntKind.i64 (Int.tdiv (IntKind.wrap IntKind.i64 v) 6)))))] []) (ps := [(6 : Int) ≠ (0 : Int)]) (by kernel_rfl) (.cons (by trivial) (.nil)) (st'' := St.mk [(0, AV.c (Value.int IntKind.u8 v)), (3, AV.c (Value.int IntKind.i64 (Sp.half j))), (4, AV.c (Value.int IntKind.i64 (↑j : Int))), (9, AV.c (Value.bool (decide ((↑j : Int) < v / 6))))] []) (by (simp (disch := omega) only [wrap_i8, wrap_i16, wrap_i32, wrap_i64, wrap_u8, wrap_u16, wrap_u32, wrap_u64, Int.tdiv_eq_ediv_of_nonneg, Int.tmod_eq_emod_of_nonneg, Int.toNat_natCast, Int.reduceToNat, Nat.mul_one, Nat.zero_add, Nat.add_zero, Nat.one_mul, Int.one_mul, Int.zero_add, Int.add_zero, Int.mul_one, List.drop_zero, List.take_length, Int.zero_sub, List.length_map, List.length_set]) <;> rfl) ?_
  refine seqK_n ?_
  refine VC.cond (b := decide ((↑j : Int) < v / 6)) (by kernel_rfl) (fun h1 => ?_) (fun h1 => ?_)
  ·
    simp [-List.getD_eq_getElem?_getD] at h1
    refine VC.skip ?_
    refine seqK_n ?_
    refine VC.seq ?_
    refine VC.block ?_
    refine VC.region (E := E) (C := C4) E_ok mixed (by first | exact fun _ => rfl | exact fun h => by cases h) [0, 2, 3, 4, 10, 11, 14] (st' := St.mk [(0, AV.c (Value.int IntKind.u8 v)), (3, AV.c (Value.int IntKind.i64 (IntKind.wrap IntKind.i64 (Int.tdiv (Sp.half j) 2)))), (4, AV.c (Value.int IntKind.i64 (↑j : Int)))] []) (ps := [(2 : Int) ≠ (0 : Int)]) (by kernel_rfl) (.cons (by trivial) (.nil)) ?_
    refine blockK_n ?_
    refine seqK_n ?_
    refine VC.regionE (E := E) (C := C4) E_ok mixed (by first | exact fun _ => rfl | exact fun h => by cases h) [0, 2, 3, 4, 14] (st' := St.mk [(0, AV.c (Value.int IntKind.u8 v)), (3, AV.c (Value.int IntKind.i64 (IntKind.wrap IntKind.i64 (Int.tdiv (Sp.half j) 2)))), (4, AV.c (Value.int IntKind.i64 (IntKind.wrap IntKind.i64 ((↑j : Int) + 1))))] []) (ps := []) (by kernel_rfl) (.nil) (st'' := St.mk [(0, AV.c (Value.int IntKind.u8 v)), (3, AV.c (Value.int IntKind.i64 (IntKind.wrap IntKind.i64 (Int.tdiv (Sp.half j) 2)))), (4, AV.c (Value.int IntKind.i64 ((↑j : Int) + 1)))] []) (by (simp (disch := omega) only [wrap_i8, wrap_i16, wrap_i32, wrap_i64, wrap_u8, wrap_u16, wrap_u32, wrap_u64, Int.tdiv_eq_ediv_of_nonneg, Int.tmod_eq_emod_of_nonneg, Int.toNat_natCast, Int.reduceToNat, Nat.mul_one, Nat.zero_add, Nat.add_zero, Nat.one_mul, Int.one_mul, Int.zero_add, Int.add_zero, Int.mul_one, List.drop_zero, List.take_length, Int.zero_sub, List.length_map, List.length_set]) <;> rfl) ?_
    refine loopK_n (⟨j + 1, by omega⟩) ?_ ?_
    ·
      exact (show Int.toNat (v / 6 - (↑(j + 1) : Int)) < Int.toNat (v / 6 - (↑j : Int)) by omega)
    ·
      exact Ent.map [] (by kernel_rfl) (All.of (l' := []) (by kernel_rfl) (.nil)) (All.of (l' := [some (AV.c (Value.int IntKind.u8 v)) = some (AV.c (Value.int IntKind.u8 v)), some (AV.c (Value.int IntKind.i64 (IntKind.wrap IntKind.i64 (Int.tdiv (Sp.half j) (2 : Int))))) = some (AV.c (Value.int IntKind.i64 (Sp.half (j + (1 : Nat))))), some (AV.c (Value.int IntKind.i64 ((↑j : Int) + (1 : Int)))) = some (AV.c (Value.int IntKind.i64 (↑(j + (1 : Nat)) : Int)))]) (by kernel_rfl) (.cons (by with_reducible rfl) (.cons (by have hh := Sp.half_rng j; rw [Sp.halve, Int.tdiv_eq_ediv_of_nonneg hh.1, wrap_i64 (by omega) (by omega)]) (.cons (by trivial) (.nil)))))
  ·
    simp [-List.getD_eq_getElem?_getD] at h1
    refine VC.exit ?_
    refine seqK_x ?_
    refine loopK_x ?_
    refine blockK_x ?_
    refine seqK_n ?_
    refine VC.seq ?_
    refine VC.region (E := E) (C := C4) E_ok mixed (by first | exact fun _ => rfl | exact fun h => by cases h) [2] (st' := St.mk [(2, AV.c (Value.int IntKind.i64 (Sp.half j)))] []) (ps := []) (by kernel_rfl) (.nil) ?_
    refine seqK_n ?_
    refine VC.ret ?_
    exact Fin.all [] (.inr rfl) (l := [AV.c (Value.int IntKind.i64 (Sp.half j))]) (ps := []) (by kernel_rfl) (by kernel_rfl) (.nil) (All.of (l' := []) (by kernel_rfl) (.nil)) (show AV.c (Value.int IntKind.i64 (Sp.half j)) = AV.c (Value.int IntKind.i64 (Sp.amp v)) by rw [Sp.half_end hv hj h1])
namespace Sp
theorem noiL_nil (a s : Int) : noise a s 0 = [] := rfl
theorem nx_u64 {s : Int} (h : 0 ≤ s ∧ s ≤ 4294967295) : Int.tmod (s * 1103515245 + 12345) 4294967296 = nx s := by
  rw [Int.tmod_eq_emod_of_nonneg (by omega)]; rfl
theorem smp_2 {a s : Int} (ha : 0 ≤ a ∧ a ≤ 32767) : IntKind.i16.wrap (IntKind.i64.wrap (Int.tmod (nx s / 65536) (2 * a + 1) - a)) = smp a (nx s) := by
  have h := nx_rng s
  have h3 := smp_1 (s := s) ha
  have h1 := Int.emod_nonneg (nx s / 65536) (by omega : 2 * a + 1 ≠ 0)
  have h2 := Int.emod_lt_of_pos (nx s / 65536) (by omega : 0 < 2 * a + 1)
  rw [Int.tmod_eq_emod_of_nonneg (by omega)] at h3 ⊢
  rwa [wrap_i64 (x := nx s / 65536 % (2 * a + 1)) (by omega) (by omega)] at h3
theorem nx_w {s : Int} (h : 0 ≤ s ∧ s ≤ 4294967295) : Int.tmod (IntKind.u64.wrap (IntKind.u64.wrap (s * 1103515245) + 12345)) 4294967296 = nx s := by
  rw [wrap_u64 (x := s * _) (by omega) (by omega), wrap_u64 (by omega) (by omega), nx_u64 h]
theorem smp_w {a s : Int} (ha : 0 ≤ a ∧ a ≤ 32767) : IntKind.i16.wrap (IntKind.i64.wrap (Int.tmod (IntKind.i64.wrap (IntKind.u64.wrap (Int.tdiv (nx s) 65536))) (2 * a + 1) - a)) = smp a (nx s) := by
  have h := nx_rng s
  rw [Int.tdiv_eq_ediv_of_nonneg h.1, wrap_u64 (by omega) (by omega), wrap_i64 (x := nx s / 65536) (by omega) (by omega), smp_2 ha]
theorem noi_end2 {v s n : Int} {j : Nat} (hs : 0 ≤ s ∧ s ≤ 4294967295) (h : 0 ≤ n ∧ n ≤ 8000) (hj : (j : Int) ≤ n) (h2 : n ≤ j) : List.take j (List.drop 0 (noise (amp v) s j)) = noiL v s n ∧ IntKind.u32.wrap (sd j s) = noiS v s n ∧ noiE n = 0 := by
  obtain ⟨e1, e2, e3⟩ := noi_ok (v := v) (s := s) h
  have e : n.toNat = j := by omega
  have h5 := sd_rng hs j
  rw [e1, e2, e, List.drop_zero, List.take_of_length_le (by rw [noise_len]; omega), wrap_u32 (by omega) (by omega)]
  exact ⟨rfl, rfl, e3⟩
end Sp
def C6 : Tab where
  own f := false
  run f h a := match f, h, a with
    | 35, [], [.c (.int .u8 v)] => some ([], .c (.int .i64 (Sp.amp v)))
    | 32, [], [.c (.int .u8 v), .c (.int .u32 s), .c (.int .i64 n)] => some ([], .t [.ri .i16 (Sp.noiL v s n), .c (.int .u32 (Sp.noiS v s n)), .c (.int .u8 (Sp.noiE n))])
    | 33, [], [.c (.int .u8 v), .c (.int .u32 s), .c (.int .i64 n)] => some ([], .t [.ri .i16 (Sp.noiL v s n), .c (.int .u32 (Sp.noiS v s n)), .c (.int .u8 (Sp.noiE n))])
    | 34, [], [.ri .i16 x, .ri .i16 y] => some ([], .c (.bool (x == y)))
    | f, h, a => C5.run f h a
theorem con_rNoise (v s n : Int) (hv : 0 ≤ v ∧ v ≤ 255) (hs : 0 ≤ s ∧ s ≤ 4294967295) : Con Try.prog L0 33 [] [.c (.int .u8 v), .c (.int .u32 s), .c (.int .i64 n)] [] (.t [.ri .i16 (Sp.noiL v s n), .c (.int .u32 (Sp.noiS v s n)), .c (.int .u8 (Sp.noiE n))]) := by
  refine con_of_vc E_ok mixed Try.func33 rfl Try.call33 (Nat.le_of_ble_eq_true rfl) ?_
  have ha := Sp.amp_rng hv
  refine VC.seq ?_
  refine VC.region (E := E) (C := C6) E_ok mixed (by first | exact fun _ => rfl | exact fun h => by cases h) [0, 1, 2, 6, 7, 8, 9, 10, 11, 12, 13, 14, 15, 16, 17, 18, 19, 20, 21, 22, 23, 24, 25, 26, 27, 28, 29, 30, 31, 32, 33, 34, 35, 36, 37, 38, 39, 40, 41, 42, 43, 44, 45, 46, 47] (st' := St.mk [(0, AV.c (Value.int IntKind.u8 v)), (1, AV.c (Value.int IntKind.u32 s)), (2, AV.c (Value.int IntKind.i64 n)), (6, AV.c (Value.slice none 0 0)), (7, AV.c (Value.int IntKind.u32 0)), (8, AV.c (Value.int IntKind.u8 0))] []) (ps := []) (by kernel_rfl) (.nil) ?_
  refine seqK_n ?_
  refine VC.seq ?_
  refine VC.seq ?_
  refine VC.region (E := E) (C := C6) E_ok mixed (by first | exact fun _ => rfl | exact fun h => by cases h) [0, 1, 2, 6, 7, 8, 9, 10, 11, 12, 18, 19, 20, 21, 22, 23, 24, 25, 26, 27, 28, 29, 30, 31, 32, 33, 34, 35, 36, 37, 38, 39, 40, 41, 42, 43, 44, 45, 46, 47] (st' := St.mk [(0, AV.c (Value.int IntKind.u8 v)), (1, AV.c (Value.int IntKind.u32 s)), (2, AV.c (Value.int IntKind.i64 n)), (6, AV.c (Value.slice none 0 0)), (7, AV.c (Value.int IntKind.u32 0)), (8, AV.c (Value.int IntKind.u8 0)), (18, AV.c (Value.bool (if decide (n < 0) = true then true else decide (8000 < n))))] []) (ps := [(!decide (n < (0 : Int))) = true → True, (!decide (n < (0 : Int))) = true → (!decide (n < (0 : Int))) = true ∧ True, decide (n < (0 : Int)) = true → True, decide (n < (0 : Int)) = false → (!decide (n < (0 : Int))) = true ∧ True]) (by kernel_rfl) (.cons (by exact fun _ => trivial) (.cons (by exact fun h => ⟨h, trivial⟩) (.cons (by exact fun _ => trivial) (.cons (by exact fun h => ⟨by rw [h]; rfl, trivial⟩) (.nil))))) ?_
  refine seqK_n ?_
  refine VC.cond (b := if decide (n < 0) = true then true else decide (8000 < n)) (by kernel_rfl) (fun h1 => ?_) (fun h1 => ?_)
  ·
    simp [-List.getD_eq_getElem?_getD] at h1
    refine VC.seq ?_
    refine VC.region (E := E) (C := C6) E_ok mixed (by first | exact fun _ => rfl | exact fun h => by cases h) [0, 1, 2, 6, 7, 8, 9, 10, 11, 12, 19, 20, 21, 22, 23, 24, 25, 26, 27, 28, 29, 30, 31, 32, 33, 34, 35, 36, 37, 38, 39, 40, 41, 42, 43, 44, 45, 46, 47] (st' := St.mk [(0, AV.c (Value.int IntKind.u8 v)), (1, AV.c (Value.int IntKind.u32 s)), (2, AV.c (Value.int IntKind.i64 n)), (6, AV.c (Value.slice none 0 0)), (7, AV.c (Value.int IntKind.u32 0)), (8, AV.c (Value.int IntKind.u8 3))] []) (ps := []) (by kernel_rfl) (.nil) ?_
    refine seqK_n ?_
    refine VC.ent (Ent.sub (st' := St.mk [(0, AV.c (Value.int IntKind.u8 v)), (1, AV.c (Value.int IntKind.u32 s)), (2, AV.c (Value.int IntKind.i64 n)), (6, AV.ri IntKind.i16 []), (7, AV.c (Value.int IntKind.u32 0)), (8, AV.c (Value.int IntKind.u8 3))] []) (All.of (l' := [(0 : Nat) = (0 : Nat), AV.c (Value.int IntKind.u8 v) = AV.c (Value.int IntKind.u8 v), (1 : Nat) = (1 : Nat), AV.c (Value.int IntKind.u32 s) = AV.c (Value.int IntKind.u32 s), (2 : Nat) = (2 : Nat), AV.c (Value.int IntKind.i64 n) = AV.c (Value.int IntKind.i64 n), (6 : Nat) = (6 : Nat), @Eq (List Int) ([]) ([]), (7 : Nat) = (7 : Nat), AV.c (Value.int IntKind.u32 (0 : Int)) = AV.c (Value.int IntKind.u32 (0 : Int)), (8 : Nat) = (8 : Nat), AV.c (Value.int IntKind.u8 (3 : Int)) = AV.c (Value.int IntKind.u8 (3 : Int))]) (by kernel_rfl) (.cons (by rfl) (.cons (by rfl) (.cons (by rfl) (.cons (by rfl) (.cons (by rfl) (.cons (by rfl) (.cons (by rfl) (.cons (by rfl) (.cons (by rfl) (.cons (by rfl) (.cons (by rfl) (.cons (by rfl) (.nil))))))))))))))) ?_
    refine VC.ret ?_
    refine seqK_r ?_
    exact Fin.all [] (.inr rfl) (l := [AV.ri IntKind.i16 [], AV.c (Value.int IntKind.u32 0), AV.c (Value.int IntKind.u8 3)]) (ps := []) (by kernel_rfl) (by kernel_rfl) (.nil) (All.of (l' := []) (by kernel_rfl) (.nil)) (show AV.t [AV.ri IntKind.i16 [], AV.c (Value.int IntKind.u32 0), AV.c (Value.int IntKind.u8 3)] = AV.t [AV.ri IntKind.i16 (Sp.noiL v s n), AV.c (Value.int IntKind.u32 (Sp.noiS v s n)), AV.c (Value.int IntKind.u8 (Sp.noiE n))] by have hb := Sp.noi_bad (v := v) (s := s) h1; rw [hb.1, hb.2.1, hb.2.2])
  ·
    simp [-List.getD_eq_getElem?_getD] at h1
    refine VC.skip ?_
    refine seqK_n ?_
    refine VC.seq ?_
    refine VC.region (E := E) (C := C6) E_ok mixed (by first | exact fun _ => rfl | exact fun h => by cases h) [1, 2, 6, 7, 8, 9, 10, 11, 12, 21, 22, 23, 24, 25, 26, 27, 28, 29, 30, 31, 32, 33, 34, 35, 36, 37, 38, 39, 40, 41, 42, 43, 44, 45, 46, 47] (st' := St.mk [(1, AV.c (Value.int IntKind.u32 s)), (2, AV.c (Value.int IntKind.i64 n)), (6, AV.c (Value.slice none 0 0)), (7, AV.c (Value.int IntKind.u32 0)), (8, AV.c (Value.int IntKind.u8 0)), (9, AV.c (Value.int IntKind.i64 (Sp.amp v)))] []) (ps := [Con Try.prog L0 (35 : Nat) [] [AV.c (Value.int IntKind.u8 v)] [] (AV.c (Value.int IntKind.i64 (Sp.amp v))), true = true ∨ True ∧ ∀ (o : HObj), o ∈ [] → HObj.nr o]) (by kernel_rfl) (.cons (by exact con_Amp _ hv) (.cons (by simp) (.nil))) ?_
    refine seqK_n ?_
    refine VC.seq ?_
    refine VC.regionE (E := E) (C := C6) E_ok mixed (by first | exact fun _ => rfl | exact fun h => by cases h) [2, 6, 7, 8, 9, 10, 11, 12, 23, 24, 25, 26, 27, 28, 29, 30, 31, 32, 33, 34, 35, 36, 37, 38, 39, 40, 41, 42, 43, 44, 45, 46, 47] (st' := St.mk [(2, AV.c (Value.int IntKind.i64 n)), (6, AV.c (Value.slice none 0 0)), (7, AV.c (Value.int IntKind.u32 0)), (8, AV.c (Value.int IntKind.u8 0)), (9, AV.c (Value.int IntKind.i64 (Sp.amp v))), (10, AV.c (Value.int IntKind.u64 (IntKind.wrap IntKind.u64 s)))] []) (ps := []) (by kernel_rfl) (.nil) (st'' := St.mk [(2, AV.c (Value.int IntKind.i64 n)), (6, AV.c (Value.slice none 0 0)), (7, AV.c (Value.int IntKind.u32 0)), (8, AV.c (Value.int IntKind.u8 0)), (9, AV.c (Value.int IntKind.i64 (Sp.amp v))), (10, AV.c (Value.int IntKind.u64 s))] []) (by (simp (disch := omega) only [wrap_i8, wrap_i16, wrap_i32, wrap_i64, wrap_u8, wrap_u16, wrap_u32, wrap_u64, Int.tdiv_eq_ediv_of_nonneg, Int.tmod_eq_emod_of_nonneg, Int.toNat_natCast, Int.reduceToNat, Nat.mul_one, Nat.zero_add, Nat.add_zero, Nat.one_mul, Int.one_mul, Int.zero_add, Int.add_zero, Int.mul_one, List.drop_zero, List.take_length, Int.zero_sub, List.length_map, List.length_set]) <;> rfl) ?_
    refine seqK_n ?_
    refine VC.seq ?_
    refine VC.region (E := E) (C := C6) E_ok mixed (by first | exact fun _ => rfl | exact fun h => by cases h) [2, 6, 7, 8, 9, 10, 11, 12, 23, 24, 25, 26, 27, 28, 29, 30, 31, 32, 33, 34, 35, 36, 37, 38, 39, 40, 41, 42, 43, 44, 45, 46, 47] (st' := St.mk [(2, AV.c (Value.int IntKind.i64 n)), (6, AV.c (Value.slice none 0 0)), (7, AV.c (Value.int IntKind.u32 0)), (8, AV.c (Value.int IntKind.u8 0)), (9, AV.c (Value.int IntKind.i64 (Sp.amp v))), (10, AV.c (Value.int IntKind.u64 s)), (11, AV.c (Value.slice none 0 0))] []) (ps := []) (by kernel_rfl) (.nil) ?_
    refine seqK_n ?_
    refine VC.seq ?_
    refine VC.seq ?_
    refine VC.region (E := E) (C := C6) E_ok mixed (by first | exact fun _ => rfl | exact fun h => by cases h) [2, 6, 7, 8, 9, 10, 11, 12, 23, 24, 25, 26, 27, 28, 29, 30, 31, 32, 33, 34, 35, 36, 37, 38, 39, 40, 41, 42, 43, 44, 45, 46, 47] (st' := St.mk [(2, AV.c (Value.int IntKind.i64 n)), (6, AV.c (Value.slice none 0 0)), (7, AV.c (Value.int IntKind.u32 0)), (8, AV.c (Value.int IntKind.u8 0)), (9, AV.c (Value.int IntKind.i64 (Sp.amp v))), (10, AV.c (Value.int IntKind.u64 s)), (11, AV.c (Value.slice none 0 0)), (12, AV.c (Value.int IntKind.i64 0))] []) (ps := []) (by kernel_rfl) (.nil) ?_
    refine seqK_n ?_
    refine VC.block ?_
    refine VC.ent (Ent.nil 11 (HObj.oi 40 .i16 []) (by first | exact .inl ⟨_, _, rfl⟩ | exact .inr ⟨_, _, rfl⟩) (by kernel_rfl)) ?_
    refine VC.loop (Y := {j : Nat // (j : Int) ≤ n}) (fun j => ⟨[(2, .c (.int .i64 n)), (9, .c (.int .i64 (Sp.amp v))), (10, .c (.int .u64 (Sp.sd j.1 s))), (11, .s 0 0 j.1 j.1), (12, .c (.int .i64 (j.1 : Nat)))], [.oi 40 .i16 (Sp.noise (Sp.amp v) s j.1)]⟩) (fun j => (n - j.1).toNat) ⟨0, by omega⟩ ?_ ?_
    ·
      exact Ent.map [0] (by kernel_rfl) (All.of (l' := [HObj.oi (40 : TypeId) IntKind.i16 (Sp.noise (Sp.amp v) s (0 : Nat)) = HObj.dead ∨ HObj.oi (40 : TypeId) IntKind.i16 [] = HObj.oi (40 : TypeId) IntKind.i16 (Sp.noise (Sp.amp v) s (0 : Nat))]) (by kernel_rfl) (.cons (by exact .inr rfl) (.nil))) (All.of (l' := [some (AV.c (Value.int IntKind.i64 n)) = some (AV.c (Value.int IntKind.i64 n)), some (AV.c (Value.int IntKind.i64 (Sp.amp v))) = some (AV.c (Value.int IntKind.i64 (Sp.amp v))), some (AV.c (Value.int IntKind.u64 s)) = some (AV.c (Value.int IntKind.u64 (Sp.sd (0 : Nat) s))), some (AV.s (0 : Nat) (0 : Nat) (0 : Nat) (0 : Nat)) = some (AV.s (0 : Nat) (0 : Nat) (0 : Nat) (0 : Nat)), some (AV.c (Value.int IntKind.i64 (0 : Int))) = some (AV.c (Value.int IntKind.i64 (0 : Int)))]) (by kernel_rfl) (.cons (by with_reducible rfl) (.cons (by with_reducible rfl) (.cons (by trivial) (.cons (by with_reducible rfl) (.cons (by with_reducible rfl) (.nil)))))))
    intro ⟨j, hj⟩
    refine VC.seq ?_
    refine VC.seq ?_
    refine VC.region (E := E) (C := C6) E_ok mixed (by first | exact fun _ => rfl | exact fun h => by cases h) [2, 6, 7, 8, 9, 10, 11, 12, 25, 26, 27, 28, 29, 30, 31, 32, 33, 34, 35, 36, 37, 38, 39, 40, 41, 42, 43, 44, 45, 46, 47] (st' := St.mk [(2, AV.c (Value.int IntKind.i64 n)), (9, AV.c (Value.int IntKind.i64 (Sp.amp v))), (10, AV.c (Value.int IntKind.u64 (Sp.sd j s))), (11, AV.s 0 0 j j), (12, AV.c (Value.int IntKind.i64 (↑j : Int))), (25, AV.c (Value.bool (decide ((↑j : Int) < n))))] [HObj.oi 40 IntKind.i16 (Sp.noise (Sp.amp v) s j)]) (ps := []) (by kernel_rfl) (.nil) ?_
    refine seqK_n ?_
    refine VC.cond (b := decide ((↑j : Int) < n)) (by kernel_rfl) (fun h2 => ?_) (fun h2 => ?_)
    ·
      simp [-List.getD_eq_getElem?_getD] at h2
      refine VC.skip ?_
      refine seqK_n ?_
      refine VC.seq ?_
      refine VC.block ?_
      refine VC.seq ?_
      refine VC.region (E := E) (C := C6) E_ok mixed (by first | exact fun _ => rfl | exact fun h => by cases h) [2, 6, 7, 8, 9, 10, 11, 12, 26, 27, 32, 33, 34, 35, 36, 37, 38, 39, 40, 41, 42, 43, 44, 45, 46, 47] (st' := St.mk [(2, AV.c (Value.int IntKind.i64 n)), (9, AV.c (Value.int IntKind.i64 (Sp.amp v))), (10, AV.c (Value.int IntKind.u64 (Int.tmod (IntKind.wrap IntKind.u64 (IntKind.wrap IntKind.u64 (Sp.sd j s * 1103515245) + 12345)) 4294967296))), (11, AV.s 0 0 j j), (12, AV.c (Value.int IntKind.i64 (↑j : Int)))] [HObj.oi 40 IntKind.i16 (Sp.noise (Sp.amp v) s j)]) (ps := [(4294967296 : Int) ≠ (0 : Int)]) (by kernel_rfl) (.cons (by trivial) (.nil)) ?_
      refine seqK_n ?_
      refine VC.regionE (E := E) (C := C6) E_ok mixed (by first | exact fun _ => rfl | exact fun h => by cases h) [2, 6, 7, 8, 9, 10, 11, 12, 26, 27, 45, 46, 47] (st' := St.mk [(2, AV.c (Value.int IntKind.i64 n)), (9, AV.c (Value.int IntKind.i64 (Sp.amp v))), (10, AV.c (Value.int IntKind.u64 (Int.tmod (IntKind.wrap IntKind.u64 (IntKind.wrap IntKind.u64 (Sp.sd j s * 1103515245) + 12345)) 4294967296))), (11, AV.s 2 0 (j + 1) (j + 1)), (12, AV.c (Value.int IntKind.i64 (↑j : Int)))] [HObj.dead, HObj.oi 40 IntKind.i16 [IntKind.wrap IntKind.i16 (IntKind.wrap IntKind.i64 (Int.tmod (IntKind.wrap IntKind.i64 (IntKind.wrap IntKind.u64 (Int.tdiv (Int.tmod (IntKind.wrap IntKind.u64 (IntKind.wrap IntKind.u64 (Sp.sd j s * 1103515245) + 12345)) 4294967296) 65536))) (IntKind.wrap IntKind.i64 (IntKind.wrap IntKind.i64 (2 * Sp.amp v) + 1)) - Sp.amp v))], HObj.oi 40 IntKind.i16 (Sp.noise (Sp.amp v) s j ++ [IntKind.wrap IntKind.i16 (IntKind.wrap IntKind.i64 (Int.tmod (IntKind.wrap IntKind.i64 (IntKind.wrap IntKind.u64 (Int.tdiv (Int.tmod (IntKind.wrap IntKind.u64 (IntKind.wrap IntKind.u64 (Sp.sd j s * 1103515245) + 12345)) 4294967296) 65536))) (IntKind.wrap IntKind.i64 (IntKind.wrap IntKind.i64 (2 * Sp.amp v) + 1)) - Sp.amp v))])]) (ps := [(65536 : Int) ≠ (0 : Int), IntKind.wrap IntKind.i64 (IntKind.wrap IntKind.i64 ((2 : Int) * Sp.amp v) + (1 : Int)) ≠ (0 : Int), (1 : Nat) ≤ (1000 : Nat), (j + (1 : Nat)) * (2 : Nat) ≤ (140737488355328 : Nat), j + (1 : Nat) ≤ (9223372036854775807 : Nat), j = List.length (Sp.noise (Sp.amp v) s j), j = j, (1 : Nat) ≤ (1 : Nat)]) (by kernel_rfl) (.cons (by trivial) (.cons (by simp (disch := omega) only [wrap_i8, wrap_i16, wrap_i32, wrap_i64, wrap_u8, wrap_u16, wrap_u32, wrap_u64, Int.tdiv_eq_ediv_of_nonneg, Int.tmod_eq_emod_of_nonneg, Int.toNat_natCast, Int.reduceToNat, Nat.mul_one, Nat.zero_add, Nat.add_zero, Nat.one_mul, Int.one_mul, Int.zero_add, Int.add_zero, Int.mul_one, List.drop_zero, List.take_length, Int.zero_sub, List.length_map, List.length_set]; omega) (.cons (by trivial) (.cons (by omega) (.cons (by omega) (.cons (by rw [Sp.noise_len]) (.cons (by trivial) (.cons (by trivial) (.nil))))))))) (st'' := St.mk [(2, AV.c (Value.int IntKind.i64 n)), (9, AV.c (Value.int IntKind.i64 (Sp.amp v))), (10, AV.c (Value.int IntKind.u64 (Int.tmod (IntKind.wrap IntKind.u64 (IntKind.wrap IntKind.u64 (Sp.sd j s * 1103515245) + 12345)) 4294967296))), (11, AV.s 2 0 (j + 1) (j + 1)), (12, AV.c (Value.int IntKind.i64 (↑j : Int)))] [HObj.dead, HObj.oi 40 IntKind.i16 [IntKind.wrap IntKind.i16 (IntKind.wrap IntKind.i64 (Int.tmod (IntKind.wrap IntKind.i64 (IntKind.wrap IntKind.u64 (Int.tdiv (Int.tmod (IntKind.wrap IntKind.u64 (IntKind.wrap IntKind.u64 (Sp.sd j s * 1103515245) + 12345)) 4294967296) 65536))) (2 * Sp.amp v + 1) - Sp.amp v))], HObj.oi 40 IntKind.i16 (Sp.noise (Sp.amp v) s j ++ [IntKind.wrap IntKind.i16 (IntKind.wrap IntKind.i64 (Int.tmod (IntKind.wrap IntKind.i64 (IntKind.wrap IntKind.u64 (Int.tdiv (Int.tmod (IntKind.wrap IntKind.u64 (IntKind.wrap IntKind.u64 (Sp.sd j s * 1103515245) + 12345)) 4294967296) 65536))) (2 * Sp.amp v + 1) - Sp.amp v))])]) (by (simp (disch := omega) only [wrap_i8, wrap_i16, wrap_i32, wrap_i64, wrap_u8, wrap_u16, wrap_u32, wrap_u64, Int.tdiv_eq_ediv_of_nonneg, Int.tmod_eq_emod_of_nonneg, Int.toNat_natCast, Int.reduceToNat, Nat.mul_one, Nat.zero_add, Nat.add_zero, Nat.one_mul, Int.one_mul, Int.zero_add, Int.add_zero, Int.mul_one, List.drop_zero, List.take_length, Int.zero_sub, List.length_map, List.length_set]) <;> rfl) ?_
      refine blockK_n ?_
      refine seqK_n ?_
      refine VC.regionE (E := E) (C := C6) E_ok mixed (by first | exact fun _ => rfl | exact fun h => by cases h) [2, 6, 7, 8, 9, 10, 11, 12, 45, 46, 47] (st' := St.mk [(2, AV.c (Value.int IntKind.i64 n)), (9, AV.c (Value.int IntKind.i64 (Sp.amp v))), (10, AV.c (Value.int IntKind.u64 (Int.tmod (IntKind.wrap IntKind.u64 (IntKind.wrap IntKind.u64 (Sp.sd j s * 1103515245) + 12345)) 4294967296))), (11, AV.s 2 0 (j + 1) (j + 1)), (12, AV.c (Value.int IntKind.i64 (IntKind.wrap IntKind.i64 ((↑j : Int) + 1))))] [HObj.dead, HObj.oi 40 IntKind.i16 [IntKind.wrap IntKind.i16 (IntKind.wrap IntKind.i64 (Int.tmod (IntKind.wrap IntKind.i64 (IntKind.wrap IntKind.u64 (Int.tdiv (Int.tmod (IntKind.wrap IntKind.u64 (IntKind.wrap IntKind.u64 (Sp.sd j s * 1103515245) + 12345)) 4294967296) 65536))) (2 * Sp.amp v + 1) - Sp.amp v))], HObj.oi 40 IntKind.i16 (Sp.noise (Sp.amp v) s j ++ [IntKind.wrap IntKind.i16 (IntKind.wrap IntKind.i64 (Int.tmod (IntKind.wrap IntKind.i64 (IntKind.wrap IntKind.u64 (Int.tdiv (Int.tmod (IntKind.wrap IntKind.u64 (IntKind.wrap IntKind.u64 (Sp.sd j s * 1103515245) + 12345)) 4294967296) 65536))) (2 * Sp.amp v + 1) - Sp.amp v))])]) (ps := []) (by kernel_rfl) (.nil) (st'' := St.mk [(2, AV.c (Value.int IntKind.i64 n)), (9, AV.c (Value.int IntKind.i64 (Sp.amp v))), (10, AV.c (Value.int IntKind.u64 (Int.tmod (IntKind.wrap IntKind.u64 (IntKind.wrap IntKind.u64 (Sp.sd j s * 1103515245) + 12345)) 4294967296))), (11, AV.s 2 0 (j + 1) (j + 1)), (12, AV.c (Value.int IntKind.i64 ((↑j : Int) + 1)))] [HObj.dead, HObj.oi 40 IntKind.i16 [IntKind.wrap IntKind.i16 (IntKind.wrap IntKind.i64 (Int.tmod (IntKind.wrap IntKind.i64 (IntKind.wrap IntKind.u64 (Int.tdiv (Int.tmod (IntKind.wrap IntKind.u64 (IntKind.wrap IntKind.u64 (Sp.sd j s * 1103515245) + 12345)) 4294967296) 65536))) (2 * Sp.amp v + 1) - Sp.amp v))], HObj.oi 40 IntKind.i16 (Sp.noise (Sp.amp v) s j ++ [IntKind.wrap IntKind.i16 (IntKind.wrap IntKind.i64 (Int.tmod (IntKind.wrap IntKind.i64 (IntKind.wrap IntKind.u64 (Int.tdiv (Int.tmod (IntKind.wrap IntKind.u64 (IntKind.wrap IntKind.u64 (Sp.sd j s * 1103515245) + 12345)) 4294967296) 65536))) (2 * Sp.amp v + 1) - Sp.amp v))])]) (by (simp (disch := omega) only [wrap_i8, wrap_i16, wrap_i32, wrap_i64, wrap_u8, wrap_u16, wrap_u32, wrap_u64, Int.tdiv_eq_ediv_of_nonneg, Int.tmod_eq_emod_of_nonneg, Int.toNat_natCast, Int.reduceToNat, Nat.mul_one, Nat.zero_add, Nat.add_zero, Nat.one_mul, Int.one_mul, Int.zero_add, Int.add_zero, Int.mul_one, List.drop_zero, List.take_length, Int.zero_sub, List.length_map, List.length_set]) <;> rfl) ?_
      refine loopK_n (⟨j + 1, by omega⟩) ?_ ?_
      ·
        exact (show Int.toNat (n - (↑(j + 1) : Int)) < Int.toNat (n - (↑j : Int)) by omega)
      ·
        exact Ent.map [2] (by kernel_rfl) (All.of (l' := [HObj.oi (40 : TypeId) IntKind.i16 (Sp.noise (Sp.amp v) s (j + (1 : Nat))) = HObj.dead ∨ HObj.oi (40 : TypeId) IntKind.i16 (Sp.noise (Sp.amp v) s j ++ [IntKind.wrap IntKind.i16 (IntKind.wrap IntKind.i64 (Int.tmod (IntKind.wrap IntKind.i64 (IntKind.wrap IntKind.u64 (Int.tdiv (Int.tmod (IntKind.wrap IntKind.u64 (IntKind.wrap IntKind.u64 (Sp.sd j s * (1103515245 : Int)) + (12345 : Int))) (4294967296 : Int)) (65536 : Int)))) ((2 : Int) * Sp.amp v + (1 : Int)) - Sp.amp v))]) = HObj.oi (40 : TypeId) IntKind.i16 (Sp.noise (Sp.amp v) s (j + (1 : Nat)))]) (by kernel_rfl) (.cons (by exact .inr (by rw [Sp.nx_w (Sp.sd_rng hs j), Sp.smp_w ha, Sp.noise_succ])) (.nil))) (All.of (l' := [some (AV.c (Value.int IntKind.i64 n)) = some (AV.c (Value.int IntKind.i64 n)), some (AV.c (Value.int IntKind.i64 (Sp.amp v))) = some (AV.c (Value.int IntKind.i64 (Sp.amp v))), some (AV.c (Value.int IntKind.u64 (Int.tmod (IntKind.wrap IntKind.u64 (IntKind.wrap IntKind.u64 (Sp.sd j s * (1103515245 : Int)) + (12345 : Int))) (4294967296 : Int)))) = some (AV.c (Value.int IntKind.u64 (Sp.sd (j + (1 : Nat)) s))), some (AV.s (2 : Nat) (0 : Nat) (j + (1 : Nat)) (j + (1 : Nat))) = some (AV.s (2 : Nat) (0 : Nat) (j + (1 : Nat)) (j + (1 : Nat))), some (AV.c (Value.int IntKind.i64 ((↑j : Int) + (1 : Int)))) = some (AV.c (Value.int IntKind.i64 (↑(j + (1 : Nat)) : Int)))]) (by kernel_rfl) (.cons (by with_reducible rfl) (.cons (by with_reducible rfl) (.cons (by rw [Sp.nx_w (Sp.sd_rng hs j)]; rfl) (.cons (by with_reducible rfl) (.cons (by trivial) (.nil)))))))
    ·
      simp [-List.getD_eq_getElem?_getD] at h2
      refine VC.exit ?_
      refine seqK_x ?_
      refine loopK_x ?_
      refine blockK_x ?_
      refine seqK_n ?_
      refine VC.seq ?_
      refine VC.region (E := E) (C := C6) E_ok mixed (by first | exact fun _ => rfl | exact fun h => by cases h) [6, 7, 8] (st' := St.mk [(6, AV.s 0 0 j j), (7, AV.c (Value.int IntKind.u32 (IntKind.wrap IntKind.u32 (Sp.sd j s)))), (8, AV.c (Value.int IntKind.u8 0))] [HObj.oi 40 IntKind.i16 (Sp.noise (Sp.amp v) s j)]) (ps := []) (by kernel_rfl) (.nil) ?_
      refine seqK_n ?_
      refine VC.ent (Ent.freeze 0 (st' := St.mk [(6, AV.ri IntKind.i16 (List.take j (List.drop 0 (Sp.noise (Sp.amp v) s j)))), (7, AV.c (Value.int IntKind.u32 (IntKind.wrap IntKind.u32 (Sp.sd j s)))), (8, AV.c (Value.int IntKind.u8 0))] [HObj.dead]) trivial (by kernel_rfl) (All.of (l' := [j ≤ j, (0 : Nat) + j ≤ List.length (Sp.noise (Sp.amp v) s j)]) (by kernel_rfl) (.cons (by omega) (.cons (by rw [Sp.noise_len]; omega) (.nil))))) ?_
      refine VC.ret ?_
      exact Fin.all [] (.inr rfl) (l := [AV.ri IntKind.i16 (List.take j (List.drop 0 (Sp.noise (Sp.amp v) s j))), AV.c (Value.int IntKind.u32 (IntKind.wrap IntKind.u32 (Sp.sd j s))), AV.c (Value.int IntKind.u8 0)]) (ps := []) (by kernel_rfl) (by kernel_rfl) (.nil) (All.of (l' := []) (by kernel_rfl) (.nil)) (show AV.t [AV.ri IntKind.i16 (List.take j (List.drop 0 (Sp.noise (Sp.amp v) s j))), AV.c (Value.int IntKind.u32 (IntKind.wrap IntKind.u32 (Sp.sd j s))), AV.c (Value.int IntKind.u8 0)] = AV.t [AV.ri IntKind.i16 (Sp.noiL v s n), AV.c (Value.int IntKind.u32 (Sp.noiS v s n)), AV.c (Value.int IntKind.u8 (Sp.noiE n))] by have hE := Sp.noi_end2 (v := v) hs h1 hj h2; rw [hE.1, hE.2.1, hE.2.2])
theorem con_Same27 (x y : List Int) (hx : x.length ≤ 1000000000) : Con Try.prog L0 34 [] [.ri .i16 x, .ri .i16 y] [] (.c (.bool (x == y))) := by
  refine con_of_vc E_ok mixed Try.func34 rfl Try.call34 (Nat.le_of_ble_eq_true rfl) ?_
  refine VC.seq ?_
  refine VC.region (E := E) (C := C6) E_ok mixed (by first | exact fun _ => rfl | exact fun h => by cases h) [0, 1, 4, 5, 6, 7, 8, 9, 10, 11, 12, 13, 14, 15, 16, 17, 18, 19, 20, 21, 22, 23, 24, 25] (st' := St.mk [(0, AV.ri IntKind.i16 x), (1, AV.ri IntKind.i16 y), (4, AV.c (Value.bool false))] []) (ps := []) (by kernel_rfl) (.nil) ?_
  refine seqK_n ?_
  refine VC.seq ?_
  refine VC.seq ?_
  refine VC.region (E := E) (C := C6) E_ok mixed (by first | exact fun _ => rfl | exact fun h => by cases h) [0, 1, 4, 5, 10, 11, 12, 13, 14, 15, 16, 17, 18, 19, 20, 21, 22, 23, 24, 25] (st' := St.mk [(0, AV.ri IntKind.i16 x), (1, AV.ri IntKind.i16 y), (4, AV.c (Value.bool false)), (10, AV.c (Value.bool ((↑(List.length x) : Int) != (↑(List.length y) : Int))))] []) (ps := []) (by kernel_rfl) (.nil) ?_
  refine seqK_n ?_
  refine VC.cond (b := (↑(List.length x) : Int) != (↑(List.length y) : Int)) (by kernel_rfl) (fun h1 => ?_) (fun h1 => ?_)
  ·
    simp [-List.getD_eq_getElem?_getD] at h1
    refine VC.seq ?_
    refine VC.region (E := E) (C := C6) E_ok mixed (by first | exact fun _ => rfl | exact fun h => by cases h) [0, 1, 4, 5, 11, 12, 13, 14, 15, 16, 17, 18, 19, 20, 21, 22, 23, 24, 25] (st' := St.mk [(0, AV.ri IntKind.i16 x), (1, AV.ri IntKind.i16 y), (4, AV.c (Value.bool false))] []) (ps := []) (by kernel_rfl) (.nil) ?_
    refine seqK_n ?_
    refine VC.ret ?_
    refine seqK_r ?_
    exact Fin.all [] (.inr rfl) (l := [AV.c (Value.bool false)]) (ps := []) (by kernel_rfl) (by kernel_rfl) (.nil) (All.of (l' := []) (by kernel_rfl) (.nil)) (show AV.c (Value.bool false) = AV.c (Value.bool (x == y)) by exact same_len h1)
  ·
    simp [-List.getD_eq_getElem?_getD] at h1
    refine VC.skip ?_
    refine seqK_n ?_
    refine VC.seq ?_
    refine VC.seq ?_
    refine VC.region (E := E) (C := C6) E_ok mixed (by first | exact fun _ => rfl | exact fun h => by cases h) [0, 1, 4, 5, 11, 12, 13, 14, 15, 16, 17, 18, 19, 20, 21, 22, 23, 24, 25] (st' := St.mk [(0, AV.ri IntKind.i16 x), (1, AV.ri IntKind.i16 y), (4, AV.c (Value.bool false)), (5, AV.c (Value.int IntKind.i64 0))] []) (ps := []) (by kernel_rfl) (.nil) ?_
    refine seqK_n ?_
    refine VC.block ?_
    refine VC.loop (Y := {j : Nat // j ≤ x.length ∧ x.take j = y.take j}) (fun j => ⟨[(0, .ri .i16 x), (1, .ri .i16 y), (5, .c (.int .i64 (j.1 : Nat)))], []⟩) (fun j => x.length - j.1) ⟨0, by simp⟩ ?_ ?_
    ·
      exact Ent.map [] (by kernel_rfl) (All.of (l' := []) (by kernel_rfl) (.nil)) (All.of (l' := [some (AV.ri IntKind.i16 x) = some (AV.ri IntKind.i16 x), some (AV.ri IntKind.i16 y) = some (AV.ri IntKind.i16 y), some (AV.c (Value.int IntKind.i64 (0 : Int))) = some (AV.c (Value.int IntKind.i64 (0 : Int)))]) (by kernel_rfl) (.cons (by with_reducible rfl) (.cons (by with_reducible rfl) (.cons (by with_reducible rfl) (.nil)))))
    intro ⟨j, hj, hxy⟩
    refine VC.seq ?_
    refine VC.seq ?_
    refine VC.region (E := E) (C := C6) E_ok mixed (by first | exact fun _ => rfl | exact fun h => by cases h) [0, 1, 4, 5, 14, 15, 16, 17, 18, 19, 20, 21, 22, 23, 24, 25] (st' := St.mk [(0, AV.ri IntKind.i16 x), (1, AV.ri IntKind.i16 y), (5, AV.c (Value.int IntKind.i64 (↑j : Int))), (14, AV.c (Value.bool (decide ((↑j : Int) < (↑(List.length x) : Int)))))] []) (ps := []) (by kernel_rfl) (.nil) ?_
    refine seqK_n ?_
    refine VC.cond (b := decide ((↑j : Int) < (↑(List.length x) : Int))) (by kernel_rfl) (fun h2 => ?_) (fun h2 => ?_)
    ·
      simp [-List.getD_eq_getElem?_getD] at h2
      refine VC.skip ?_
      refine seqK_n ?_
      refine VC.seq ?_
      refine VC.block ?_
      refine VC.seq ?_
      refine VC.region (E := E) (C := C6) E_ok mixed (by first | exact fun _ => rfl | exact fun h => by cases h) [0, 1, 4, 5, 15, 16, 25] (st' := St.mk [(0, AV.ri IntKind.i16 x), (1, AV.ri IntKind.i16 y), (5, AV.c (Value.int IntKind.i64 (↑j : Int))), (25, AV.c (Value.bool (List.getD x (Int.toNat (↑j : Int) * 1) 0 != List.getD y (Int.toNat (↑j : Int) * 1) 0)))] []) (ps := [(0 : Int) ≤ (↑j : Int), (↑j : Int) < (↑(List.length x) : Int), Int.toNat (↑j : Int) * (1 : Nat) < List.length x, (0 : Int) ≤ (↑j : Int), (↑j : Int) < (↑(List.length y) : Int), Int.toNat (↑j : Int) * (1 : Nat) < List.length y]) (by kernel_rfl) (.cons (by omega) (.cons (by omega) (.cons (by omega) (.cons (by omega) (.cons (by omega) (.cons (by omega) (.nil))))))) ?_
      refine seqK_n ?_
      refine VC.cond (b := List.getD x (Int.toNat (↑j : Int) * 1) 0 != List.getD y (Int.toNat (↑j : Int) * 1) 0) (by kernel_rfl) (fun h3 => ?_) (fun h3 => ?_)
      ·
        simp [-List.getD_eq_getElem?_getD] at h3
        refine VC.seq ?_
        refine VC.region (E := E) (C := C6) E_ok mixed (by first | exact fun _ => rfl | exact fun h => by cases h) [0, 1, 4, 5, 15, 16] (st' := St.mk [(0, AV.ri IntKind.i16 x), (1, AV.ri IntKind.i16 y), (4, AV.c (Value.bool false)), (5, AV.c (Value.int IntKind.i64 (↑j : Int)))] []) (ps := []) (by kernel_rfl) (.nil) ?_
        refine seqK_n ?_
        refine VC.ret ?_
        refine blockK_r ?_
        refine seqK_r ?_
        refine loopK_r ?_
        refine blockK_r ?_
        refine seqK_r ?_
        exact Fin.all [] (.inr rfl) (l := [AV.c (Value.bool false)]) (ps := []) (by kernel_rfl) (by kernel_rfl) (.nil) (All.of (l' := []) (by kernel_rfl) (.nil)) (show AV.c (Value.bool false) = AV.c (Value.bool (x == y)) by exact same_ne (by simpa using h3))
      ·
        simp [-List.getD_eq_getElem?_getD] at h3
        refine VC.skip ?_
        refine blockK_n ?_
        refine seqK_n ?_
        refine VC.regionE (E := E) (C := C6) E_ok mixed (by first | exact fun _ => rfl | exact fun h => by cases h) [0, 1, 4, 5] (st' := St.mk [(0, AV.ri IntKind.i16 x), (1, AV.ri IntKind.i16 y), (5, AV.c (Value.int IntKind.i64 (IntKind.wrap IntKind.i64 ((↑j : Int) + 1))))] []) (ps := []) (by kernel_rfl) (.nil) (st'' := St.mk [(0, AV.ri IntKind.i16 x), (1, AV.ri IntKind.i16 y), (5, AV.c (Value.int IntKind.i64 ((↑j : Int) + 1)))] []) (by (simp (disch := omega) only [wrap_i8, wrap_i16, wrap_i32, wrap_i64, wrap_u8, wrap_u16, wrap_u32, wrap_u64, Int.tdiv_eq_ediv_of_nonneg, Int.tmod_eq_emod_of_nonneg, Int.toNat_natCast, Int.reduceToNat, Nat.mul_one, Nat.zero_add, Nat.add_zero, Nat.one_mul, Int.one_mul, Int.zero_add, Int.add_zero, Int.mul_one, List.drop_zero, List.take_length, Int.zero_sub, List.length_map, List.length_set]) <;> rfl) ?_
        refine loopK_n (⟨j + 1, by omega, take_step h2 h1 hxy (by simpa using h3)⟩) ?_ ?_
        ·
          exact (show List.length x - (j + 1) < List.length x - j by omega)
        ·
          exact Ent.map [] (by kernel_rfl) (All.of (l' := []) (by kernel_rfl) (.nil)) (All.of (l' := [some (AV.ri IntKind.i16 x) = some (AV.ri IntKind.i16 x), some (AV.ri IntKind.i16 y) = some (AV.ri IntKind.i16 y), some (AV.c (Value.int IntKind.i64 ((↑j : Int) + (1 : Int)))) = some (AV.c (Value.int IntKind.i64 (↑(j + (1 : Nat)) : Int)))]) (by kernel_rfl) (.cons (by with_reducible rfl) (.cons (by with_reducible rfl) (.cons (by trivial) (.nil)))))
    ·
      simp [-List.getD_eq_getElem?_getD] at h2
      refine VC.exit ?_
      refine seqK_x ?_
      refine loopK_x ?_
      refine blockK_x ?_
      refine seqK_n ?_
      refine VC.seq ?_
      refine VC.region (E := E) (C := C6) E_ok mixed (by first | exact fun _ => rfl | exact fun h => by cases h) [4] (st' := St.mk [(4, AV.c (Value.bool true))] []) (ps := []) (by kernel_rfl) (.nil) ?_
      refine seqK_n ?_
      refine VC.ret ?_
      exact Fin.all [] (.inr rfl) (l := [AV.c (Value.bool true)]) (ps := []) (by kernel_rfl) (by kernel_rfl) (.nil) (All.of (l' := []) (by kernel_rfl) (.nil)) (show AV.c (Value.bool true) = AV.c (Value.bool (x == y)) by exact same_end hj h2 h1 hxy)

end Go.Proofs.Ytllomeekbocfmaa
