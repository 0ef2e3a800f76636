/-
  A part of the walk: contracts of functions, each proved once.
-/
import Derived.Test.YtmghbhaocfehnaaEvList
import Derived.Test.YtmghbhaocfehnaaK27A
namespace Go.Proofs.Ytmghbhaocfehnaa
open Go Go.Ev
set_option linter.unusedVariables false
set_option linter.unusedSimpArgs false
set_option maxRecDepth 20000
namespace Sp
theorem mu_range {x : Int} (hx : -32768 ≤ x ∧ x ≤ 32767) : 0 ≤ mu x ∧ mu x ≤ 255 := by
  have h := expo_range (mag x)
  simp only [mu]; split <;> omega
theorem mg2_range {x : Int} (hx : -32768 ≤ x ∧ x ≤ 32767) : 0 ≤ mg2 x ∧ mg2 x ≤ 32767 := by
  simp only [mg2]; split <;> omega
theorem a0_range {x : Int} (hx : -32768 ≤ x ∧ x ≤ 32767) : 0 ≤ a0 x ∧ a0 x ≤ 255 := by
  have h := expo_range (mg2 x)
  have h2 := mg2_range hx
  simp only [a0]; split <;> split <;> omega
theorem fmu_range {b : Int} (hb : 0 ≤ b ∧ b ≤ 255) : -32124 ≤ fmu b ∧ fmu b ≤ 32124 := by
  have h := sh8_range (y := 8 * ((255 - b) % 16) + 132) (e := (255 - b) / 16 % 8) (by omega)
  simp only [fmu]; split <;> omega
theorem fa_range {b : Int} (hb : 0 ≤ b ∧ b ≤ 255) : -32768 ≤ fa b ∧ fa b ≤ 32767 := by
  obtain ⟨_, h1, h2, _⟩ := xor_lt hb
  simp only [fa, fa0]
  generalize ixor .u8 b 85 = c at h1 h2
  have e : sh8 (16 * (c % 16) + 264) (c / 16 % 8 - 1) ≤ 32256 ∧ 0 ≤ sh8 (16 * (c % 16) + 264) (c / 16 % 8 - 1) ∨ c / 16 % 8 = 0 := by
    by_cases h0 : c / 16 % 8 = 0
    · exact .inr h0
    · left
      simp only [sh8]; repeat' split
      all_goals omega
  rcases e with e | e
  · split <;> split <;> omega
  · rw [e]; simp only [Int.lt_irrefl, if_false]; split <;> omega
theorem fa0_range {c : Int} (hc : 0 ≤ c ∧ c ≤ 255) : 0 < c / 16 % 8 → sh8 (16 * (c % 16) + 264) (c / 16 % 8 - 1) ≤ 32256 ∧ 0 ≤ sh8 (16 * (c % 16) + 264) (c / 16 % 8 - 1) := by
  intro h
  simp only [sh8]; repeat' split
  all_goals omega
theorem mu_end {x t : Int} (hx : -32768 ≤ x ∧ x ≤ 32767) (ht : t = if x < 0 then 127 else 255) : IntKind.u8.wrap (IntKind.i64.wrap (IntKind.i64.wrap (t - IntKind.i64.wrap (16 * expo (mag x))) - iand .i64 (ishr .i64 (mag x) (IntKind.i64.wrap (expo (mag x) + 3))) 15)) = mu x := by
  have h := expo_range (mag x)
  have hm := mag_rng hx
  have hmu := mu_range hx
  subst ht
  rw [wrap_i64 (x := expo (mag x) + 3) (by omega) (by omega), shr_expo (by omega), wrap_i64 (x := 16 * _) (by omega) (by omega)]
  rw [wrap_i64 (x := _ - 16 * _) (by split <;> omega) (by split <;> omega), wrap_i64 (by split <;> omega) (by split <;> omega)]
  exact wrap_u8 (x := mu x) hmu.1 hmu.2
theorem a_end {x s m : Int} (hx : -32768 ≤ x ∧ x ≤ 32767) (hs : s = if x < 0 then 0 else 128) (hm : m = mg2 x) (q : Int) (hq : q = if mg2 x < 256 then mg2 x / 16 else shr3 (mg2 x) % 16) : IntKind.u8.wrap (ixor .i64 (IntKind.i64.wrap (IntKind.i64.wrap (s + IntKind.i64.wrap (16 * expo m)) + q)) 85) = a x := by
  have h := expo_range (mg2 x)
  have h2 := mg2_range hx
  have h0 := a0_range hx
  subst hm
  rw [wrap_i64 (x := 16 * _) (by omega) (by omega)]
  have e : s + 16 * expo (mg2 x) + q = a0 x := by rw [hs, hq]; rfl
  rw [wrap_i64 (x := s + _) (by rw [hs]; split <;> omega) (by rw [hs]; split <;> omega), e, wrap_i64 (by omega) (by omega)]
  obtain ⟨_, e1, e2, e3⟩ := xor_lt h0
  rw [e3]; exact wrap_u8 e1 e2
theorem a_end0 {x m : Int} (hx : -32768 ≤ x ∧ x ≤ 32767) (h1 : x < 0) (hm : m = -x - 1) (q : Int) (hq : q = if m < 256 then m / 16 else shr3 m % 16) : IntKind.u8.wrap (ixor .i64 (IntKind.i64.wrap (IntKind.i64.wrap (IntKind.i64.wrap (16 * expo m)) + q)) 85) = a x := by
  have e : m = mg2 x := by simp only [mg2, h1, if_true]; exact hm
  have := a_end (s := 0) (m := m) hx (by rw [if_pos h1]) e q (by rw [← e]; exact hq)
  rw [Int.zero_add] at this; exact this
theorem a_end1 {x : Int} (hx : -32768 ≤ x ∧ x ≤ 32767) (h1 : 0 ≤ x) (q : Int) (hq : q = if x < 256 then x / 16 else shr3 x % 16) : IntKind.u8.wrap (ixor .i64 (IntKind.i64.wrap (IntKind.i64.wrap (128 + IntKind.i64.wrap (16 * expo x)) + q)) 85) = a x := by
  have e : x = mg2 x := by simp only [mg2]; rw [if_neg (by omega)]
  exact a_end (s := 128) (m := x) hx (by rw [if_neg (by omega)]) e q (by rw [← e]; exact hq)
theorem wr_neg {x : Int} (hx : -32768 ≤ x ∧ x ≤ 32767) (h : x < 0) : IntKind.i64.wrap (imin (-x) 32635 + 132) = mag x := by
  have := mag_rng hx
  rw [mag_neg hx h]; exact wrap_i64 (by omega) (by omega)
theorem wr_pos {x : Int} (hx : -32768 ≤ x ∧ x ≤ 32767) (h : 0 ≤ x) : IntKind.i64.wrap (imin x 32635 + 132) = mag x := by
  have := mag_rng hx
  rw [mag_pos hx h]; exact wrap_i64 (by omega) (by omega)
theorem sh4 {m : Int} : ishr .i64 m 4 = m / 16 := ishr_i64 4 (by omega)
theorem wr_e (m : Int) : IntKind.i64.wrap (expo m + 3) = expo m + 3 := by have := expo_range m; exact wrap_i64 (by omega) (by omega)
theorem expo_pos {m : Int} : (0 < expo m) ↔ 256 ≤ m := by
  simp only [expo]; repeat' split
  all_goals omega
end Sp
theorem con_first_code (x : Int) (hx : -32768 ≤ x ∧ x ≤ 32767) : Con Try.prog L0 27 [] [.a [], .c (.int .i16 x)] [] (.c (.int .u8 (Sp.mu x))) := by
  refine con_of_vc E_ok mixed Try.func27 rfl Try.call27 (Nat.le_of_ble_eq_true rfl) ?_
  refine VC.seq ?_
  refine VC.region (E := E) (C := C0) E_ok mixed (by first | exact fun _ => rfl | exact fun h => by cases h) [1, 4, 5, 6, 7, 8, 9, 10, 11, 12, 13, 14, 15, 16, 17, 18, 19, 20, 21, 22, 23, 24, 25, 26, 27, 28, 29] (st' := St.mk [(1, AV.c (Value.int IntKind.i16 x)), (4, AV.c (Value.int IntKind.u8 0))] [HObj.oo 42 0 [[]]]) (ps := []) (by kernel_rfl) (.nil) ?_
  refine seqK_n ?_
  refine VC.seq ?_
  refine VC.regionE (E := E) (C := C0) E_ok mixed (by first | exact fun _ => rfl | exact fun h => by cases h) [1, 4, 5, 6, 7, 10, 11, 12, 13, 14, 15, 16, 17, 18, 19, 20, 21, 22, 23, 24, 25, 26, 27, 28, 29] (st' := St.mk [(1, AV.c (Value.int IntKind.i16 x)), (4, AV.c (Value.int IntKind.u8 0)), (5, AV.c (Value.int IntKind.i64 (IntKind.wrap IntKind.i64 x))), (6, AV.c (Value.int IntKind.i64 255))] [HObj.oo 42 0 [[]]]) (ps := []) (by kernel_rfl) (.nil) (st'' := St.mk [(1, AV.c (Value.int IntKind.i16 x)), (4, AV.c (Value.int IntKind.u8 0)), (5, AV.c (Value.int IntKind.i64 x)), (6, AV.c (Value.int IntKind.i64 255))] [HObj.oo 42 0 [[]]]) (by simp (disch := omega) only [wrap_i8, wrap_i16, wrap_i32, wrap_i64, wrap_u8, wrap_u16, wrap_u32, wrap_u64, Int.tdiv_eq_ediv_of_nonneg, Int.tmod_eq_emod_of_nonneg, Int.toNat_natCast, Int.reduceToNat, Nat.mul_one, Nat.zero_add, Nat.add_zero, Nat.one_mul, Int.one_mul, Int.zero_add, Int.add_zero, Int.mul_one, List.drop_zero, List.take_length, Int.zero_sub, Int.zero_sub]) ?_
  refine seqK_n ?_
  refine VC.seq ?_
  refine VC.seq ?_
  refine VC.region (E := E) (C := C0) E_ok mixed (by first | exact fun _ => rfl | exact fun h => by cases h) [4, 5, 6, 7, 11, 12, 13, 14, 15, 16, 17, 18, 19, 20, 21, 22, 23, 24, 25, 26, 27, 28, 29] (st' := St.mk [(4, AV.c (Value.int IntKind.u8 0)), (5, AV.c (Value.int IntKind.i64 x)), (6, AV.c (Value.int IntKind.i64 255)), (11, AV.c (Value.bool (decide (x < 0))))] [HObj.oo 42 0 [[]]]) (ps := []) (by kernel_rfl) (.nil) ?_
  refine seqK_n ?_
  refine VC.cond (b := decide (x < 0)) (by kernel_rfl) (fun h1 => ?_) (fun h1 => ?_)
  ·
    simp at h1
    refine VC.regionE (E := E) (C := C0) E_ok mixed (by first | exact fun _ => rfl | exact fun h => by cases h) [4, 5, 6, 7, 14, 15, 16, 17, 18, 19, 20, 21, 22, 23, 24, 25, 26, 27, 28, 29] (st' := St.mk [(4, AV.c (Value.int IntKind.u8 0)), (5, AV.c (Value.int IntKind.i64 (IntKind.wrap IntKind.i64 (0 - x)))), (6, AV.c (Value.int IntKind.i64 127))] [HObj.oo 42 0 [[]]]) (ps := []) (by kernel_rfl) (.nil) (st'' := St.mk [(4, AV.c (Value.int IntKind.u8 0)), (5, AV.c (Value.int IntKind.i64 (-x))), (6, AV.c (Value.int IntKind.i64 127))] [HObj.oo 42 0 [[]]]) (by simp (disch := omega) only [wrap_i8, wrap_i16, wrap_i32, wrap_i64, wrap_u8, wrap_u16, wrap_u32, wrap_u64, Int.tdiv_eq_ediv_of_nonneg, Int.tmod_eq_emod_of_nonneg, Int.toNat_natCast, Int.reduceToNat, Nat.mul_one, Nat.zero_add, Nat.add_zero, Nat.one_mul, Int.one_mul, Int.zero_add, Int.add_zero, Int.mul_one, List.drop_zero, List.take_length, Int.zero_sub, Int.zero_sub, Sp.wr_neg hx h1]) ?_
    refine seqK_n ?_
    refine VC.seq ?_
    refine VC.regionE (E := E) (C := C0) E_ok mixed (by first | exact fun _ => rfl | exact fun h => by cases h) [4, 5, 6, 7, 17, 18, 19, 20, 21, 22, 23, 24, 25, 26, 27, 28, 29] (st' := St.mk [(4, AV.c (Value.int IntKind.u8 0)), (5, AV.c (Value.int IntKind.i64 (IntKind.wrap IntKind.i64 (imin (-x) 32635 + 132)))), (6, AV.c (Value.int IntKind.i64 127))] [HObj.oo 42 0 [[]]]) (ps := []) (by kernel_rfl) (.nil) (st'' := St.mk [(4, AV.c (Value.int IntKind.u8 0)), (5, AV.c (Value.int IntKind.i64 (Sp.mag x))), (6, AV.c (Value.int IntKind.i64 127))] [HObj.oo 42 0 [[]]]) (by simp (disch := omega) only [wrap_i8, wrap_i16, wrap_i32, wrap_i64, wrap_u8, wrap_u16, wrap_u32, wrap_u64, Int.tdiv_eq_ediv_of_nonneg, Int.tmod_eq_emod_of_nonneg, Int.toNat_natCast, Int.reduceToNat, Nat.mul_one, Nat.zero_add, Nat.add_zero, Nat.one_mul, Int.one_mul, Int.zero_add, Int.add_zero, Int.mul_one, List.drop_zero, List.take_length, Int.zero_sub, Int.zero_sub, Sp.wr_neg hx h1]) ?_
    refine seqK_n ?_
    refine VC.seq ?_
    refine VC.region (E := E) (C := C0) E_ok mixed (by first | exact fun _ => rfl | exact fun h => by cases h) [4, 5, 6, 7, 19, 20, 21, 22, 23, 24, 25, 26, 27, 28, 29] (st' := St.mk [(4, AV.c (Value.int IntKind.u8 0)), (5, AV.c (Value.int IntKind.i64 (Sp.mag x))), (6, AV.c (Value.int IntKind.i64 127)), (7, AV.c (Value.int IntKind.i64 (Sp.expo (Sp.mag x))))] [HObj.oo 42 0 [[]]]) (ps := [Con Try.prog L0 (32 : Nat) [] [AV.c (Value.int IntKind.i64 (Sp.mag x))] [] (AV.c (Value.int IntKind.i64 (Sp.expo (Sp.mag x)))), true = true ∨ True ∧ ∀ (o : HObj), o ∈ [] → HObj.nr o]) (by kernel_rfl) (.cons (by exact con_expo _) (.cons (by simp) (.nil))) ?_
    refine seqK_n ?_
    refine VC.seq ?_
    refine VC.region (E := E) (C := C0) E_ok mixed (by first | exact fun _ => rfl | exact fun h => by cases h) [4] (st' := St.mk [(4, AV.c (Value.int IntKind.u8 (IntKind.wrap IntKind.u8 (IntKind.wrap IntKind.i64 (IntKind.wrap IntKind.i64 (127 - IntKind.wrap IntKind.i64 (16 * Sp.expo (Sp.mag x))) - iand IntKind.i64 (ishr IntKind.i64 (Sp.mag x) (IntKind.wrap IntKind.i64 (Sp.expo (Sp.mag x) + 3))) 15)))))] [HObj.oo 42 0 [[]]]) (ps := [(0 : Int) ≤ IntKind.wrap IntKind.i64 (Sp.expo (Sp.mag x) + (3 : Int))]) (by kernel_rfl) (.cons (by have := Sp.expo_range (Sp.mag x); rw [wrap_i64 (by omega) (by omega)]; omega) (.nil)) ?_
    refine seqK_n ?_
    refine VC.ret ?_
    exact Fin.all [] (.inr rfl) (l := [AV.c (Value.int IntKind.u8 (IntKind.wrap IntKind.u8 (IntKind.wrap IntKind.i64 (IntKind.wrap IntKind.i64 (127 - IntKind.wrap IntKind.i64 (16 * Sp.expo (Sp.mag x))) - iand IntKind.i64 (ishr IntKind.i64 (Sp.mag x) (IntKind.wrap IntKind.i64 (Sp.expo (Sp.mag x) + 3))) 15))))]) (ps := []) (by kernel_rfl) (by kernel_rfl) (.nil) (All.of (l' := []) (by kernel_rfl) (.nil)) (show AV.c (Value.int IntKind.u8 (IntKind.wrap IntKind.u8 (IntKind.wrap IntKind.i64 (IntKind.wrap IntKind.i64 (127 - IntKind.wrap IntKind.i64 (16 * Sp.expo (Sp.mag x))) - iand IntKind.i64 (ishr IntKind.i64 (Sp.mag x) (IntKind.wrap IntKind.i64 (Sp.expo (Sp.mag x) + 3))) 15)))) = AV.c (Value.int IntKind.u8 (Sp.mu x)) by exact cong1 (Sp.mu_end hx (by rw [if_pos h1])))
  ·
    simp at h1
    refine VC.skip ?_
    refine seqK_n ?_
    refine VC.seq ?_
    refine VC.regionE (E := E) (C := C0) E_ok mixed (by first | exact fun _ => rfl | exact fun h => by cases h) [4, 5, 6, 7, 17, 18, 19, 20, 21, 22, 23, 24, 25, 26, 27, 28, 29] (st' := St.mk [(4, AV.c (Value.int IntKind.u8 0)), (5, AV.c (Value.int IntKind.i64 (IntKind.wrap IntKind.i64 (imin x 32635 + 132)))), (6, AV.c (Value.int IntKind.i64 255))] [HObj.oo 42 0 [[]]]) (ps := []) (by kernel_rfl) (.nil) (st'' := St.mk [(4, AV.c (Value.int IntKind.u8 0)), (5, AV.c (Value.int IntKind.i64 (Sp.mag x))), (6, AV.c (Value.int IntKind.i64 255))] [HObj.oo 42 0 [[]]]) (by simp (disch := omega) only [wrap_i8, wrap_i16, wrap_i32, wrap_i64, wrap_u8, wrap_u16, wrap_u32, wrap_u64, Int.tdiv_eq_ediv_of_nonneg, Int.tmod_eq_emod_of_nonneg, Int.toNat_natCast, Int.reduceToNat, Nat.mul_one, Nat.zero_add, Nat.add_zero, Nat.one_mul, Int.one_mul, Int.zero_add, Int.add_zero, Int.mul_one, List.drop_zero, List.take_length, Int.zero_sub, Int.zero_sub, Sp.wr_pos hx h1]) ?_
    refine seqK_n ?_
    refine VC.seq ?_
    refine VC.region (E := E) (C := C0) E_ok mixed (by first | exact fun _ => rfl | exact fun h => by cases h) [4, 5, 6, 7, 19, 20, 21, 22, 23, 24, 25, 26, 27, 28, 29] (st' := St.mk [(4, AV.c (Value.int IntKind.u8 0)), (5, AV.c (Value.int IntKind.i64 (Sp.mag x))), (6, AV.c (Value.int IntKind.i64 255)), (7, AV.c (Value.int IntKind.i64 (Sp.expo (Sp.mag x))))] [HObj.oo 42 0 [[]]]) (ps := [Con Try.prog L0 (32 : Nat) [] [AV.c (Value.int IntKind.i64 (Sp.mag x))] [] (AV.c (Value.int IntKind.i64 (Sp.expo (Sp.mag x)))), true = true ∨ True ∧ ∀ (o : HObj), o ∈ [] → HObj.nr o]) (by kernel_rfl) (.cons (by exact con_expo _) (.cons (by simp) (.nil))) ?_
    refine seqK_n ?_
    refine VC.seq ?_
    refine VC.region (E := E) (C := C0) E_ok mixed (by first | exact fun _ => rfl | exact fun h => by cases h) [4] (st' := St.mk [(4, AV.c (Value.int IntKind.u8 (IntKind.wrap IntKind.u8 (IntKind.wrap IntKind.i64 (IntKind.wrap IntKind.i64 (255 - IntKind.wrap IntKind.i64 (16 * Sp.expo (Sp.mag x))) - iand IntKind.i64 (ishr IntKind.i64 (Sp.mag x) (IntKind.wrap IntKind.i64 (Sp.expo (Sp.mag x) + 3))) 15)))))] [HObj.oo 42 0 [[]]]) (ps := [(0 : Int) ≤ IntKind.wrap IntKind.i64 (Sp.expo (Sp.mag x) + (3 : Int))]) (by kernel_rfl) (.cons (by have := Sp.expo_range (Sp.mag x); rw [wrap_i64 (by omega) (by omega)]; omega) (.nil)) ?_
    refine seqK_n ?_
    refine VC.ret ?_
    exact Fin.all [] (.inr rfl) (l := [AV.c (Value.int IntKind.u8 (IntKind.wrap IntKind.u8 (IntKind.wrap IntKind.i64 (IntKind.wrap IntKind.i64 (255 - IntKind.wrap IntKind.i64 (16 * Sp.expo (Sp.mag x))) - iand IntKind.i64 (ishr IntKind.i64 (Sp.mag x) (IntKind.wrap IntKind.i64 (Sp.expo (Sp.mag x) + 3))) 15))))]) (ps := []) (by kernel_rfl) (by kernel_rfl) (.nil) (All.of (l' := []) (by kernel_rfl) (.nil)) (show AV.c (Value.int IntKind.u8 (IntKind.wrap IntKind.u8 (IntKind.wrap IntKind.i64 (IntKind.wrap IntKind.i64 (255 - IntKind.wrap IntKind.i64 (16 * Sp.expo (Sp.mag x))) - iand IntKind.i64 (ishr IntKind.i64 (Sp.mag x) (IntKind.wrap IntKind.i64 (Sp.expo (Sp.mag x) + 3))) 15)))) = AV.c (Value.int IntKind.u8 (Sp.mu x)) by exact cong1 (Sp.mu_end hx (by rw [if_neg (by omega)])))
theorem con_second_code (x : Int) (hx : -32768 ≤ x ∧ x ≤ 32767) : Con Try.prog L0 29 [] [.a [], .c (.int .i16 x)] [] (.c (.int .u8 (Sp.a x))) := by
  refine con_of_vc E_ok mixed Try.func29 rfl Try.call29 (Nat.le_of_ble_eq_true rfl) ?_
  refine VC.seq ?_
  refine VC.region (E := E) (C := C0) E_ok mixed (by first | exact fun _ => rfl | exact fun h => by cases h) [1, 4, 5, 6, 7, 8, 9, 10, 11, 12, 13, 14, 15, 16, 17, 18, 19, 20, 21, 22, 23, 24, 25, 26, 27, 28, 29, 30, 31, 32, 33, 34] (st' := St.mk [(1, AV.c (Value.int IntKind.i16 x)), (4, AV.c (Value.int IntKind.u8 0))] [HObj.oo 43 0 [[]]]) (ps := []) (by kernel_rfl) (.nil) ?_
  refine seqK_n ?_
  refine VC.seq ?_
  refine VC.regionE (E := E) (C := C0) E_ok mixed (by first | exact fun _ => rfl | exact fun h => by cases h) [1, 4, 5, 6, 7, 8, 11, 12, 13, 14, 15, 16, 17, 18, 19, 20, 21, 22, 23, 24, 25, 26, 27, 28, 29, 30, 31, 32, 33, 34] (st' := St.mk [(1, AV.c (Value.int IntKind.i16 x)), (4, AV.c (Value.int IntKind.u8 0)), (5, AV.c (Value.int IntKind.i64 (IntKind.wrap IntKind.i64 x))), (6, AV.c (Value.int IntKind.i64 128))] [HObj.oo 43 0 [[]]]) (ps := []) (by kernel_rfl) (.nil) (st'' := St.mk [(1, AV.c (Value.int IntKind.i16 x)), (4, AV.c (Value.int IntKind.u8 0)), (5, AV.c (Value.int IntKind.i64 x)), (6, AV.c (Value.int IntKind.i64 128))] [HObj.oo 43 0 [[]]]) (by simp (disch := omega) only [wrap_i8, wrap_i16, wrap_i32, wrap_i64, wrap_u8, wrap_u16, wrap_u32, wrap_u64, Int.tdiv_eq_ediv_of_nonneg, Int.tmod_eq_emod_of_nonneg, Int.toNat_natCast, Int.reduceToNat, Nat.mul_one, Nat.zero_add, Nat.add_zero, Nat.one_mul, Int.one_mul, Int.zero_add, Int.add_zero, Int.mul_one, List.drop_zero, List.take_length, Int.zero_sub, Int.zero_sub]) ?_
  refine seqK_n ?_
  refine VC.seq ?_
  refine VC.seq ?_
  refine VC.region (E := E) (C := C0) E_ok mixed (by first | exact fun _ => rfl | exact fun h => by cases h) [4, 5, 6, 7, 8, 12, 13, 14, 15, 16, 17, 18, 19, 20, 21, 22, 23, 24, 25, 26, 27, 28, 29, 30, 31, 32, 33, 34] (st' := St.mk [(4, AV.c (Value.int IntKind.u8 0)), (5, AV.c (Value.int IntKind.i64 x)), (6, AV.c (Value.int IntKind.i64 128)), (12, AV.c (Value.bool (decide (x < 0))))] [HObj.oo 43 0 [[]]]) (ps := []) (by kernel_rfl) (.nil) ?_
  refine seqK_n ?_
  refine VC.cond (b := decide (x < 0)) (by kernel_rfl) (fun h1 => ?_) (fun h1 => ?_)
  ·
    simp at h1
    refine VC.regionE (E := E) (C := C0) E_ok mixed (by first | exact fun _ => rfl | exact fun h => by cases h) [4, 5, 6, 7, 8, 16, 17, 18, 19, 20, 21, 22, 23, 24, 25, 26, 27, 28, 29, 30, 31, 32, 33, 34] (st' := St.mk [(4, AV.c (Value.int IntKind.u8 0)), (5, AV.c (Value.int IntKind.i64 (IntKind.wrap IntKind.i64 (IntKind.wrap IntKind.i64 (0 - x) - 1)))), (6, AV.c (Value.int IntKind.i64 0))] [HObj.oo 43 0 [[]]]) (ps := []) (by kernel_rfl) (.nil) (st'' := St.mk [(4, AV.c (Value.int IntKind.u8 0)), (5, AV.c (Value.int IntKind.i64 (-x - 1))), (6, AV.c (Value.int IntKind.i64 0))] [HObj.oo 43 0 [[]]]) (by simp (disch := omega) only [wrap_i8, wrap_i16, wrap_i32, wrap_i64, wrap_u8, wrap_u16, wrap_u32, wrap_u64, Int.tdiv_eq_ediv_of_nonneg, Int.tmod_eq_emod_of_nonneg, Int.toNat_natCast, Int.reduceToNat, Nat.mul_one, Nat.zero_add, Nat.add_zero, Nat.one_mul, Int.one_mul, Int.zero_add, Int.add_zero, Int.mul_one, List.drop_zero, List.take_length, Int.zero_sub, Int.zero_sub]) ?_
    refine seqK_n ?_
    refine VC.seq ?_
    refine VC.region (E := E) (C := C0) E_ok mixed (by first | exact fun _ => rfl | exact fun h => by cases h) [4, 5, 6, 7, 8, 18, 19, 20, 21, 22, 23, 24, 25, 26, 27, 28, 29, 30, 31, 32, 33, 34] (st' := St.mk [(4, AV.c (Value.int IntKind.u8 0)), (5, AV.c (Value.int IntKind.i64 (-x - 1))), (6, AV.c (Value.int IntKind.i64 0)), (7, AV.c (Value.int IntKind.i64 (Sp.expo (-x - 1))))] [HObj.oo 43 0 [[]]]) (ps := [Con Try.prog L0 (32 : Nat) [] [AV.c (Value.int IntKind.i64 (-x - (1 : Int)))] [] (AV.c (Value.int IntKind.i64 (Sp.expo (-x - (1 : Int))))), true = true ∨ True ∧ ∀ (o : HObj), o ∈ [] → HObj.nr o]) (by kernel_rfl) (.cons (by exact con_expo _) (.cons (by simp) (.nil))) ?_
    refine seqK_n ?_
    refine VC.seq ?_
    refine VC.region (E := E) (C := C0) E_ok mixed (by first | exact fun _ => rfl | exact fun h => by cases h) [4, 5, 6, 7, 8, 20, 21, 22, 23, 24, 25, 26, 27, 28, 29, 30, 31, 32, 33, 34] (st' := St.mk [(4, AV.c (Value.int IntKind.u8 0)), (5, AV.c (Value.int IntKind.i64 (-x - 1))), (6, AV.c (Value.int IntKind.i64 0)), (7, AV.c (Value.int IntKind.i64 (Sp.expo (-x - 1)))), (8, AV.c (Value.int IntKind.i64 (ishr IntKind.i64 (-x - 1) 4)))] [HObj.oo 43 0 [[]]]) (ps := [(0 : Int) ≤ (4 : Int)]) (by kernel_rfl) (.cons (by trivial) (.nil)) ?_
    refine seqK_n ?_
    refine VC.seq ?_
    refine VC.seq ?_
    refine VC.region (E := E) (C := C0) E_ok mixed (by first | exact fun _ => rfl | exact fun h => by cases h) [4, 5, 6, 7, 8, 21, 22, 23, 24, 25, 26, 27, 28, 29, 30, 31, 32, 33, 34] (st' := St.mk [(4, AV.c (Value.int IntKind.u8 0)), (5, AV.c (Value.int IntKind.i64 (-x - 1))), (6, AV.c (Value.int IntKind.i64 0)), (7, AV.c (Value.int IntKind.i64 (Sp.expo (-x - 1)))), (8, AV.c (Value.int IntKind.i64 (ishr IntKind.i64 (-x - 1) 4))), (21, AV.c (Value.bool (decide (0 < Sp.expo (-x - 1)))))] [HObj.oo 43 0 [[]]]) (ps := []) (by kernel_rfl) (.nil) ?_
    refine seqK_n ?_
    refine VC.cond (b := decide (0 < Sp.expo (-x - 1))) (by kernel_rfl) (fun h2 => ?_) (fun h2 => ?_)
    ·
      simp at h2
      refine VC.region (E := E) (C := C0) E_ok mixed (by first | exact fun _ => rfl | exact fun h => by cases h) [4, 6, 7, 8, 27, 28, 29, 30, 31, 32, 33, 34] (st' := St.mk [(4, AV.c (Value.int IntKind.u8 0)), (6, AV.c (Value.int IntKind.i64 0)), (7, AV.c (Value.int IntKind.i64 (Sp.expo (-x - 1)))), (8, AV.c (Value.int IntKind.i64 (iand IntKind.i64 (ishr IntKind.i64 (-x - 1) (IntKind.wrap IntKind.i64 (Sp.expo (-x - 1) + 3))) 15)))] [HObj.oo 43 0 [[]]]) (ps := [(0 : Int) ≤ IntKind.wrap IntKind.i64 (Sp.expo (-x - (1 : Int)) + (3 : Int))]) (by kernel_rfl) (.cons (by have := Sp.expo_range (-x - 1); rw [wrap_i64 (by omega) (by omega)]; omega) (.nil)) ?_
      refine seqK_n ?_
      refine VC.seq ?_
      refine VC.regionE (E := E) (C := C0) E_ok mixed (by first | exact fun _ => rfl | exact fun h => by cases h) [4] (st' := St.mk [(4, AV.c (Value.int IntKind.u8 (IntKind.wrap IntKind.u8 (ixor IntKind.i64 (IntKind.wrap IntKind.i64 (IntKind.wrap IntKind.i64 (0 + IntKind.wrap IntKind.i64 (16 * Sp.expo (-x - 1))) + iand IntKind.i64 (ishr IntKind.i64 (-x - 1) (IntKind.wrap IntKind.i64 (Sp.expo (-x - 1) + 3))) 15)) 85))))] [HObj.oo 43 0 [[]]]) (ps := []) (by kernel_rfl) (.nil) (st'' := St.mk [(4, AV.c (Value.int IntKind.u8 (IntKind.wrap IntKind.u8 (ixor IntKind.i64 (IntKind.wrap IntKind.i64 (IntKind.wrap IntKind.i64 (IntKind.wrap IntKind.i64 (16 * Sp.expo (-x - 1))) + iand IntKind.i64 (ishr IntKind.i64 (-x - 1) (IntKind.wrap IntKind.i64 (Sp.expo (-x - 1) + 3))) 15)) 85))))] [HObj.oo 43 0 [[]]]) (by simp (disch := omega) only [wrap_i8, wrap_i16, wrap_i32, wrap_i64, wrap_u8, wrap_u16, wrap_u32, wrap_u64, Int.tdiv_eq_ediv_of_nonneg, Int.tmod_eq_emod_of_nonneg, Int.toNat_natCast, Int.reduceToNat, Nat.mul_one, Nat.zero_add, Nat.add_zero, Nat.one_mul, Int.one_mul, Int.zero_add, Int.add_zero, Int.mul_one, List.drop_zero, List.take_length, Int.zero_sub, Int.zero_sub]) ?_
      refine seqK_n ?_
      refine VC.ret ?_
      exact Fin.all [] (.inr rfl) (l := [AV.c (Value.int IntKind.u8 (IntKind.wrap IntKind.u8 (ixor IntKind.i64 (IntKind.wrap IntKind.i64 (IntKind.wrap IntKind.i64 (IntKind.wrap IntKind.i64 (16 * Sp.expo (-x - 1))) + iand IntKind.i64 (ishr IntKind.i64 (-x - 1) (IntKind.wrap IntKind.i64 (Sp.expo (-x - 1) + 3))) 15)) 85)))]) (ps := []) (by kernel_rfl) (by kernel_rfl) (.nil) (All.of (l' := []) (by kernel_rfl) (.nil)) (show AV.c (Value.int IntKind.u8 (IntKind.wrap IntKind.u8 (ixor IntKind.i64 (IntKind.wrap IntKind.i64 (IntKind.wrap IntKind.i64 (IntKind.wrap IntKind.i64 (16 * Sp.expo (-x - 1))) + iand IntKind.i64 (ishr IntKind.i64 (-x - 1) (IntKind.wrap IntKind.i64 (Sp.expo (-x - 1) + 3))) 15)) 85))) = AV.c (Value.int IntKind.u8 (Sp.a x)) by exact cong1 (Sp.a_end0 hx h1 rfl _ (by rw [Sp.wr_e, Sp.shr_expo (by omega), if_neg (by have := Sp.expo_pos.1 h2; omega)])))
    ·
      simp at h2
      refine VC.skip ?_
      refine seqK_n ?_
      refine VC.seq ?_
      refine VC.regionE (E := E) (C := C0) E_ok mixed (by first | exact fun _ => rfl | exact fun h => by cases h) [4] (st' := St.mk [(4, AV.c (Value.int IntKind.u8 (IntKind.wrap IntKind.u8 (ixor IntKind.i64 (IntKind.wrap IntKind.i64 (IntKind.wrap IntKind.i64 (0 + IntKind.wrap IntKind.i64 (16 * Sp.expo (-x - 1))) + ishr IntKind.i64 (-x - 1) 4)) 85))))] [HObj.oo 43 0 [[]]]) (ps := []) (by kernel_rfl) (.nil) (st'' := St.mk [(4, AV.c (Value.int IntKind.u8 (IntKind.wrap IntKind.u8 (ixor IntKind.i64 (IntKind.wrap IntKind.i64 (IntKind.wrap IntKind.i64 (IntKind.wrap IntKind.i64 (16 * Sp.expo (-x - 1))) + ishr IntKind.i64 (-x - 1) 4)) 85))))] [HObj.oo 43 0 [[]]]) (by simp (disch := omega) only [wrap_i8, wrap_i16, wrap_i32, wrap_i64, wrap_u8, wrap_u16, wrap_u32, wrap_u64, Int.tdiv_eq_ediv_of_nonneg, Int.tmod_eq_emod_of_nonneg, Int.toNat_natCast, Int.reduceToNat, Nat.mul_one, Nat.zero_add, Nat.add_zero, Nat.one_mul, Int.one_mul, Int.zero_add, Int.add_zero, Int.mul_one, List.drop_zero, List.take_length, Int.zero_sub, Int.zero_sub]) ?_
      refine seqK_n ?_
      refine VC.ret ?_
      exact Fin.all [] (.inr rfl) (l := [AV.c (Value.int IntKind.u8 (IntKind.wrap IntKind.u8 (ixor IntKind.i64 (IntKind.wrap IntKind.i64 (IntKind.wrap IntKind.i64 (IntKind.wrap IntKind.i64 (16 * Sp.expo (-x - 1))) + ishr IntKind.i64 (-x - 1) 4)) 85)))]) (ps := []) (by kernel_rfl) (by kernel_rfl) (.nil) (All.of (l' := []) (by kernel_rfl) (.nil)) (show AV.c (Value.int IntKind.u8 (IntKind.wrap IntKind.u8 (ixor IntKind.i64 (IntKind.wrap IntKind.i64 (IntKind.wrap IntKind.i64 (IntKind.wrap IntKind.i64 (16 * Sp.expo (-x - 1))) + ishr IntKind.i64 (-x - 1) 4)) 85))) = AV.c (Value.int IntKind.u8 (Sp.a x)) by exact cong1 (Sp.a_end0 hx h1 rfl _ (by rw [Sp.sh4, if_pos (Int.not_le.1 (fun h => by have := Sp.expo_pos.2 h; omega))])))
  ·
    simp at h1
    refine VC.skip ?_
    refine seqK_n ?_
    refine VC.seq ?_
    refine VC.region (E := E) (C := C0) E_ok mixed (by first | exact fun _ => rfl | exact fun h => by cases h) [4, 5, 6, 7, 8, 18, 19, 20, 21, 22, 23, 24, 25, 26, 27, 28, 29, 30, 31, 32, 33, 34] (st' := St.mk [(4, AV.c (Value.int IntKind.u8 0)), (5, AV.c (Value.int IntKind.i64 x)), (6, AV.c (Value.int IntKind.i64 128)), (7, AV.c (Value.int IntKind.i64 (Sp.expo x)))] [HObj.oo 43 0 [[]]]) (ps := [Con Try.prog L0 (32 : Nat) [] [AV.c (Value.int IntKind.i64 x)] [] (AV.c (Value.int IntKind.i64 (Sp.expo x))), true = true ∨ True ∧ ∀ (o : HObj), o ∈ [] → HObj.nr o]) (by kernel_rfl) (.cons (by exact con_expo _) (.cons (by simp) (.nil))) ?_
    refine seqK_n ?_
    refine VC.seq ?_
    refine VC.region (E := E) (C := C0) E_ok mixed (by first | exact fun _ => rfl | exact fun h => by cases h) [4, 5, 6, 7, 8, 20, 21, 22, 23, 24, 25, 26, 27, 28, 29, 30, 31, 32, 33, 34] (st' := St.mk [(4, AV.c (Value.int IntKind.u8 0)), (5, AV.c (Value.int IntKind.i64 x)), (6, AV.c (Value.int IntKind.i64 128)), (7, AV.c (Value.int IntKind.i64 (Sp.expo x))), (8, AV.c (Value.int IntKind.i64 (ishr IntKind.i64 x 4)))] [HObj.oo 43 0 [[]]]) (ps := [(0 : Int) ≤ (4 : Int)]) (by kernel_rfl) (.cons (by trivial) (.nil)) ?_
    refine seqK_n ?_
    refine VC.seq ?_
    refine VC.seq ?_
    refine VC.region (E := E) (C := C0) E_ok mixed (by first | exact fun _ => rfl | exact fun h => by cases h) [4, 5, 6, 7, 8, 21, 22, 23, 24, 25, 26, 27, 28, 29, 30, 31, 32, 33, 34] (st' := St.mk [(4, AV.c (Value.int IntKind.u8 0)), (5, AV.c (Value.int IntKind.i64 x)), (6, AV.c (Value.int IntKind.i64 128)), (7, AV.c (Value.int IntKind.i64 (Sp.expo x))), (8, AV.c (Value.int IntKind.i64 (ishr IntKind.i64 x 4))), (21, AV.c (Value.bool (decide (0 < Sp.expo x))))] [HObj.oo 43 0 [[]]]) (ps := []) (by kernel_rfl) (.nil) ?_
    refine seqK_n ?_
    refine VC.cond (b := decide (0 < Sp.expo x)) (by kernel_rfl) (fun h3 => ?_) (fun h3 => ?_)
    ·
      simp at h3
      refine VC.region (E := E) (C := C0) E_ok mixed (by first | exact fun _ => rfl | exact fun h => by cases h) [4, 6, 7, 8, 27, 28, 29, 30, 31, 32, 33, 34] (st' := St.mk [(4, AV.c (Value.int IntKind.u8 0)), (6, AV.c (Value.int IntKind.i64 128)), (7, AV.c (Value.int IntKind.i64 (Sp.expo x))), (8, AV.c (Value.int IntKind.i64 (iand IntKind.i64 (ishr IntKind.i64 x (IntKind.wrap IntKind.i64 (Sp.expo x + 3))) 15)))] [HObj.oo 43 0 [[]]]) (ps := [(0 : Int) ≤ IntKind.wrap IntKind.i64 (Sp.expo x + (3 : Int))]) (by kernel_rfl) (.cons (by have := Sp.expo_range x; rw [wrap_i64 (by omega) (by omega)]; omega) (.nil)) ?_
      refine seqK_n ?_
      refine VC.seq ?_
      refine VC.region (E := E) (C := C0) E_ok mixed (by first | exact fun _ => rfl | exact fun h => by cases h) [4] (st' := St.mk [(4, AV.c (Value.int IntKind.u8 (IntKind.wrap IntKind.u8 (ixor IntKind.i64 (IntKind.wrap IntKind.i64 (IntKind.wrap IntKind.i64 (128 + IntKind.wrap IntKind.i64 (16 * Sp.expo x)) + iand IntKind.i64 (ishr IntKind.i64 x (IntKind.wrap IntKind.i64 (Sp.expo x + 3))) 15)) 85))))] [HObj.oo 43 0 [[]]]) (ps := []) (by kernel_rfl) (.nil) ?_
      refine seqK_n ?_
      refine VC.ret ?_
      exact Fin.all [] (.inr rfl) (l := [AV.c (Value.int IntKind.u8 (IntKind.wrap IntKind.u8 (ixor IntKind.i64 (IntKind.wrap IntKind.i64 (IntKind.wrap IntKind.i64 (128 + IntKind.wrap IntKind.i64 (16 * Sp.expo x)) + iand IntKind.i64 (ishr IntKind.i64 x (IntKind.wrap IntKind.i64 (Sp.expo x + 3))) 15)) 85)))]) (ps := []) (by kernel_rfl) (by kernel_rfl) (.nil) (All.of (l' := []) (by kernel_rfl) (.nil)) (show AV.c (Value.int IntKind.u8 (IntKind.wrap IntKind.u8 (ixor IntKind.i64 (IntKind.wrap IntKind.i64 (IntKind.wrap IntKind.i64 (128 + IntKind.wrap IntKind.i64 (16 * Sp.expo x)) + iand IntKind.i64 (ishr IntKind.i64 x (IntKind.wrap IntKind.i64 (Sp.expo x + 3))) 15)) 85))) = AV.c (Value.int IntKind.u8 (Sp.a x)) by exact cong1 (Sp.a_end1 hx h1 _ (by rw [Sp.wr_e, Sp.shr_expo (by omega), if_neg (by have := Sp.expo_pos.1 h3; omega)])))
    ·
      simp at h3
      refine VC.skip ?_
      refine seqK_n ?_
      refine VC.seq ?_
      refine VC.region (E := E) (C := C0) E_ok mixed (by first | exact fun _ => rfl | exact fun h => by cases h) [4] (st' := St.mk [(4, AV.c (Value.int IntKind.u8 (IntKind.wrap IntKind.u8 (ixor IntKind.i64 (IntKind.wrap IntKind.i64 (IntKind.wrap IntKind.i64 (128 + IntKind.wrap IntKind.i64 (16 * Sp.expo x)) + ishr IntKind.i64 x 4)) 85))))] [HObj.oo 43 0 [[]]]) (ps := []) (by kernel_rfl) (.nil) ?_
      refine seqK_n ?_
      refine VC.ret ?_
      exact Fin.all [] (.inr rfl) (l := [AV.c (Value.int IntKind.u8 (IntKind.wrap IntKind.u8 (ixor IntKind.i64 (IntKind.wrap IntKind.i64 (IntKind.wrap IntKind.i64 (128 + IntKind.wrap IntKind.i64 (16 * Sp.expo x)) + ishr IntKind.i64 x 4)) 85)))]) (ps := []) (by kernel_rfl) (by kernel_rfl) (.nil) (All.of (l' := []) (by kernel_rfl) (.nil)) (show AV.c (Value.int IntKind.u8 (IntKind.wrap IntKind.u8 (ixor IntKind.i64 (IntKind.wrap IntKind.i64 (IntKind.wrap IntKind.i64 (128 + IntKind.wrap IntKind.i64 (16 * Sp.expo x)) + ishr IntKind.i64 x 4)) 85))) = AV.c (Value.int IntKind.u8 (Sp.a x)) by exact cong1 (Sp.a_end1 hx h1 _ (by rw [Sp.sh4, if_pos (Int.not_le.1 (fun h => by have := Sp.expo_pos.2 h; omega))])))
namespace Sp
theorem c_range {b : Int} (hb : 0 ≤ b ∧ b ≤ 255) : IntKind.i64.wrap (255 - IntKind.i64.wrap b) = 255 - b := by
  rw [wrap_i64 (x := b) (by omega) (by omega), wrap_i64 (by omega) (by omega)]
theorem and15 {c : Int} (hc : 0 ≤ c ∧ c ≤ 255) : iand .i64 c 15 = c % 16 := iand15 (by omega)
theorem and15b {b : Int} (hb : 0 ≤ b ∧ b ≤ 255) : iand .i64 (255 - b) 15 = (255 - b) % 16 := iand15 (by omega)
theorem sr4 {c : Int} (hc : 0 ≤ c ∧ c ≤ 255) : iand .i64 (ishr .i64 c 4) 7 = c / 16 % 8 := by rw [sh4, iand7 (by omega)]
theorem sr4b {b : Int} (hb : 0 ≤ b ∧ b ≤ 255) : iand .i64 (ishr .i64 (255 - b) 4) 7 = (255 - b) / 16 % 8 := by rw [sh4, iand7 (by omega)]
theorem shl1 {b : Int} (hb : 0 ≤ b ∧ b ≤ 255) : ishl .i64 (8 * ((255 - b) % 16) + 132) ((255 - b) / 16 % 8) = sh8 (8 * ((255 - b) % 16) + 132) ((255 - b) / 16 % 8) := shl_sh8 (by omega) (by omega)
theorem shl2 {c : Int} (h : 0 < c / 16 % 8) : ishl .i64 (16 * (c % 16) + 264) (c / 16 % 8 - 1) = sh8 (16 * (c % 16) + 264) (c / 16 % 8 - 1) := shl_sh8 (by omega) (by omega)
theorem shl3 {c : Int} (h : 0 < c / 16 % 8) : ishl .i64 (16 * (c % 16) + 8 + 256) (c / 16 % 8 - 1) = sh8 (16 * (c % 16) + 264) (c / 16 % 8 - 1) := by rw [Int.add_assoc]; exact shl2 h
theorem mp1 (b : Int) : (8 * ((255 - b) % 16) + 132) * pow ((255 - b) / 16 % 8) = sh8 (8 * ((255 - b) % 16) + 132) ((255 - b) / 16 % 8) := mul_pow (by omega)
theorem mp2 {c : Int} (h : 0 < c / 16 % 8) : (16 * (c % 16) + 264) * pow (c / 16 % 8 - 1) = sh8 (16 * (c % 16) + 264) (c / 16 % 8 - 1) := mul_pow (by omega)
theorem f1 {b : Int} (hb : 0 ≤ b ∧ b ≤ 255) : 0 ≤ sh8 (8 * ((255 - b) % 16) + 132) ((255 - b) / 16 % 8) ∧ sh8 (8 * ((255 - b) % 16) + 132) ((255 - b) / 16 % 8) ≤ 32256 := by
  have := sh8_range (y := 8 * ((255 - b) % 16) + 132) (e := (255 - b) / 16 % 8) (by omega); omega
theorem xw {b : Int} (hb : 0 ≤ b ∧ b ≤ 255) : ixor .i64 (IntKind.i64.wrap b) 85 = ixor .u8 b 85 := by
  rw [wrap_i64 (by omega) (by omega)]; exact (xor_lt hb).2.2.2
theorem fa_neg1 {c : Int} (h1 : 0 < c / 16 % 8) (h2 : c < 128) : fa0 c = -sh8 (16 * (c % 16) + 264) (c / 16 % 8 - 1) := by simp only [fa0, h1, h2, if_true]
theorem fa_neg0 {c : Int} (h1 : ¬ 0 < c / 16 % 8) (h2 : c < 128) : fa0 c = -(16 * (c % 16) + 8) := by simp only [fa0, h1, h2, if_true, if_false]
theorem fa_pos1 {c : Int} (h1 : 0 < c / 16 % 8) (h2 : ¬ c < 128) : fa0 c = sh8 (16 * (c % 16) + 264) (c / 16 % 8 - 1) := by simp only [fa0, h1, h2, if_true, if_false]
theorem fa_pos0 {c : Int} (h1 : ¬ 0 < c / 16 % 8) (h2 : ¬ c < 128) : fa0 c = 16 * (c % 16) + 8 := by simp only [fa0, h1, h2, if_false]
end Sp
theorem con_first_sample (b : Int) (hb : 0 ≤ b ∧ b ≤ 255) : Con Try.prog L0 26 [] [.a [], .c (.int .u8 b)] [] (.c (.int .i16 (Sp.fmu b))) := by
  refine con_of_vc E_ok mixed Try.func26 rfl Try.call26 (Nat.le_of_ble_eq_true rfl) ?_
  have hf := Sp.f1 hb
  refine VC.seq ?_
  refine VC.region (E := E) (C := C0) E_ok mixed (by first | exact fun _ => rfl | exact fun h => by cases h) [1, 4, 5, 6, 7, 8, 9, 10, 11, 12, 13, 14, 15, 16, 17, 18, 19, 20, 21, 22, 23, 24] (st' := St.mk [(1, AV.c (Value.int IntKind.u8 b)), (4, AV.c (Value.int IntKind.i16 0))] [HObj.oo 42 0 [[]]]) (ps := []) (by kernel_rfl) (.nil) ?_
  refine seqK_n ?_
  refine VC.seq ?_
  refine VC.regionE (E := E) (C := C0) E_ok mixed (by first | exact fun _ => rfl | exact fun h => by cases h) [4, 5, 6, 10, 11, 12, 13, 14, 15, 16, 17, 18, 19, 20, 21, 22, 23, 24] (st' := St.mk [(4, AV.c (Value.int IntKind.i16 0)), (5, AV.c (Value.int IntKind.i64 (IntKind.wrap IntKind.i64 (255 - IntKind.wrap IntKind.i64 b))))] [HObj.oo 42 0 [[]]]) (ps := []) (by kernel_rfl) (.nil) (st'' := St.mk [(4, AV.c (Value.int IntKind.i16 0)), (5, AV.c (Value.int IntKind.i64 (255 - b)))] [HObj.oo 42 0 [[]]]) (by simp (disch := omega) only [wrap_i8, wrap_i16, wrap_i32, wrap_i64, wrap_u8, wrap_u16, wrap_u32, wrap_u64, Int.tdiv_eq_ediv_of_nonneg, Int.tmod_eq_emod_of_nonneg, Int.toNat_natCast, Int.reduceToNat, Nat.mul_one, Nat.zero_add, Nat.add_zero, Nat.one_mul, Int.one_mul, Int.zero_add, Int.add_zero, Int.mul_one, List.drop_zero, List.take_length, Int.zero_sub, Sp.c_range hb, Sp.and15b hb, Sp.sr4b hb, Sp.shl1 hb]) ?_
  refine seqK_n ?_
  refine VC.seq ?_
  refine VC.regionE (E := E) (C := C0) E_ok mixed (by first | exact fun _ => rfl | exact fun h => by cases h) [4, 5, 6, 19, 20, 21, 22, 23, 24] (st' := St.mk [(4, AV.c (Value.int IntKind.i16 0)), (5, AV.c (Value.int IntKind.i64 (255 - b))), (6, AV.c (Value.int IntKind.i64 (IntKind.wrap IntKind.i64 (ishl IntKind.i64 (IntKind.wrap IntKind.i64 (IntKind.wrap IntKind.i64 (8 * iand IntKind.i64 (255 - b) 15) + 132)) (iand IntKind.i64 (ishr IntKind.i64 (255 - b) 4) 7) - 132))))] [HObj.oo 42 0 [[]]]) (ps := [(0 : Int) ≤ (4 : Int), (0 : Int) ≤ iand IntKind.i64 (ishr IntKind.i64 ((255 : Int) - b) (4 : Int)) (7 : Int)]) (by kernel_rfl) (.cons (by trivial) (.cons (by simp (disch := omega) only [wrap_i8, wrap_i16, wrap_i32, wrap_i64, wrap_u8, wrap_u16, wrap_u32, wrap_u64, Int.tdiv_eq_ediv_of_nonneg, Int.tmod_eq_emod_of_nonneg, Int.toNat_natCast, Int.reduceToNat, Nat.mul_one, Nat.zero_add, Nat.add_zero, Nat.one_mul, Int.one_mul, Int.zero_add, Int.add_zero, Int.mul_one, List.drop_zero, List.take_length, Int.zero_sub, Sp.c_range hb, Sp.and15b hb, Sp.sr4b hb, Sp.shl1 hb]; omega) (.nil))) (st'' := St.mk [(4, AV.c (Value.int IntKind.i16 0)), (5, AV.c (Value.int IntKind.i64 (255 - b))), (6, AV.c (Value.int IntKind.i64 (Sp.sh8 (8 * ((255 - b) % 16) + 132) ((255 - b) / 16 % 8) - 132)))] [HObj.oo 42 0 [[]]]) (by simp (disch := omega) only [wrap_i8, wrap_i16, wrap_i32, wrap_i64, wrap_u8, wrap_u16, wrap_u32, wrap_u64, Int.tdiv_eq_ediv_of_nonneg, Int.tmod_eq_emod_of_nonneg, Int.toNat_natCast, Int.reduceToNat, Nat.mul_one, Nat.zero_add, Nat.add_zero, Nat.one_mul, Int.one_mul, Int.zero_add, Int.add_zero, Int.mul_one, List.drop_zero, List.take_length, Int.zero_sub, Sp.c_range hb, Sp.and15b hb, Sp.sr4b hb, Sp.shl1 hb]) ?_
  refine seqK_n ?_
  refine VC.seq ?_
  refine VC.seq ?_
  refine VC.region (E := E) (C := C0) E_ok mixed (by first | exact fun _ => rfl | exact fun h => by cases h) [4, 6, 20, 21, 22, 23, 24] (st' := St.mk [(4, AV.c (Value.int IntKind.i16 0)), (6, AV.c (Value.int IntKind.i64 (Sp.sh8 (8 * ((255 - b) % 16) + 132) ((255 - b) / 16 % 8) - 132))), (20, AV.c (Value.bool (decide (127 < 255 - b))))] [HObj.oo 42 0 [[]]]) (ps := []) (by kernel_rfl) (.nil) ?_
  refine seqK_n ?_
  refine VC.cond (b := decide (127 < 255 - b)) (by kernel_rfl) (fun h1 => ?_) (fun h1 => ?_)
  ·
    simp at h1
    refine VC.regionE (E := E) (C := C0) E_ok mixed (by first | exact fun _ => rfl | exact fun h => by cases h) [4, 6, 23, 24] (st' := St.mk [(4, AV.c (Value.int IntKind.i16 0)), (6, AV.c (Value.int IntKind.i64 (IntKind.wrap IntKind.i64 (0 - (Sp.sh8 (8 * ((255 - b) % 16) + 132) ((255 - b) / 16 % 8) - 132)))))] [HObj.oo 42 0 [[]]]) (ps := []) (by kernel_rfl) (.nil) (st'' := St.mk [(4, AV.c (Value.int IntKind.i16 0)), (6, AV.c (Value.int IntKind.i64 (-(Sp.sh8 (8 * ((255 - b) % 16) + 132) ((255 - b) / 16 % 8) - 132))))] [HObj.oo 42 0 [[]]]) (by simp (disch := omega) only [wrap_i8, wrap_i16, wrap_i32, wrap_i64, wrap_u8, wrap_u16, wrap_u32, wrap_u64, Int.tdiv_eq_ediv_of_nonneg, Int.tmod_eq_emod_of_nonneg, Int.toNat_natCast, Int.reduceToNat, Nat.mul_one, Nat.zero_add, Nat.add_zero, Nat.one_mul, Int.one_mul, Int.zero_add, Int.add_zero, Int.mul_one, List.drop_zero, List.take_length, Int.zero_sub, Sp.c_range hb, Sp.and15b hb, Sp.sr4b hb, Sp.shl1 hb]) ?_
    refine seqK_n ?_
    refine VC.seq ?_
    refine VC.regionE (E := E) (C := C0) E_ok mixed (by first | exact fun _ => rfl | exact fun h => by cases h) [4] (st' := St.mk [(4, AV.c (Value.int IntKind.i16 (IntKind.wrap IntKind.i16 (-(Sp.sh8 (8 * ((255 - b) % 16) + 132) ((255 - b) / 16 % 8) - 132)))))] [HObj.oo 42 0 [[]]]) (ps := []) (by kernel_rfl) (.nil) (st'' := St.mk [(4, AV.c (Value.int IntKind.i16 (-(Sp.sh8 (8 * ((255 - b) % 16) + 132) ((255 - b) / 16 % 8) - 132))))] [HObj.oo 42 0 [[]]]) (by simp (disch := omega) only [wrap_i8, wrap_i16, wrap_i32, wrap_i64, wrap_u8, wrap_u16, wrap_u32, wrap_u64, Int.tdiv_eq_ediv_of_nonneg, Int.tmod_eq_emod_of_nonneg, Int.toNat_natCast, Int.reduceToNat, Nat.mul_one, Nat.zero_add, Nat.add_zero, Nat.one_mul, Int.one_mul, Int.zero_add, Int.add_zero, Int.mul_one, List.drop_zero, List.take_length, Int.zero_sub, Sp.c_range hb, Sp.and15b hb, Sp.sr4b hb, Sp.shl1 hb]) ?_
    refine seqK_n ?_
    refine VC.ret ?_
    exact Fin.all [] (.inr rfl) (l := [AV.c (Value.int IntKind.i16 (-(Sp.sh8 (8 * ((255 - b) % 16) + 132) ((255 - b) / 16 % 8) - 132)))]) (ps := []) (by kernel_rfl) (by kernel_rfl) (.nil) (All.of (l' := []) (by kernel_rfl) (.nil)) (show AV.c (Value.int IntKind.i16 (-(Sp.sh8 (8 * ((255 - b) % 16) + 132) ((255 - b) / 16 % 8) - 132))) = AV.c (Value.int IntKind.i16 (Sp.fmu b)) by refine cong1 ?_; simp (disch := omega) only [wrap_i64, wrap_i16, Sp.fmu, Int.zero_sub]; first | rw [if_pos (by omega)] | rw [if_neg (by omega)])
  ·
    simp at h1
    refine VC.skip ?_
    refine seqK_n ?_
    refine VC.seq ?_
    refine VC.regionE (E := E) (C := C0) E_ok mixed (by first | exact fun _ => rfl | exact fun h => by cases h) [4] (st' := St.mk [(4, AV.c (Value.int IntKind.i16 (IntKind.wrap IntKind.i16 (Sp.sh8 (8 * ((255 - b) % 16) + 132) ((255 - b) / 16 % 8) - 132))))] [HObj.oo 42 0 [[]]]) (ps := []) (by kernel_rfl) (.nil) (st'' := St.mk [(4, AV.c (Value.int IntKind.i16 (Sp.sh8 (8 * ((255 - b) % 16) + 132) ((255 - b) / 16 % 8) - 132)))] [HObj.oo 42 0 [[]]]) (by simp (disch := omega) only [wrap_i8, wrap_i16, wrap_i32, wrap_i64, wrap_u8, wrap_u16, wrap_u32, wrap_u64, Int.tdiv_eq_ediv_of_nonneg, Int.tmod_eq_emod_of_nonneg, Int.toNat_natCast, Int.reduceToNat, Nat.mul_one, Nat.zero_add, Nat.add_zero, Nat.one_mul, Int.one_mul, Int.zero_add, Int.add_zero, Int.mul_one, List.drop_zero, List.take_length, Int.zero_sub, Sp.c_range hb, Sp.and15b hb, Sp.sr4b hb, Sp.shl1 hb]) ?_
    refine seqK_n ?_
    refine VC.ret ?_
    exact Fin.all [] (.inr rfl) (l := [AV.c (Value.int IntKind.i16 (Sp.sh8 (8 * ((255 - b) % 16) + 132) ((255 - b) / 16 % 8) - 132))]) (ps := []) (by kernel_rfl) (by kernel_rfl) (.nil) (All.of (l' := []) (by kernel_rfl) (.nil)) (show AV.c (Value.int IntKind.i16 (Sp.sh8 (8 * ((255 - b) % 16) + 132) ((255 - b) / 16 % 8) - 132)) = AV.c (Value.int IntKind.i16 (Sp.fmu b)) by refine cong1 ?_; simp (disch := omega) only [wrap_i64, wrap_i16, Sp.fmu, Int.zero_sub]; first | rw [if_pos (by omega)] | rw [if_neg (by omega)])
theorem con_second_sample (b : Int) (hb : 0 ≤ b ∧ b ≤ 255) : Con Try.prog L0 28 [] [.a [], .c (.int .u8 b)] [] (.c (.int .i16 (Sp.fa b))) := by
  refine con_of_vc E_ok mixed Try.func28 rfl Try.call28 (Nat.le_of_ble_eq_true rfl) ?_
  obtain ⟨-, hc1, hc2, -⟩ := Sp.xor_lt hb
  have hc := And.intro hc1 hc2
  have hs := Sp.fa0_range hc
  simp only [Sp.fa]
  refine VC.seq ?_
  refine VC.region (E := E) (C := C0) E_ok mixed (by first | exact fun _ => rfl | exact fun h => by cases h) [1, 4, 5, 6, 7, 8, 9, 10, 11, 12, 13, 14, 15, 16, 17, 18, 19, 20, 21, 22, 23, 24, 25, 26, 27, 28, 29, 30] (st' := St.mk [(1, AV.c (Value.int IntKind.u8 b)), (4, AV.c (Value.int IntKind.i16 0))] [HObj.oo 43 0 [[]]]) (ps := []) (by kernel_rfl) (.nil) ?_
  refine seqK_n ?_
  refine VC.seq ?_
  refine VC.regionE (E := E) (C := C0) E_ok mixed (by first | exact fun _ => rfl | exact fun h => by cases h) [4, 5, 6, 7, 11, 12, 13, 14, 15, 16, 17, 18, 19, 20, 21, 22, 23, 24, 25, 26, 27, 28, 29, 30] (st' := St.mk [(4, AV.c (Value.int IntKind.i16 0)), (5, AV.c (Value.int IntKind.i64 (ixor IntKind.i64 (IntKind.wrap IntKind.i64 b) 85)))] [HObj.oo 43 0 [[]]]) (ps := []) (by kernel_rfl) (.nil) (st'' := St.mk [(4, AV.c (Value.int IntKind.i16 0)), (5, AV.c (Value.int IntKind.i64 (ixor IntKind.u8 b 85)))] [HObj.oo 43 0 [[]]]) (by simp (disch := omega) only [wrap_i8, wrap_i16, wrap_i32, wrap_i64, wrap_u8, wrap_u16, wrap_u32, wrap_u64, Int.tdiv_eq_ediv_of_nonneg, Int.tmod_eq_emod_of_nonneg, Int.toNat_natCast, Int.reduceToNat, Nat.mul_one, Nat.zero_add, Nat.add_zero, Nat.one_mul, Int.one_mul, Int.zero_add, Int.add_zero, Int.mul_one, List.drop_zero, List.take_length, Int.zero_sub, (Sp.xor_lt hb).2.2.2, Sp.and15 hc, Sp.sr4 hc]) ?_
  refine seqK_n ?_
  refine VC.seq ?_
  refine VC.regionE (E := E) (C := C0) E_ok mixed (by first | exact fun _ => rfl | exact fun h => by cases h) [4, 5, 6, 7, 14, 15, 16, 17, 18, 19, 20, 21, 22, 23, 24, 25, 26, 27, 28, 29, 30] (st' := St.mk [(4, AV.c (Value.int IntKind.i16 0)), (5, AV.c (Value.int IntKind.i64 (ixor IntKind.u8 b 85))), (6, AV.c (Value.int IntKind.i64 (iand IntKind.i64 (ishr IntKind.i64 (ixor IntKind.u8 b 85) 4) 7)))] [HObj.oo 43 0 [[]]]) (ps := [(0 : Int) ≤ (4 : Int)]) (by kernel_rfl) (.cons (by trivial) (.nil)) (st'' := St.mk [(4, AV.c (Value.int IntKind.i16 0)), (5, AV.c (Value.int IntKind.i64 (ixor IntKind.u8 b 85))), (6, AV.c (Value.int IntKind.i64 (ixor IntKind.u8 b 85 / 16 % 8)))] [HObj.oo 43 0 [[]]]) (by simp (disch := omega) only [wrap_i8, wrap_i16, wrap_i32, wrap_i64, wrap_u8, wrap_u16, wrap_u32, wrap_u64, Int.tdiv_eq_ediv_of_nonneg, Int.tmod_eq_emod_of_nonneg, Int.toNat_natCast, Int.reduceToNat, Nat.mul_one, Nat.zero_add, Nat.add_zero, Nat.one_mul, Int.one_mul, Int.zero_add, Int.add_zero, Int.mul_one, List.drop_zero, List.take_length, Int.zero_sub, (Sp.xor_lt hb).2.2.2, Sp.and15 hc, Sp.sr4 hc]) ?_
  refine seqK_n ?_
  refine VC.seq ?_
  refine VC.regionE (E := E) (C := C0) E_ok mixed (by first | exact fun _ => rfl | exact fun h => by cases h) [4, 5, 6, 7, 18, 19, 20, 21, 22, 23, 24, 25, 26, 27, 28, 29, 30] (st' := St.mk [(4, AV.c (Value.int IntKind.i16 0)), (5, AV.c (Value.int IntKind.i64 (ixor IntKind.u8 b 85))), (6, AV.c (Value.int IntKind.i64 (ixor IntKind.u8 b 85 / 16 % 8))), (7, AV.c (Value.int IntKind.i64 (IntKind.wrap IntKind.i64 (IntKind.wrap IntKind.i64 (16 * iand IntKind.i64 (ixor IntKind.u8 b 85) 15) + 8))))] [HObj.oo 43 0 [[]]]) (ps := []) (by kernel_rfl) (.nil) (st'' := St.mk [(4, AV.c (Value.int IntKind.i16 0)), (5, AV.c (Value.int IntKind.i64 (ixor IntKind.u8 b 85))), (6, AV.c (Value.int IntKind.i64 (ixor IntKind.u8 b 85 / 16 % 8))), (7, AV.c (Value.int IntKind.i64 (16 * (ixor IntKind.u8 b 85 % 16) + 8)))] [HObj.oo 43 0 [[]]]) (by simp (disch := omega) only [wrap_i8, wrap_i16, wrap_i32, wrap_i64, wrap_u8, wrap_u16, wrap_u32, wrap_u64, Int.tdiv_eq_ediv_of_nonneg, Int.tmod_eq_emod_of_nonneg, Int.toNat_natCast, Int.reduceToNat, Nat.mul_one, Nat.zero_add, Nat.add_zero, Nat.one_mul, Int.one_mul, Int.zero_add, Int.add_zero, Int.mul_one, List.drop_zero, List.take_length, Int.zero_sub, (Sp.xor_lt hb).2.2.2, Sp.and15 hc, Sp.sr4 hc]) ?_
  refine seqK_n ?_
  refine VC.seq ?_
  refine VC.seq ?_
  refine VC.region (E := E) (C := C0) E_ok mixed (by first | exact fun _ => rfl | exact fun h => by cases h) [4, 5, 6, 7, 19, 20, 21, 22, 23, 24, 25, 26, 27, 28, 29, 30] (st' := St.mk [(4, AV.c (Value.int IntKind.i16 0)), (5, AV.c (Value.int IntKind.i64 (ixor IntKind.u8 b 85))), (6, AV.c (Value.int IntKind.i64 (ixor IntKind.u8 b 85 / 16 % 8))), (7, AV.c (Value.int IntKind.i64 (16 * (ixor IntKind.u8 b 85 % 16) + 8))), (19, AV.c (Value.bool (decide (0 < ixor IntKind.u8 b 85 / 16 % 8))))] [HObj.oo 43 0 [[]]]) (ps := []) (by kernel_rfl) (.nil) ?_
  refine seqK_n ?_
  refine VC.cond (b := decide (0 < ixor IntKind.u8 b 85 / 16 % 8)) (by kernel_rfl) (fun h1 => ?_) (fun h1 => ?_)
  ·
    simp at h1
    refine VC.regionE (E := E) (C := C0) E_ok mixed (by first | exact fun _ => rfl | exact fun h => by cases h) [4, 5, 7, 25, 26, 27, 28, 29, 30] (st' := St.mk [(4, AV.c (Value.int IntKind.i16 0)), (5, AV.c (Value.int IntKind.i64 (ixor IntKind.u8 b 85))), (7, AV.c (Value.int IntKind.i64 (ishl IntKind.i64 (IntKind.wrap IntKind.i64 (16 * (ixor IntKind.u8 b 85 % 16) + 8 + 256)) (IntKind.wrap IntKind.i64 (ixor IntKind.u8 b 85 / 16 % 8 - 1)))))] [HObj.oo 43 0 [[]]]) (ps := [(0 : Int) ≤ IntKind.wrap IntKind.i64 (ixor IntKind.u8 b (85 : Int) / (16 : Int) % (8 : Int) - (1 : Int))]) (by kernel_rfl) (.cons (by simp (disch := omega) only [wrap_i8, wrap_i16, wrap_i32, wrap_i64, wrap_u8, wrap_u16, wrap_u32, wrap_u64, Int.tdiv_eq_ediv_of_nonneg, Int.tmod_eq_emod_of_nonneg, Int.toNat_natCast, Int.reduceToNat, Nat.mul_one, Nat.zero_add, Nat.add_zero, Nat.one_mul, Int.one_mul, Int.zero_add, Int.add_zero, Int.mul_one, List.drop_zero, List.take_length, Int.zero_sub, (Sp.xor_lt hb).2.2.2, Sp.and15 hc, Sp.sr4 hc, Sp.shl2 h1, Sp.shl3 h1]; omega) (.nil)) (st'' := St.mk [(4, AV.c (Value.int IntKind.i16 0)), (5, AV.c (Value.int IntKind.i64 (ixor IntKind.u8 b 85))), (7, AV.c (Value.int IntKind.i64 (Sp.sh8 (16 * (ixor IntKind.u8 b 85 % 16) + 264) (ixor IntKind.u8 b 85 / 16 % 8 - 1))))] [HObj.oo 43 0 [[]]]) (by simp (disch := omega) only [wrap_i8, wrap_i16, wrap_i32, wrap_i64, wrap_u8, wrap_u16, wrap_u32, wrap_u64, Int.tdiv_eq_ediv_of_nonneg, Int.tmod_eq_emod_of_nonneg, Int.toNat_natCast, Int.reduceToNat, Nat.mul_one, Nat.zero_add, Nat.add_zero, Nat.one_mul, Int.one_mul, Int.zero_add, Int.add_zero, Int.mul_one, List.drop_zero, List.take_length, Int.zero_sub, (Sp.xor_lt hb).2.2.2, Sp.and15 hc, Sp.sr4 hc, Sp.shl2 h1, Sp.shl3 h1]) ?_
    refine seqK_n ?_
    refine VC.seq ?_
    refine VC.seq ?_
    refine VC.region (E := E) (C := C0) E_ok mixed (by first | exact fun _ => rfl | exact fun h => by cases h) [4, 7, 26, 27, 28, 29, 30] (st' := St.mk [(4, AV.c (Value.int IntKind.i16 0)), (7, AV.c (Value.int IntKind.i64 (Sp.sh8 (16 * (ixor IntKind.u8 b 85 % 16) + 264) (ixor IntKind.u8 b 85 / 16 % 8 - 1)))), (26, AV.c (Value.bool (decide (ixor IntKind.u8 b 85 < 128))))] [HObj.oo 43 0 [[]]]) (ps := []) (by kernel_rfl) (.nil) ?_
    refine seqK_n ?_
    refine VC.cond (b := decide (ixor IntKind.u8 b 85 < 128)) (by kernel_rfl) (fun h2 => ?_) (fun h2 => ?_)
    ·
      simp at h2
      refine VC.regionE (E := E) (C := C0) E_ok mixed (by first | exact fun _ => rfl | exact fun h => by cases h) [4, 7, 29, 30] (st' := St.mk [(4, AV.c (Value.int IntKind.i16 0)), (7, AV.c (Value.int IntKind.i64 (IntKind.wrap IntKind.i64 (0 - Sp.sh8 (16 * (ixor IntKind.u8 b 85 % 16) + 264) (ixor IntKind.u8 b 85 / 16 % 8 - 1)))))] [HObj.oo 43 0 [[]]]) (ps := []) (by kernel_rfl) (.nil) (st'' := St.mk [(4, AV.c (Value.int IntKind.i16 0)), (7, AV.c (Value.int IntKind.i64 (-Sp.sh8 (16 * (ixor IntKind.u8 b 85 % 16) + 264) (ixor IntKind.u8 b 85 / 16 % 8 - 1))))] [HObj.oo 43 0 [[]]]) (by simp (disch := omega) only [wrap_i8, wrap_i16, wrap_i32, wrap_i64, wrap_u8, wrap_u16, wrap_u32, wrap_u64, Int.tdiv_eq_ediv_of_nonneg, Int.tmod_eq_emod_of_nonneg, Int.toNat_natCast, Int.reduceToNat, Nat.mul_one, Nat.zero_add, Nat.add_zero, Nat.one_mul, Int.one_mul, Int.zero_add, Int.add_zero, Int.mul_one, List.drop_zero, List.take_length, Int.zero_sub, (Sp.xor_lt hb).2.2.2, Sp.and15 hc, Sp.sr4 hc, Sp.shl2 h1, Sp.shl3 h1]) ?_
      refine seqK_n ?_
      refine VC.seq ?_
      refine VC.regionE (E := E) (C := C0) E_ok mixed (by first | exact fun _ => rfl | exact fun h => by cases h) [4] (st' := St.mk [(4, AV.c (Value.int IntKind.i16 (IntKind.wrap IntKind.i16 (-Sp.sh8 (16 * (ixor IntKind.u8 b 85 % 16) + 264) (ixor IntKind.u8 b 85 / 16 % 8 - 1)))))] [HObj.oo 43 0 [[]]]) (ps := []) (by kernel_rfl) (.nil) (st'' := St.mk [(4, AV.c (Value.int IntKind.i16 (-Sp.sh8 (16 * (ixor IntKind.u8 b 85 % 16) + 264) (ixor IntKind.u8 b 85 / 16 % 8 - 1))))] [HObj.oo 43 0 [[]]]) (by simp (disch := omega) only [wrap_i8, wrap_i16, wrap_i32, wrap_i64, wrap_u8, wrap_u16, wrap_u32, wrap_u64, Int.tdiv_eq_ediv_of_nonneg, Int.tmod_eq_emod_of_nonneg, Int.toNat_natCast, Int.reduceToNat, Nat.mul_one, Nat.zero_add, Nat.add_zero, Nat.one_mul, Int.one_mul, Int.zero_add, Int.add_zero, Int.mul_one, List.drop_zero, List.take_length, Int.zero_sub, (Sp.xor_lt hb).2.2.2, Sp.and15 hc, Sp.sr4 hc, Sp.shl2 h1, Sp.shl3 h1]) ?_
      refine seqK_n ?_
      refine VC.ret ?_
      exact Fin.all [] (.inr rfl) (l := [AV.c (Value.int IntKind.i16 (-Sp.sh8 (16 * (ixor IntKind.u8 b 85 % 16) + 264) (ixor IntKind.u8 b 85 / 16 % 8 - 1)))]) (ps := []) (by kernel_rfl) (by kernel_rfl) (.nil) (All.of (l' := []) (by kernel_rfl) (.nil)) (show AV.c (Value.int IntKind.i16 (-Sp.sh8 (16 * (ixor IntKind.u8 b 85 % 16) + 264) (ixor IntKind.u8 b 85 / 16 % 8 - 1))) = AV.c (Value.int IntKind.i16 (Sp.fa0 (ixor IntKind.u8 b 85))) by refine cong1 ?_; have hs1 := hs h1; simp (disch := omega) only [wrap_i64, wrap_i16, Int.zero_sub, Sp.fa0, if_pos, if_neg])
    ·
      simp at h2
      refine VC.skip ?_
      refine seqK_n ?_
      refine VC.seq ?_
      refine VC.regionE (E := E) (C := C0) E_ok mixed (by first | exact fun _ => rfl | exact fun h => by cases h) [4] (st' := St.mk [(4, AV.c (Value.int IntKind.i16 (IntKind.wrap IntKind.i16 (Sp.sh8 (16 * (ixor IntKind.u8 b 85 % 16) + 264) (ixor IntKind.u8 b 85 / 16 % 8 - 1)))))] [HObj.oo 43 0 [[]]]) (ps := []) (by kernel_rfl) (.nil) (st'' := St.mk [(4, AV.c (Value.int IntKind.i16 (Sp.sh8 (16 * (ixor IntKind.u8 b 85 % 16) + 264) (ixor IntKind.u8 b 85 / 16 % 8 - 1))))] [HObj.oo 43 0 [[]]]) (by simp (disch := omega) only [wrap_i8, wrap_i16, wrap_i32, wrap_i64, wrap_u8, wrap_u16, wrap_u32, wrap_u64, Int.tdiv_eq_ediv_of_nonneg, Int.tmod_eq_emod_of_nonneg, Int.toNat_natCast, Int.reduceToNat, Nat.mul_one, Nat.zero_add, Nat.add_zero, Nat.one_mul, Int.one_mul, Int.zero_add, Int.add_zero, Int.mul_one, List.drop_zero, List.take_length, Int.zero_sub, (Sp.xor_lt hb).2.2.2, Sp.and15 hc, Sp.sr4 hc, Sp.shl2 h1, Sp.shl3 h1]) ?_
      refine seqK_n ?_
      refine VC.ret ?_
      exact Fin.all [] (.inr rfl) (l := [AV.c (Value.int IntKind.i16 (Sp.sh8 (16 * (ixor IntKind.u8 b 85 % 16) + 264) (ixor IntKind.u8 b 85 / 16 % 8 - 1)))]) (ps := []) (by kernel_rfl) (by kernel_rfl) (.nil) (All.of (l' := []) (by kernel_rfl) (.nil)) (show AV.c (Value.int IntKind.i16 (Sp.sh8 (16 * (ixor IntKind.u8 b 85 % 16) + 264) (ixor IntKind.u8 b 85 / 16 % 8 - 1))) = AV.c (Value.int IntKind.i16 (Sp.fa0 (ixor IntKind.u8 b 85))) by refine cong1 ?_; have hs1 := hs h1; simp (disch := omega) only [wrap_i64, wrap_i16, Int.zero_sub, Sp.fa0, if_pos, if_neg])
  ·
    simp at h1
    refine VC.skip ?_
    refine seqK_n ?_
    refine VC.seq ?_
    refine VC.seq ?_
    refine VC.region (E := E) (C := C0) E_ok mixed (by first | exact fun _ => rfl | exact fun h => by cases h) [4, 7, 26, 27, 28, 29, 30] (st' := St.mk [(4, AV.c (Value.int IntKind.i16 0)), (7, AV.c (Value.int IntKind.i64 (16 * (ixor IntKind.u8 b 85 % 16) + 8))), (26, AV.c (Value.bool (decide (ixor IntKind.u8 b 85 < 128))))] [HObj.oo 43 0 [[]]]) (ps := []) (by kernel_rfl) (.nil) ?_
    refine seqK_n ?_
    refine VC.cond (b := decide (ixor IntKind.u8 b 85 < 128)) (by kernel_rfl) (fun h3 => ?_) (fun h3 => ?_)
    ·
      simp at h3
      refine VC.regionE (E := E) (C := C0) E_ok mixed (by first | exact fun _ => rfl | exact fun h => by cases h) [4, 7, 29, 30] (st' := St.mk [(4, AV.c (Value.int IntKind.i16 0)), (7, AV.c (Value.int IntKind.i64 (IntKind.wrap IntKind.i64 (0 - (16 * (ixor IntKind.u8 b 85 % 16) + 8)))))] [HObj.oo 43 0 [[]]]) (ps := []) (by kernel_rfl) (.nil) (st'' := St.mk [(4, AV.c (Value.int IntKind.i16 0)), (7, AV.c (Value.int IntKind.i64 (-(16 * (ixor IntKind.u8 b 85 % 16) + 8))))] [HObj.oo 43 0 [[]]]) (by simp (disch := omega) only [wrap_i8, wrap_i16, wrap_i32, wrap_i64, wrap_u8, wrap_u16, wrap_u32, wrap_u64, Int.tdiv_eq_ediv_of_nonneg, Int.tmod_eq_emod_of_nonneg, Int.toNat_natCast, Int.reduceToNat, Nat.mul_one, Nat.zero_add, Nat.add_zero, Nat.one_mul, Int.one_mul, Int.zero_add, Int.add_zero, Int.mul_one, List.drop_zero, List.take_length, Int.zero_sub, (Sp.xor_lt hb).2.2.2, Sp.and15 hc, Sp.sr4 hc]) ?_
      refine seqK_n ?_
      refine VC.seq ?_
      refine VC.regionE (E := E) (C := C0) E_ok mixed (by first | exact fun _ => rfl | exact fun h => by cases h) [4] (st' := St.mk [(4, AV.c (Value.int IntKind.i16 (IntKind.wrap IntKind.i16 (-(16 * (ixor IntKind.u8 b 85 % 16) + 8)))))] [HObj.oo 43 0 [[]]]) (ps := []) (by kernel_rfl) (.nil) (st'' := St.mk [(4, AV.c (Value.int IntKind.i16 (-(16 * (ixor IntKind.u8 b 85 % 16) + 8))))] [HObj.oo 43 0 [[]]]) (by simp (disch := omega) only [wrap_i8, wrap_i16, wrap_i32, wrap_i64, wrap_u8, wrap_u16, wrap_u32, wrap_u64, Int.tdiv_eq_ediv_of_nonneg, Int.tmod_eq_emod_of_nonneg, Int.toNat_natCast, Int.reduceToNat, Nat.mul_one, Nat.zero_add, Nat.add_zero, Nat.one_mul, Int.one_mul, Int.zero_add, Int.add_zero, Int.mul_one, List.drop_zero, List.take_length, Int.zero_sub, (Sp.xor_lt hb).2.2.2, Sp.and15 hc, Sp.sr4 hc]) ?_
      refine seqK_n ?_
      refine VC.ret ?_
      exact Fin.all [] (.inr rfl) (l := [AV.c (Value.int IntKind.i16 (-(16 * (ixor IntKind.u8 b 85 % 16) + 8)))]) (ps := []) (by kernel_rfl) (by kernel_rfl) (.nil) (All.of (l' := []) (by kernel_rfl) (.nil)) (show AV.c (Value.int IntKind.i16 (-(16 * (ixor IntKind.u8 b 85 % 16) + 8))) = AV.c (Value.int IntKind.i16 (Sp.fa0 (ixor IntKind.u8 b 85))) by refine cong1 ?_; simp (disch := omega) only [wrap_i64, wrap_i16, Int.zero_sub, Sp.fa0, if_pos, if_neg])
    ·
      simp at h3
      refine VC.skip ?_
      refine seqK_n ?_
      refine VC.seq ?_
      refine VC.regionE (E := E) (C := C0) E_ok mixed (by first | exact fun _ => rfl | exact fun h => by cases h) [4] (st' := St.mk [(4, AV.c (Value.int IntKind.i16 (IntKind.wrap IntKind.i16 (16 * (ixor IntKind.u8 b 85 % 16) + 8))))] [HObj.oo 43 0 [[]]]) (ps := []) (by kernel_rfl) (.nil) (st'' := St.mk [(4, AV.c (Value.int IntKind.i16 (16 * (ixor IntKind.u8 b 85 % 16) + 8)))] [HObj.oo 43 0 [[]]]) (by simp (disch := omega) only [wrap_i8, wrap_i16, wrap_i32, wrap_i64, wrap_u8, wrap_u16, wrap_u32, wrap_u64, Int.tdiv_eq_ediv_of_nonneg, Int.tmod_eq_emod_of_nonneg, Int.toNat_natCast, Int.reduceToNat, Nat.mul_one, Nat.zero_add, Nat.add_zero, Nat.one_mul, Int.one_mul, Int.zero_add, Int.add_zero, Int.mul_one, List.drop_zero, List.take_length, Int.zero_sub, (Sp.xor_lt hb).2.2.2, Sp.and15 hc, Sp.sr4 hc]) ?_
      refine seqK_n ?_
      refine VC.ret ?_
      exact Fin.all [] (.inr rfl) (l := [AV.c (Value.int IntKind.i16 (16 * (ixor IntKind.u8 b 85 % 16) + 8))]) (ps := []) (by kernel_rfl) (by kernel_rfl) (.nil) (All.of (l' := []) (by kernel_rfl) (.nil)) (show AV.c (Value.int IntKind.i16 (16 * (ixor IntKind.u8 b 85 % 16) + 8)) = AV.c (Value.int IntKind.i16 (Sp.fa0 (ixor IntKind.u8 b 85))) by refine cong1 ?_; simp (disch := omega) only [wrap_i64, wrap_i16, Int.zero_sub, Sp.fa0, if_pos, if_neg])
theorem con_Mu (x : Int) (hx : -32768 ≤ x ∧ x ≤ 32767) : Con Try.prog L0 11 [] [.c (.int .i16 x)] [] (.c (.int .u8 (Sp.mu x))) := by
  refine con_of_vc E_ok mixed Try.func11 rfl Try.call11 (Nat.le_of_ble_eq_true rfl) ?_
  refine VC.seq ?_
  refine VC.region (E := E) (C := C0) E_ok mixed (by first | exact fun _ => rfl | exact fun h => by cases h) [0, 2, 3, 4, 5] (st' := St.mk [(0, AV.c (Value.int IntKind.i16 x)), (2, AV.c (Value.int IntKind.u8 0))] []) (ps := []) (by kernel_rfl) (.nil) ?_
  refine seqK_n ?_
  refine VC.seq ?_
  refine VC.region (E := E) (C := C0) E_ok mixed (by first | exact fun _ => rfl | exact fun h => by cases h) [2] (st' := St.mk [(2, AV.c (Value.int IntKind.u8 (Sp.mu x)))] []) (ps := [Con Try.prog L0 (27 : Nat) [] [AV.a [], AV.c (Value.int IntKind.i16 x)] [] (AV.c (Value.int IntKind.u8 (Sp.mu x))), true = true ∨ True ∧ ∀ (o : HObj), o ∈ [] → HObj.nr o]) (by kernel_rfl) (.cons (by exact con_first_code _ hx) (.cons (by simp) (.nil))) ?_
  refine seqK_n ?_
  refine VC.ret ?_
  exact Fin.all [] (.inr rfl) (l := [AV.c (Value.int IntKind.u8 (Sp.mu x))]) (ps := []) (by kernel_rfl) (by kernel_rfl) (.nil) (All.of (l' := []) (by kernel_rfl) (.nil)) (show AV.c (Value.int IntKind.u8 (Sp.mu x)) = AV.c (Value.int IntKind.u8 (Sp.mu x)) by with_reducible rfl)
theorem con_A (x : Int) (hx : -32768 ≤ x ∧ x ≤ 32767) : Con Try.prog L0 13 [] [.c (.int .i16 x)] [] (.c (.int .u8 (Sp.a x))) := by
  refine con_of_vc E_ok mixed Try.func13 rfl Try.call13 (Nat.le_of_ble_eq_true rfl) ?_
  refine VC.seq ?_
  refine VC.region (E := E) (C := C0) E_ok mixed (by first | exact fun _ => rfl | exact fun h => by cases h) [0, 2, 3, 4, 5] (st' := St.mk [(0, AV.c (Value.int IntKind.i16 x)), (2, AV.c (Value.int IntKind.u8 0))] []) (ps := []) (by kernel_rfl) (.nil) ?_
  refine seqK_n ?_
  refine VC.seq ?_
  refine VC.region (E := E) (C := C0) E_ok mixed (by first | exact fun _ => rfl | exact fun h => by cases h) [2] (st' := St.mk [(2, AV.c (Value.int IntKind.u8 (Sp.a x)))] []) (ps := [Con Try.prog L0 (29 : Nat) [] [AV.a [], AV.c (Value.int IntKind.i16 x)] [] (AV.c (Value.int IntKind.u8 (Sp.a x))), true = true ∨ True ∧ ∀ (o : HObj), o ∈ [] → HObj.nr o]) (by kernel_rfl) (.cons (by exact con_second_code _ hx) (.cons (by simp) (.nil))) ?_
  refine seqK_n ?_
  refine VC.ret ?_
  exact Fin.all [] (.inr rfl) (l := [AV.c (Value.int IntKind.u8 (Sp.a x))]) (ps := []) (by kernel_rfl) (by kernel_rfl) (.nil) (All.of (l' := []) (by kernel_rfl) (.nil)) (show AV.c (Value.int IntKind.u8 (Sp.a x)) = AV.c (Value.int IntKind.u8 (Sp.a x)) by with_reducible rfl)
theorem con_FromMu (x : Int) (hx : 0 ≤ x ∧ x ≤ 255) : Con Try.prog L0 10 [] [.c (.int .u8 x)] [] (.c (.int .i16 (Sp.fmu x))) := by
  refine con_of_vc E_ok mixed Try.func10 rfl Try.call10 (Nat.le_of_ble_eq_true rfl) ?_
  refine VC.seq ?_
  refine VC.region (E := E) (C := C0) E_ok mixed (by first | exact fun _ => rfl | exact fun h => by cases h) [0, 2, 3, 4, 5] (st' := St.mk [(0, AV.c (Value.int IntKind.u8 x)), (2, AV.c (Value.int IntKind.i16 0))] []) (ps := []) (by kernel_rfl) (.nil) ?_
  refine seqK_n ?_
  refine VC.seq ?_
  refine VC.region (E := E) (C := C0) E_ok mixed (by first | exact fun _ => rfl | exact fun h => by cases h) [2] (st' := St.mk [(2, AV.c (Value.int IntKind.i16 (Sp.fmu x)))] []) (ps := [Con Try.prog L0 (26 : Nat) [] [AV.a [], AV.c (Value.int IntKind.u8 x)] [] (AV.c (Value.int IntKind.i16 (Sp.fmu x))), true = true ∨ True ∧ ∀ (o : HObj), o ∈ [] → HObj.nr o]) (by kernel_rfl) (.cons (by exact con_first_sample _ hx) (.cons (by simp) (.nil))) ?_
  refine seqK_n ?_
  refine VC.ret ?_
  exact Fin.all [] (.inr rfl) (l := [AV.c (Value.int IntKind.i16 (Sp.fmu x))]) (ps := []) (by kernel_rfl) (by kernel_rfl) (.nil) (All.of (l' := []) (by kernel_rfl) (.nil)) (show AV.c (Value.int IntKind.i16 (Sp.fmu x)) = AV.c (Value.int IntKind.i16 (Sp.fmu x)) by with_reducible rfl)
theorem con_FromA (x : Int) (hx : 0 ≤ x ∧ x ≤ 255) : Con Try.prog L0 12 [] [.c (.int .u8 x)] [] (.c (.int .i16 (Sp.fa x))) := by
  refine con_of_vc E_ok mixed Try.func12 rfl Try.call12 (Nat.le_of_ble_eq_true rfl) ?_
  refine VC.seq ?_
  refine VC.region (E := E) (C := C0) E_ok mixed (by first | exact fun _ => rfl | exact fun h => by cases h) [0, 2, 3, 4, 5] (st' := St.mk [(0, AV.c (Value.int IntKind.u8 x)), (2, AV.c (Value.int IntKind.i16 0))] []) (ps := []) (by kernel_rfl) (.nil) ?_
  refine seqK_n ?_
  refine VC.seq ?_
  refine VC.region (E := E) (C := C0) E_ok mixed (by first | exact fun _ => rfl | exact fun h => by cases h) [2] (st' := St.mk [(2, AV.c (Value.int IntKind.i16 (Sp.fa x)))] []) (ps := [Con Try.prog L0 (28 : Nat) [] [AV.a [], AV.c (Value.int IntKind.u8 x)] [] (AV.c (Value.int IntKind.i16 (Sp.fa x))), true = true ∨ True ∧ ∀ (o : HObj), o ∈ [] → HObj.nr o]) (by kernel_rfl) (.cons (by exact con_second_sample _ hx) (.cons (by simp) (.nil))) ?_
  refine seqK_n ?_
  refine VC.ret ?_
  exact Fin.all [] (.inr rfl) (l := [AV.c (Value.int IntKind.i16 (Sp.fa x))]) (ps := []) (by kernel_rfl) (by kernel_rfl) (.nil) (All.of (l' := []) (by kernel_rfl) (.nil)) (show AV.c (Value.int IntKind.i16 (Sp.fa x)) = AV.c (Value.int IntKind.i16 (Sp.fa x)) by with_reducible rfl)
namespace Sp
theorem a_range {x : Int} (hx : -32768 ≤ x ∧ x ≤ 32767) : 0 ≤ a x ∧ a x ≤ 255 := by
  obtain ⟨_, h1, h2, _⟩ := xor_lt (a0_range hx)
  exact ⟨h1, h2⟩
theorem fmu_rng {b : Int} (hb : 0 ≤ b ∧ b ≤ 255) : -32768 ≤ fmu b ∧ fmu b ≤ 32767 := by have := fmu_range hb; omega
end Sp
theorem con_MuToA (x : Int) (hx : 0 ≤ x ∧ x ≤ 255) : Con Try.prog L0 19 [] [.c (.int .u8 x)] [] (.c (.int .u8 (Sp.a (Sp.fmu x)))) := by
  refine con_of_vc E_ok mixed Try.func19 rfl Try.call19 (Nat.le_of_ble_eq_true rfl) ?_
  refine VC.seq ?_
  refine VC.region (E := E) (C := C0) E_ok mixed (by first | exact fun _ => rfl | exact fun h => by cases h) [0, 2, 3, 4, 5] (st' := St.mk [(0, AV.c (Value.int IntKind.u8 x)), (2, AV.c (Value.int IntKind.u8 0))] []) (ps := []) (by kernel_rfl) (.nil) ?_
  refine seqK_n ?_
  refine VC.seq ?_
  refine VC.region (E := E) (C := C0) E_ok mixed (by first | exact fun _ => rfl | exact fun h => by cases h) [2] (st' := St.mk [(2, AV.c (Value.int IntKind.u8 (Sp.a (Sp.fmu x))))] []) (ps := [Con Try.prog L0 (10 : Nat) [] [AV.c (Value.int IntKind.u8 x)] [] (AV.c (Value.int IntKind.i16 (Sp.fmu x))), true = true ∨ True ∧ ∀ (o : HObj), o ∈ [] → HObj.nr o, Con Try.prog L0 (13 : Nat) [] [AV.c (Value.int IntKind.i16 (Sp.fmu x))] [] (AV.c (Value.int IntKind.u8 (Sp.a (Sp.fmu x)))), true = true ∨ True ∧ ∀ (o : HObj), o ∈ [] → HObj.nr o]) (by kernel_rfl) (.cons (by exact con_FromMu _ hx) (.cons (by simp) (.cons (by exact con_A _ (Sp.fmu_rng hx)) (.cons (by simp) (.nil))))) ?_
  refine seqK_n ?_
  refine VC.ret ?_
  exact Fin.all [] (.inr rfl) (l := [AV.c (Value.int IntKind.u8 (Sp.a (Sp.fmu x)))]) (ps := []) (by kernel_rfl) (by kernel_rfl) (.nil) (All.of (l' := []) (by kernel_rfl) (.nil)) (show AV.c (Value.int IntKind.u8 (Sp.a (Sp.fmu x))) = AV.c (Value.int IntKind.u8 (Sp.a (Sp.fmu x))) by with_reducible rfl)
theorem con_AToMu (x : Int) (hx : 0 ≤ x ∧ x ≤ 255) : Con Try.prog L0 20 [] [.c (.int .u8 x)] [] (.c (.int .u8 (Sp.mu (Sp.fa x)))) := by
  refine con_of_vc E_ok mixed Try.func20 rfl Try.call20 (Nat.le_of_ble_eq_true rfl) ?_
  refine VC.seq ?_
  refine VC.region (E := E) (C := C0) E_ok mixed (by first | exact fun _ => rfl | exact fun h => by cases h) [0, 2, 3, 4, 5] (st' := St.mk [(0, AV.c (Value.int IntKind.u8 x)), (2, AV.c (Value.int IntKind.u8 0))] []) (ps := []) (by kernel_rfl) (.nil) ?_
  refine seqK_n ?_
  refine VC.seq ?_
  refine VC.region (E := E) (C := C0) E_ok mixed (by first | exact fun _ => rfl | exact fun h => by cases h) [2] (st' := St.mk [(2, AV.c (Value.int IntKind.u8 (Sp.mu (Sp.fa x))))] []) (ps := [Con Try.prog L0 (12 : Nat) [] [AV.c (Value.int IntKind.u8 x)] [] (AV.c (Value.int IntKind.i16 (Sp.fa x))), true = true ∨ True ∧ ∀ (o : HObj), o ∈ [] → HObj.nr o, Con Try.prog L0 (11 : Nat) [] [AV.c (Value.int IntKind.i16 (Sp.fa x))] [] (AV.c (Value.int IntKind.u8 (Sp.mu (Sp.fa x)))), true = true ∨ True ∧ ∀ (o : HObj), o ∈ [] → HObj.nr o]) (by kernel_rfl) (.cons (by exact con_FromA _ hx) (.cons (by simp) (.cons (by exact con_Mu _ (Sp.fa_range hx)) (.cons (by simp) (.nil))))) ?_
  refine seqK_n ?_
  refine VC.ret ?_
  exact Fin.all [] (.inr rfl) (l := [AV.c (Value.int IntKind.u8 (Sp.mu (Sp.fa x)))]) (ps := []) (by kernel_rfl) (by kernel_rfl) (.nil) (All.of (l' := []) (by kernel_rfl) (.nil)) (show AV.c (Value.int IntKind.u8 (Sp.mu (Sp.fa x))) = AV.c (Value.int IntKind.u8 (Sp.mu (Sp.fa x))) by with_reducible rfl)
theorem con_rMu (x : Int) (hx : -32768 ≤ x ∧ x ≤ 32767) : Con Try.prog L0 15 [] [.c (.int .i16 x)] [] (.c (.int .u8 (Sp.mu x))) := by
  refine con_of_vc E_ok mixed Try.func15 rfl Try.call15 (Nat.le_of_ble_eq_true rfl) ?_
  have hm := Sp.mag_rng hx
  have hmr := Sp.mu_range hx
  refine VC.seq ?_
  refine VC.region (E := E) (C := C0) E_ok mixed (by first | exact fun _ => rfl | exact fun h => by cases h) [0, 2, 3, 4, 5, 6, 7, 8, 9, 10, 11, 12, 13, 14, 15, 16, 17, 18, 19, 20, 21, 22, 23, 24, 25, 26, 27, 28, 29, 30, 31, 32, 33, 34, 35, 36, 37, 38, 39, 40, 41] (st' := St.mk [(0, AV.c (Value.int IntKind.i16 x)), (2, AV.c (Value.int IntKind.u8 0))] []) (ps := []) (by kernel_rfl) (.nil) ?_
  refine seqK_n ?_
  refine VC.seq ?_
  refine VC.regionE (E := E) (C := C0) E_ok mixed (by first | exact fun _ => rfl | exact fun h => by cases h) [2, 3, 4, 5, 6, 9, 10, 11, 12, 13, 14, 15, 16, 17, 18, 19, 20, 21, 22, 23, 24, 25, 26, 27, 28, 29, 30, 31, 32, 33, 34, 35, 36, 37, 38, 39, 40, 41] (st' := St.mk [(2, AV.c (Value.int IntKind.u8 0)), (3, AV.c (Value.int IntKind.i64 (IntKind.wrap IntKind.i64 x)))] []) (ps := []) (by kernel_rfl) (.nil) (st'' := St.mk [(2, AV.c (Value.int IntKind.u8 0)), (3, AV.c (Value.int IntKind.i64 x))] []) (by simp (disch := omega) only [wrap_i8, wrap_i16, wrap_i32, wrap_i64, wrap_u8, wrap_u16, wrap_u32, wrap_u64, Int.tdiv_eq_ediv_of_nonneg, Int.tmod_eq_emod_of_nonneg, Int.toNat_natCast, Int.reduceToNat, Nat.mul_one, Nat.zero_add, Nat.add_zero, Nat.one_mul, Int.one_mul, Int.zero_add, Int.add_zero, Int.mul_one, List.drop_zero, List.take_length, Int.zero_sub, show IntKind.i64.wrap (imin (imax x (-x)) 32635 + 132) = Sp.mag x from wrap_i64 (x := Sp.mag x) (by omega) (by omega)]) ?_
  refine seqK_n ?_
  refine VC.seq ?_
  refine VC.regionE (E := E) (C := C0) E_ok mixed (by first | exact fun _ => rfl | exact fun h => by cases h) [2, 3, 4, 5, 6, 15, 16, 17, 18, 19, 20, 21, 22, 23, 24, 25, 26, 27, 28, 29, 30, 31, 32, 33, 34, 35, 36, 37, 38, 39, 40, 41] (st' := St.mk [(2, AV.c (Value.int IntKind.u8 0)), (3, AV.c (Value.int IntKind.i64 x)), (4, AV.c (Value.int IntKind.i64 (IntKind.wrap IntKind.i64 (imin (imax x (IntKind.wrap IntKind.i64 (0 - x))) 32635 + 132))))] []) (ps := []) (by kernel_rfl) (.nil) (st'' := St.mk [(2, AV.c (Value.int IntKind.u8 0)), (3, AV.c (Value.int IntKind.i64 x)), (4, AV.c (Value.int IntKind.i64 (Sp.mag x)))] []) (by simp (disch := omega) only [wrap_i8, wrap_i16, wrap_i32, wrap_i64, wrap_u8, wrap_u16, wrap_u32, wrap_u64, Int.tdiv_eq_ediv_of_nonneg, Int.tmod_eq_emod_of_nonneg, Int.toNat_natCast, Int.reduceToNat, Nat.mul_one, Nat.zero_add, Nat.add_zero, Nat.one_mul, Int.one_mul, Int.zero_add, Int.add_zero, Int.mul_one, List.drop_zero, List.take_length, Int.zero_sub, show IntKind.i64.wrap (imin (imax x (-x)) 32635 + 132) = Sp.mag x from wrap_i64 (x := Sp.mag x) (by omega) (by omega)]) ?_
  refine seqK_n ?_
  refine VC.seq ?_
  refine VC.region (E := E) (C := C0) E_ok mixed (by first | exact fun _ => rfl | exact fun h => by cases h) [2, 3, 4, 5, 6, 15, 16, 17, 18, 19, 20, 21, 22, 23, 24, 25, 26, 27, 28, 29, 30, 31, 32, 33, 34, 35, 36, 37, 38, 39, 40, 41] (st' := St.mk [(2, AV.c (Value.int IntKind.u8 0)), (3, AV.c (Value.int IntKind.i64 x)), (4, AV.c (Value.int IntKind.i64 (Sp.mag x))), (5, AV.c (Value.int IntKind.i64 0))] []) (ps := []) (by kernel_rfl) (.nil) ?_
  refine seqK_n ?_
  refine VC.seq ?_
  refine VC.block ?_
  refine VC.rounds 1000 ?_
  refine VCR.next ?_
  refine VC.seq ?_
  refine VC.seq ?_
  refine VC.region (E := E) (C := C0) E_ok mixed (by first | exact fun _ => rfl | exact fun h => by cases h) [2, 3, 4, 5, 6, 15, 16, 17, 18, 19, 20, 21, 22, 23, 24, 25, 26, 27, 28, 29, 30, 31, 32, 33, 34, 35, 36, 37, 38, 39, 40, 41] (st' := St.mk [(2, AV.c (Value.int IntKind.u8 0)), (3, AV.c (Value.int IntKind.i64 x)), (4, AV.c (Value.int IntKind.i64 (Sp.mag x))), (5, AV.c (Value.int IntKind.i64 0)), (15, AV.c (Value.int IntKind.i64 (Sp.mag x))), (16, AV.c (Value.int IntKind.i64 0)), (17, AV.c (Value.int IntKind.i64 8)), (18, AV.c (Value.int IntKind.i64 256)), (19, AV.c (Value.bool (decide (256 ≤ Sp.mag x))))] []) (ps := [Con Try.prog L0 (30 : Nat) [] [AV.c (Value.int IntKind.i64 (8 : Int))] [] (AV.c (Value.int IntKind.i64 (256 : Int))), true = true ∨ True ∧ ∀ (o : HObj), o ∈ [] → HObj.nr o]) (by kernel_rfl) (.cons (by exact con_power _ (by omega)) (.cons (by simp) (.nil))) ?_
  refine seqK_n ?_
  refine VC.cond (b := decide (256 ≤ Sp.mag x)) (by kernel_rfl) (fun h1 => ?_) (fun h1 => ?_)
  ·
    simp at h1
    refine VC.skip ?_
    refine seqK_n ?_
    refine VC.block ?_
    refine VC.region (E := E) (C := C0) E_ok mixed (by first | exact fun _ => rfl | exact fun h => by cases h) [2, 3, 4, 5, 6, 15, 16, 17, 18, 19, 20, 21, 22, 23, 24, 25, 26, 27, 28, 29, 30, 31, 32, 33, 34, 35, 36, 37, 38, 39, 40, 41] (st' := St.mk [(2, AV.c (Value.int IntKind.u8 0)), (3, AV.c (Value.int IntKind.i64 x)), (4, AV.c (Value.int IntKind.i64 (Sp.mag x))), (5, AV.c (Value.int IntKind.i64 1)), (15, AV.c (Value.int IntKind.i64 (Sp.mag x))), (16, AV.c (Value.int IntKind.i64 0)), (17, AV.c (Value.int IntKind.i64 8)), (18, AV.c (Value.int IntKind.i64 256)), (19, AV.c (Value.bool (decide (256 ≤ Sp.mag x)))), (20, AV.c (Value.int IntKind.i64 0)), (21, AV.c (Value.int IntKind.i64 1))] []) (ps := []) (by kernel_rfl) (.nil) ?_
    refine blockK_n ?_
    refine roundK_n ?_
    refine VCR.next ?_
    refine VC.seq ?_
    refine VC.seq ?_
    refine VC.region (E := E) (C := C0) E_ok mixed (by first | exact fun _ => rfl | exact fun h => by cases h) [2, 3, 4, 5, 6, 15, 16, 17, 18, 19, 20, 21, 22, 23, 24, 25, 26, 27, 28, 29, 30, 31, 32, 33, 34, 35, 36, 37, 38, 39, 40, 41] (st' := St.mk [(2, AV.c (Value.int IntKind.u8 0)), (3, AV.c (Value.int IntKind.i64 x)), (4, AV.c (Value.int IntKind.i64 (Sp.mag x))), (5, AV.c (Value.int IntKind.i64 1)), (15, AV.c (Value.int IntKind.i64 (Sp.mag x))), (16, AV.c (Value.int IntKind.i64 1)), (17, AV.c (Value.int IntKind.i64 9)), (18, AV.c (Value.int IntKind.i64 512)), (19, AV.c (Value.bool (decide (512 ≤ Sp.mag x)))), (20, AV.c (Value.int IntKind.i64 0)), (21, AV.c (Value.int IntKind.i64 1))] []) (ps := [Con Try.prog L0 (30 : Nat) [] [AV.c (Value.int IntKind.i64 (9 : Int))] [] (AV.c (Value.int IntKind.i64 (512 : Int))), true = true ∨ True ∧ ∀ (o : HObj), o ∈ [] → HObj.nr o]) (by kernel_rfl) (.cons (by exact con_power _ (by omega)) (.cons (by simp) (.nil))) ?_
    refine seqK_n ?_
    refine VC.cond (b := decide (512 ≤ Sp.mag x)) (by kernel_rfl) (fun h2 => ?_) (fun h2 => ?_)
    ·
      simp at h2
      refine VC.skip ?_
      refine seqK_n ?_
      refine VC.block ?_
      refine VC.region (E := E) (C := C0) E_ok mixed (by first | exact fun _ => rfl | exact fun h => by cases h) [2, 3, 4, 5, 6, 15, 16, 17, 18, 19, 20, 21, 22, 23, 24, 25, 26, 27, 28, 29, 30, 31, 32, 33, 34, 35, 36, 37, 38, 39, 40, 41] (st' := St.mk [(2, AV.c (Value.int IntKind.u8 0)), (3, AV.c (Value.int IntKind.i64 x)), (4, AV.c (Value.int IntKind.i64 (Sp.mag x))), (5, AV.c (Value.int IntKind.i64 2)), (15, AV.c (Value.int IntKind.i64 (Sp.mag x))), (16, AV.c (Value.int IntKind.i64 1)), (17, AV.c (Value.int IntKind.i64 9)), (18, AV.c (Value.int IntKind.i64 512)), (19, AV.c (Value.bool (decide (512 ≤ Sp.mag x)))), (20, AV.c (Value.int IntKind.i64 1)), (21, AV.c (Value.int IntKind.i64 2))] []) (ps := []) (by kernel_rfl) (.nil) ?_
      refine blockK_n ?_
      refine roundK_n ?_
      refine VCR.next ?_
      refine VC.seq ?_
      refine VC.seq ?_
      refine VC.region (E := E) (C := C0) E_ok mixed (by first | exact fun _ => rfl | exact fun h => by cases h) [2, 3, 4, 5, 6, 15, 16, 17, 18, 19, 20, 21, 22, 23, 24, 25, 26, 27, 28, 29, 30, 31, 32, 33, 34, 35, 36, 37, 38, 39, 40, 41] (st' := St.mk [(2, AV.c (Value.int IntKind.u8 0)), (3, AV.c (Value.int IntKind.i64 x)), (4, AV.c (Value.int IntKind.i64 (Sp.mag x))), (5, AV.c (Value.int IntKind.i64 2)), (15, AV.c (Value.int IntKind.i64 (Sp.mag x))), (16, AV.c (Value.int IntKind.i64 2)), (17, AV.c (Value.int IntKind.i64 10)), (18, AV.c (Value.int IntKind.i64 1024)), (19, AV.c (Value.bool (decide (1024 ≤ Sp.mag x)))), (20, AV.c (Value.int IntKind.i64 1)), (21, AV.c (Value.int IntKind.i64 2))] []) (ps := [Con Try.prog L0 (30 : Nat) [] [AV.c (Value.int IntKind.i64 (10 : Int))] [] (AV.c (Value.int IntKind.i64 (1024 : Int))), true = true ∨ True ∧ ∀ (o : HObj), o ∈ [] → HObj.nr o]) (by kernel_rfl) (.cons (by exact con_power _ (by omega)) (.cons (by simp) (.nil))) ?_
      refine seqK_n ?_
      refine VC.cond (b := decide (1024 ≤ Sp.mag x)) (by kernel_rfl) (fun h3 => ?_) (fun h3 => ?_)
      ·
        simp at h3
        refine VC.skip ?_
        refine seqK_n ?_
        refine VC.block ?_
        refine VC.region (E := E) (C := C0) E_ok mixed (by first | exact fun _ => rfl | exact fun h => by cases h) [2, 3, 4, 5, 6, 15, 16, 17, 18, 19, 20, 21, 22, 23, 24, 25, 26, 27, 28, 29, 30, 31, 32, 33, 34, 35, 36, 37, 38, 39, 40, 41] (st' := St.mk [(2, AV.c (Value.int IntKind.u8 0)), (3, AV.c (Value.int IntKind.i64 x)), (4, AV.c (Value.int IntKind.i64 (Sp.mag x))), (5, AV.c (Value.int IntKind.i64 3)), (15, AV.c (Value.int IntKind.i64 (Sp.mag x))), (16, AV.c (Value.int IntKind.i64 2)), (17, AV.c (Value.int IntKind.i64 10)), (18, AV.c (Value.int IntKind.i64 1024)), (19, AV.c (Value.bool (decide (1024 ≤ Sp.mag x)))), (20, AV.c (Value.int IntKind.i64 2)), (21, AV.c (Value.int IntKind.i64 3))] []) (ps := []) (by kernel_rfl) (.nil) ?_
        refine blockK_n ?_
        refine roundK_n ?_
        refine VCR.next ?_
        refine VC.seq ?_
        refine VC.seq ?_
        refine VC.region (E := E) (C := C0) E_ok mixed (by first | exact fun _ => rfl | exact fun h => by cases h) [2, 3, 4, 5, 6, 15, 16, 17, 18, 19, 20, 21, 22, 23, 24, 25, 26, 27, 28, 29, 30, 31, 32, 33, 34, 35, 36, 37, 38, 39, 40, 41] (st' := St.mk [(2, AV.c (Value.int IntKind.u8 0)), (3, AV.c (Value.int IntKind.i64 x)), (4, AV.c (Value.int IntKind.i64 (Sp.mag x))), (5, AV.c (Value.int IntKind.i64 3)), (15, AV.c (Value.int IntKind.i64 (Sp.mag x))), (16, AV.c (Value.int IntKind.i64 3)), (17, AV.c (Value.int IntKind.i64 11)), (18, AV.c (Value.int IntKind.i64 2048)), (19, AV.c (Value.bool (decide (2048 ≤ Sp.mag x)))), (20, AV.c (Value.int IntKind.i64 2)), (21, AV.c (Value.int IntKind.i64 3))] []) (ps := [Con Try.prog L0 (30 : Nat) [] [AV.c (Value.int IntKind.i64 (11 : Int))] [] (AV.c (Value.int IntKind.i64 (2048 : Int))), true = true ∨ True ∧ ∀ (o : HObj), o ∈ [] → HObj.nr o]) (by kernel_rfl) (.cons (by exact con_power _ (by omega)) (.cons (by simp) (.nil))) ?_
        refine seqK_n ?_
        refine VC.cond (b := decide (2048 ≤ Sp.mag x)) (by kernel_rfl) (fun h4 => ?_) (fun h4 => ?_)
        ·
          simp at h4
          refine VC.skip ?_
          refine seqK_n ?_
          refine VC.block ?_
          refine VC.region (E := E) (C := C0) E_ok mixed (by first | exact fun _ => rfl | exact fun h => by cases h) [2, 3, 4, 5, 6, 15, 16, 17, 18, 19, 20, 21, 22, 23, 24, 25, 26, 27, 28, 29, 30, 31, 32, 33, 34, 35, 36, 37, 38, 39, 40, 41] (st' := St.mk [(2, AV.c (Value.int IntKind.u8 0)), (3, AV.c (Value.int IntKind.i64 x)), (4, AV.c (Value.int IntKind.i64 (Sp.mag x))), (5, AV.c (Value.int IntKind.i64 4)), (15, AV.c (Value.int IntKind.i64 (Sp.mag x))), (16, AV.c (Value.int IntKind.i64 3)), (17, AV.c (Value.int IntKind.i64 11)), (18, AV.c (Value.int IntKind.i64 2048)), (19, AV.c (Value.bool (decide (2048 ≤ Sp.mag x)))), (20, AV.c (Value.int IntKind.i64 3)), (21, AV.c (Value.int IntKind.i64 4))] []) (ps := []) (by kernel_rfl) (.nil) ?_
          refine blockK_n ?_
          refine roundK_n ?_
          refine VCR.next ?_
          refine VC.seq ?_
          refine VC.seq ?_
          refine VC.region (E := E) (C := C0) E_ok mixed (by first | exact fun _ => rfl | exact fun h => by cases h) [2, 3, 4, 5, 6, 15, 16, 17, 18, 19, 20, 21, 22, 23, 24, 25, 26, 27, 28, 29, 30, 31, 32, 33, 34, 35, 36, 37, 38, 39, 40, 41] (st' := St.mk [(2, AV.c (Value.int IntKind.u8 0)), (3, AV.c (Value.int IntKind.i64 x)), (4, AV.c (Value.int IntKind.i64 (Sp.mag x))), (5, AV.c (Value.int IntKind.i64 4)), (15, AV.c (Value.int IntKind.i64 (Sp.mag x))), (16, AV.c (Value.int IntKind.i64 4)), (17, AV.c (Value.int IntKind.i64 12)), (18, AV.c (Value.int IntKind.i64 4096)), (19, AV.c (Value.bool (decide (4096 ≤ Sp.mag x)))), (20, AV.c (Value.int IntKind.i64 3)), (21, AV.c (Value.int IntKind.i64 4))] []) (ps := [Con Try.prog L0 (30 : Nat) [] [AV.c (Value.int IntKind.i64 (12 : Int))] [] (AV.c (Value.int IntKind.i64 (4096 : Int))), true = true ∨ True ∧ ∀ (o : HObj), o ∈ [] → HObj.nr o]) (by kernel_rfl) (.cons (by exact con_power _ (by omega)) (.cons (by simp) (.nil))) ?_
          refine seqK_n ?_
          refine VC.cond (b := decide (4096 ≤ Sp.mag x)) (by kernel_rfl) (fun h5 => ?_) (fun h5 => ?_)
          ·
            simp at h5
            refine VC.skip ?_
            refine seqK_n ?_
            refine VC.block ?_
            refine VC.region (E := E) (C := C0) E_ok mixed (by first | exact fun _ => rfl | exact fun h => by cases h) [2, 3, 4, 5, 6, 15, 16, 17, 18, 19, 20, 21, 22, 23, 24, 25, 26, 27, 28, 29, 30, 31, 32, 33, 34, 35, 36, 37, 38, 39, 40, 41] (st' := St.mk [(2, AV.c (Value.int IntKind.u8 0)), (3, AV.c (Value.int IntKind.i64 x)), (4, AV.c (Value.int IntKind.i64 (Sp.mag x))), (5, AV.c (Value.int IntKind.i64 5)), (15, AV.c (Value.int IntKind.i64 (Sp.mag x))), (16, AV.c (Value.int IntKind.i64 4)), (17, AV.c (Value.int IntKind.i64 12)), (18, AV.c (Value.int IntKind.i64 4096)), (19, AV.c (Value.bool (decide (4096 ≤ Sp.mag x)))), (20, AV.c (Value.int IntKind.i64 4)), (21, AV.c (Value.int IntKind.i64 5))] []) (ps := []) (by kernel_rfl) (.nil) ?_
            refine blockK_n ?_
            refine roundK_n ?_
            refine VCR.next ?_
            refine VC.seq ?_
            refine VC.seq ?_
            refine VC.region (E := E) (C := C0) E_ok mixed (by first | exact fun _ => rfl | exact fun h => by cases h) [2, 3, 4, 5, 6, 15, 16, 17, 18, 19, 20, 21, 22, 23, 24, 25, 26, 27, 28, 29, 30, 31, 32, 33, 34, 35, 36, 37, 38, 39, 40, 41] (st' := St.mk [(2, AV.c (Value.int IntKind.u8 0)), (3, AV.c (Value.int IntKind.i64 x)), (4, AV.c (Value.int IntKind.i64 (Sp.mag x))), (5, AV.c (Value.int IntKind.i64 5)), (15, AV.c (Value.int IntKind.i64 (Sp.mag x))), (16, AV.c (Value.int IntKind.i64 5)), (17, AV.c (Value.int IntKind.i64 13)), (18, AV.c (Value.int IntKind.i64 8192)), (19, AV.c (Value.bool (decide (8192 ≤ Sp.mag x)))), (20, AV.c (Value.int IntKind.i64 4)), (21, AV.c (Value.int IntKind.i64 5))] []) (ps := [Con Try.prog L0 (30 : Nat) [] [AV.c (Value.int IntKind.i64 (13 : Int))] [] (AV.c (Value.int IntKind.i64 (8192 : Int))), true = true ∨ True ∧ ∀ (o : HObj), o ∈ [] → HObj.nr o]) (by kernel_rfl) (.cons (by exact con_power _ (by omega)) (.cons (by simp) (.nil))) ?_
            refine seqK_n ?_
            refine VC.cond (b := decide (8192 ≤ Sp.mag x)) (by kernel_rfl) (fun h6 => ?_) (fun h6 => ?_)
            ·
              simp at h6
              refine VC.skip ?_
              refine seqK_n ?_
              refine VC.block ?_
              refine VC.region (E := E) (C := C0) E_ok mixed (by first | exact fun _ => rfl | exact fun h => by cases h) [2, 3, 4, 5, 6, 15, 16, 17, 18, 19, 20, 21, 22, 23, 24, 25, 26, 27, 28, 29, 30, 31, 32, 33, 34, 35, 36, 37, 38, 39, 40, 41] (st' := St.mk [(2, AV.c (Value.int IntKind.u8 0)), (3, AV.c (Value.int IntKind.i64 x)), (4, AV.c (Value.int IntKind.i64 (Sp.mag x))), (5, AV.c (Value.int IntKind.i64 6)), (15, AV.c (Value.int IntKind.i64 (Sp.mag x))), (16, AV.c (Value.int IntKind.i64 5)), (17, AV.c (Value.int IntKind.i64 13)), (18, AV.c (Value.int IntKind.i64 8192)), (19, AV.c (Value.bool (decide (8192 ≤ Sp.mag x)))), (20, AV.c (Value.int IntKind.i64 5)), (21, AV.c (Value.int IntKind.i64 6))] []) (ps := []) (by kernel_rfl) (.nil) ?_
              refine blockK_n ?_
              refine roundK_n ?_
              refine VCR.next ?_
              refine VC.seq ?_
              refine VC.seq ?_
              refine VC.region (E := E) (C := C0) E_ok mixed (by first | exact fun _ => rfl | exact fun h => by cases h) [2, 3, 4, 5, 6, 15, 16, 17, 18, 19, 20, 21, 22, 23, 24, 25, 26, 27, 28, 29, 30, 31, 32, 33, 34, 35, 36, 37, 38, 39, 40, 41] (st' := St.mk [(2, AV.c (Value.int IntKind.u8 0)), (3, AV.c (Value.int IntKind.i64 x)), (4, AV.c (Value.int IntKind.i64 (Sp.mag x))), (5, AV.c (Value.int IntKind.i64 6)), (15, AV.c (Value.int IntKind.i64 (Sp.mag x))), (16, AV.c (Value.int IntKind.i64 6)), (17, AV.c (Value.int IntKind.i64 14)), (18, AV.c (Value.int IntKind.i64 16384)), (19, AV.c (Value.bool (decide (16384 ≤ Sp.mag x)))), (20, AV.c (Value.int IntKind.i64 5)), (21, AV.c (Value.int IntKind.i64 6))] []) (ps := [Con Try.prog L0 (30 : Nat) [] [AV.c (Value.int IntKind.i64 (14 : Int))] [] (AV.c (Value.int IntKind.i64 (16384 : Int))), true = true ∨ True ∧ ∀ (o : HObj), o ∈ [] → HObj.nr o]) (by kernel_rfl) (.cons (by exact con_power _ (by omega)) (.cons (by simp) (.nil))) ?_
              refine seqK_n ?_
              refine VC.cond (b := decide (16384 ≤ Sp.mag x)) (by kernel_rfl) (fun h7 => ?_) (fun h7 => ?_)
              ·
                simp at h7
                refine VC.skip ?_
                refine seqK_n ?_
                refine VC.block ?_
                refine VC.region (E := E) (C := C0) E_ok mixed (by first | exact fun _ => rfl | exact fun h => by cases h) [2, 3, 4, 5, 6, 15, 16, 17, 18, 19, 20, 21, 22, 23, 24, 25, 26, 27, 28, 29, 30, 31, 32, 33, 34, 35, 36, 37, 38, 39, 40, 41] (st' := St.mk [(2, AV.c (Value.int IntKind.u8 0)), (3, AV.c (Value.int IntKind.i64 x)), (4, AV.c (Value.int IntKind.i64 (Sp.mag x))), (5, AV.c (Value.int IntKind.i64 7)), (15, AV.c (Value.int IntKind.i64 (Sp.mag x))), (16, AV.c (Value.int IntKind.i64 6)), (17, AV.c (Value.int IntKind.i64 14)), (18, AV.c (Value.int IntKind.i64 16384)), (19, AV.c (Value.bool (decide (16384 ≤ Sp.mag x)))), (20, AV.c (Value.int IntKind.i64 6)), (21, AV.c (Value.int IntKind.i64 7))] []) (ps := []) (by kernel_rfl) (.nil) ?_
                refine blockK_n ?_
                refine roundK_n ?_
                refine VCR.next ?_
                refine VC.seq ?_
                refine VC.seq ?_
                refine VC.region (E := E) (C := C0) E_ok mixed (by first | exact fun _ => rfl | exact fun h => by cases h) [2, 3, 4, 5, 6, 15, 16, 17, 18, 19, 20, 21, 22, 23, 24, 25, 26, 27, 28, 29, 30, 31, 32, 33, 34, 35, 36, 37, 38, 39, 40, 41] (st' := St.mk [(2, AV.c (Value.int IntKind.u8 0)), (3, AV.c (Value.int IntKind.i64 x)), (4, AV.c (Value.int IntKind.i64 (Sp.mag x))), (5, AV.c (Value.int IntKind.i64 7)), (15, AV.c (Value.int IntKind.i64 (Sp.mag x))), (16, AV.c (Value.int IntKind.i64 7)), (17, AV.c (Value.int IntKind.i64 15)), (18, AV.c (Value.int IntKind.i64 32768)), (19, AV.c (Value.bool (decide (32768 ≤ Sp.mag x)))), (20, AV.c (Value.int IntKind.i64 6)), (21, AV.c (Value.int IntKind.i64 7))] []) (ps := [Con Try.prog L0 (30 : Nat) [] [AV.c (Value.int IntKind.i64 (15 : Int))] [] (AV.c (Value.int IntKind.i64 (32768 : Int))), true = true ∨ True ∧ ∀ (o : HObj), o ∈ [] → HObj.nr o]) (by kernel_rfl) (.cons (by exact con_power _ (by omega)) (.cons (by simp) (.nil))) ?_
                refine seqK_n ?_
                refine VC.cond (b := decide (32768 ≤ Sp.mag x)) (by kernel_rfl) (fun h8 => ?_) (fun h8 => ?_)
                ·
                  simp at h8
                  (exfalso; omega)
                ·
                  simp at h8
                  refine VC.exit ?_
                  refine seqK_x ?_
                  refine roundK_x ?_
                  refine blockK_x ?_
                  refine seqK_n ?_
                  refine VC.seq ?_
                  refine VC.regionE (E := E) (C := C0) E_ok mixed (by first | exact fun _ => rfl | exact fun h => by cases h) [2, 3, 5, 6, 28, 29, 30, 31, 32, 33, 34, 35, 36, 37, 38, 39, 40, 41] (st' := St.mk [(2, AV.c (Value.int IntKind.u8 0)), (3, AV.c (Value.int IntKind.i64 x)), (5, AV.c (Value.int IntKind.i64 7)), (6, AV.c (Value.int IntKind.i64 (Int.tmod (IntKind.wrap IntKind.i64 (Int.tdiv (Sp.mag x) 1024)) 16)))] []) (ps := [Con Try.prog L0 (30 : Nat) [] [AV.c (Value.int IntKind.i64 (10 : Int))] [] (AV.c (Value.int IntKind.i64 (1024 : Int))), true = true ∨ True ∧ ∀ (o : HObj), o ∈ [] → HObj.nr o, (1024 : Int) ≠ (0 : Int), (16 : Int) ≠ (0 : Int)]) (by kernel_rfl) (.cons (by exact con_power _ (by omega)) (.cons (by simp) (.cons (by trivial) (.cons (by trivial) (.nil))))) (st'' := St.mk [(2, AV.c (Value.int IntKind.u8 0)), (3, AV.c (Value.int IntKind.i64 x)), (5, AV.c (Value.int IntKind.i64 7)), (6, AV.c (Value.int IntKind.i64 (Sp.mag x / 1024 % 16)))] []) (by simp (disch := omega) only [wrap_i8, wrap_i16, wrap_i32, wrap_i64, wrap_u8, wrap_u16, wrap_u32, wrap_u64, Int.tdiv_eq_ediv_of_nonneg, Int.tmod_eq_emod_of_nonneg, Int.toNat_natCast, Int.reduceToNat, Nat.mul_one, Nat.zero_add, Nat.add_zero, Nat.one_mul, Int.one_mul, Int.zero_add, Int.add_zero, Int.mul_one, List.drop_zero, List.take_length, Int.zero_sub, show IntKind.i64.wrap (imin (imax x (-x)) 32635 + 132) = Sp.mag x from wrap_i64 (x := Sp.mag x) (by omega) (by omega)]) ?_
                  refine seqK_n ?_
                  refine VC.seq ?_
                  refine VC.seq ?_
                  refine VC.region (E := E) (C := C0) E_ok mixed (by first | exact fun _ => rfl | exact fun h => by cases h) [2, 5, 6, 29, 30, 31, 32, 33, 34, 35, 36, 37, 38, 39, 40, 41] (st' := St.mk [(2, AV.c (Value.int IntKind.u8 0)), (5, AV.c (Value.int IntKind.i64 7)), (6, AV.c (Value.int IntKind.i64 (Sp.mag x / 1024 % 16))), (29, AV.c (Value.bool (decide (x < 0))))] []) (ps := []) (by kernel_rfl) (.nil) ?_
                  refine seqK_n ?_
                  refine VC.cond (b := decide (x < 0)) (by kernel_rfl) (fun h9 => ?_) (fun h9 => ?_)
                  ·
                    simp at h9
                    refine VC.seq ?_
                    refine VC.regionE (E := E) (C := C0) E_ok mixed (by first | exact fun _ => rfl | exact fun h => by cases h) [2, 5, 6, 36, 37, 38, 39, 40, 41] (st' := St.mk [(2, AV.c (Value.int IntKind.u8 (IntKind.wrap IntKind.u8 (IntKind.wrap IntKind.i64 (15 - Sp.mag x / 1024 % 16))))), (5, AV.c (Value.int IntKind.i64 7)), (6, AV.c (Value.int IntKind.i64 (Sp.mag x / 1024 % 16)))] []) (ps := []) (by kernel_rfl) (.nil) (st'' := St.mk [(2, AV.c (Value.int IntKind.u8 (15 - Sp.mag x / 1024 % 16))), (5, AV.c (Value.int IntKind.i64 7)), (6, AV.c (Value.int IntKind.i64 (Sp.mag x / 1024 % 16)))] []) (by simp (disch := omega) only [wrap_i8, wrap_i16, wrap_i32, wrap_i64, wrap_u8, wrap_u16, wrap_u32, wrap_u64, Int.tdiv_eq_ediv_of_nonneg, Int.tmod_eq_emod_of_nonneg, Int.toNat_natCast, Int.reduceToNat, Nat.mul_one, Nat.zero_add, Nat.add_zero, Nat.one_mul, Int.one_mul, Int.zero_add, Int.add_zero, Int.mul_one, List.drop_zero, List.take_length, Int.zero_sub, show IntKind.i64.wrap (imin (imax x (-x)) 32635 + 132) = Sp.mag x from wrap_i64 (x := Sp.mag x) (by omega) (by omega)]) ?_
                    refine seqK_n ?_
                    refine VC.ret ?_
                    refine seqK_r ?_
                    exact Fin.all [] (.inr rfl) (l := [AV.c (Value.int IntKind.u8 (15 - Sp.mag x / 1024 % 16))]) (ps := []) (by kernel_rfl) (by kernel_rfl) (.nil) (All.of (l' := []) (by kernel_rfl) (.nil)) (show AV.c (Value.int IntKind.u8 (15 - Sp.mag x / 1024 % 16)) = AV.c (Value.int IntKind.u8 (Sp.mu x)) by refine cong1 ?_; simp (disch := omega) only [Sp.mu, Sp.expo, Sp.shr3, if_pos, if_neg]; omega)
                  ·
                    simp at h9
                    refine VC.skip ?_
                    refine seqK_n ?_
                    refine VC.seq ?_
                    refine VC.regionE (E := E) (C := C0) E_ok mixed (by first | exact fun _ => rfl | exact fun h => by cases h) [2] (st' := St.mk [(2, AV.c (Value.int IntKind.u8 (IntKind.wrap IntKind.u8 (IntKind.wrap IntKind.i64 (143 - Sp.mag x / 1024 % 16)))))] []) (ps := []) (by kernel_rfl) (.nil) (st'' := St.mk [(2, AV.c (Value.int IntKind.u8 (143 - Sp.mag x / 1024 % 16)))] []) (by simp (disch := omega) only [wrap_i8, wrap_i16, wrap_i32, wrap_i64, wrap_u8, wrap_u16, wrap_u32, wrap_u64, Int.tdiv_eq_ediv_of_nonneg, Int.tmod_eq_emod_of_nonneg, Int.toNat_natCast, Int.reduceToNat, Nat.mul_one, Nat.zero_add, Nat.add_zero, Nat.one_mul, Int.one_mul, Int.zero_add, Int.add_zero, Int.mul_one, List.drop_zero, List.take_length, Int.zero_sub, show IntKind.i64.wrap (imin (imax x (-x)) 32635 + 132) = Sp.mag x from wrap_i64 (x := Sp.mag x) (by omega) (by omega)]) ?_
                    refine seqK_n ?_
                    refine VC.ret ?_
                    exact Fin.all [] (.inr rfl) (l := [AV.c (Value.int IntKind.u8 (143 - Sp.mag x / 1024 % 16))]) (ps := []) (by kernel_rfl) (by kernel_rfl) (.nil) (All.of (l' := []) (by kernel_rfl) (.nil)) (show AV.c (Value.int IntKind.u8 (143 - Sp.mag x / 1024 % 16)) = AV.c (Value.int IntKind.u8 (Sp.mu x)) by refine cong1 ?_; simp (disch := omega) only [Sp.mu, Sp.expo, Sp.shr3, if_pos, if_neg]; omega)
              ·
                simp at h7
                refine VC.exit ?_
                refine seqK_x ?_
                refine roundK_x ?_
                refine blockK_x ?_
                refine seqK_n ?_
                refine VC.seq ?_
                refine VC.regionE (E := E) (C := C0) E_ok mixed (by first | exact fun _ => rfl | exact fun h => by cases h) [2, 3, 5, 6, 28, 29, 30, 31, 32, 33, 34, 35, 36, 37, 38, 39, 40, 41] (st' := St.mk [(2, AV.c (Value.int IntKind.u8 0)), (3, AV.c (Value.int IntKind.i64 x)), (5, AV.c (Value.int IntKind.i64 6)), (6, AV.c (Value.int IntKind.i64 (Int.tmod (IntKind.wrap IntKind.i64 (Int.tdiv (Sp.mag x) 512)) 16)))] []) (ps := [Con Try.prog L0 (30 : Nat) [] [AV.c (Value.int IntKind.i64 (9 : Int))] [] (AV.c (Value.int IntKind.i64 (512 : Int))), true = true ∨ True ∧ ∀ (o : HObj), o ∈ [] → HObj.nr o, (512 : Int) ≠ (0 : Int), (16 : Int) ≠ (0 : Int)]) (by kernel_rfl) (.cons (by exact con_power _ (by omega)) (.cons (by simp) (.cons (by trivial) (.cons (by trivial) (.nil))))) (st'' := St.mk [(2, AV.c (Value.int IntKind.u8 0)), (3, AV.c (Value.int IntKind.i64 x)), (5, AV.c (Value.int IntKind.i64 6)), (6, AV.c (Value.int IntKind.i64 (Sp.mag x / 512 % 16)))] []) (by simp (disch := omega) only [wrap_i8, wrap_i16, wrap_i32, wrap_i64, wrap_u8, wrap_u16, wrap_u32, wrap_u64, Int.tdiv_eq_ediv_of_nonneg, Int.tmod_eq_emod_of_nonneg, Int.toNat_natCast, Int.reduceToNat, Nat.mul_one, Nat.zero_add, Nat.add_zero, Nat.one_mul, Int.one_mul, Int.zero_add, Int.add_zero, Int.mul_one, List.drop_zero, List.take_length, Int.zero_sub, show IntKind.i64.wrap (imin (imax x (-x)) 32635 + 132) = Sp.mag x from wrap_i64 (x := Sp.mag x) (by omega) (by omega)]) ?_
                refine seqK_n ?_
                refine VC.seq ?_
                refine VC.seq ?_
                refine VC.region (E := E) (C := C0) E_ok mixed (by first | exact fun _ => rfl | exact fun h => by cases h) [2, 5, 6, 29, 30, 31, 32, 33, 34, 35, 36, 37, 38, 39, 40, 41] (st' := St.mk [(2, AV.c (Value.int IntKind.u8 0)), (5, AV.c (Value.int IntKind.i64 6)), (6, AV.c (Value.int IntKind.i64 (Sp.mag x / 512 % 16))), (29, AV.c (Value.bool (decide (x < 0))))] []) (ps := []) (by kernel_rfl) (.nil) ?_
                refine seqK_n ?_
                refine VC.cond (b := decide (x < 0)) (by kernel_rfl) (fun h10 => ?_) (fun h10 => ?_)
                ·
                  simp at h10
                  refine VC.seq ?_
                  refine VC.regionE (E := E) (C := C0) E_ok mixed (by first | exact fun _ => rfl | exact fun h => by cases h) [2, 5, 6, 36, 37, 38, 39, 40, 41] (st' := St.mk [(2, AV.c (Value.int IntKind.u8 (IntKind.wrap IntKind.u8 (IntKind.wrap IntKind.i64 (31 - Sp.mag x / 512 % 16))))), (5, AV.c (Value.int IntKind.i64 6)), (6, AV.c (Value.int IntKind.i64 (Sp.mag x / 512 % 16)))] []) (ps := []) (by kernel_rfl) (.nil) (st'' := St.mk [(2, AV.c (Value.int IntKind.u8 (31 - Sp.mag x / 512 % 16))), (5, AV.c (Value.int IntKind.i64 6)), (6, AV.c (Value.int IntKind.i64 (Sp.mag x / 512 % 16)))] []) (by simp (disch := omega) only [wrap_i8, wrap_i16, wrap_i32, wrap_i64, wrap_u8, wrap_u16, wrap_u32, wrap_u64, Int.tdiv_eq_ediv_of_nonneg, Int.tmod_eq_emod_of_nonneg, Int.toNat_natCast, Int.reduceToNat, Nat.mul_one, Nat.zero_add, Nat.add_zero, Nat.one_mul, Int.one_mul, Int.zero_add, Int.add_zero, Int.mul_one, List.drop_zero, List.take_length, Int.zero_sub, show IntKind.i64.wrap (imin (imax x (-x)) 32635 + 132) = Sp.mag x from wrap_i64 (x := Sp.mag x) (by omega) (by omega)]) ?_
                  refine seqK_n ?_
                  refine VC.ret ?_
                  refine seqK_r ?_
                  exact Fin.all [] (.inr rfl) (l := [AV.c (Value.int IntKind.u8 (31 - Sp.mag x / 512 % 16))]) (ps := []) (by kernel_rfl) (by kernel_rfl) (.nil) (All.of (l' := []) (by kernel_rfl) (.nil)) (show AV.c (Value.int IntKind.u8 (31 - Sp.mag x / 512 % 16)) = AV.c (Value.int IntKind.u8 (Sp.mu x)) by refine cong1 ?_; simp (disch := omega) only [Sp.mu, Sp.expo, Sp.shr3, if_pos, if_neg]; omega)
                ·
                  simp at h10
                  refine VC.skip ?_
                  refine seqK_n ?_
                  refine VC.seq ?_
                  refine VC.regionE (E := E) (C := C0) E_ok mixed (by first | exact fun _ => rfl | exact fun h => by cases h) [2] (st' := St.mk [(2, AV.c (Value.int IntKind.u8 (IntKind.wrap IntKind.u8 (IntKind.wrap IntKind.i64 (159 - Sp.mag x / 512 % 16)))))] []) (ps := []) (by kernel_rfl) (.nil) (st'' := St.mk [(2, AV.c (Value.int IntKind.u8 (159 - Sp.mag x / 512 % 16)))] []) (by simp (disch := omega) only [wrap_i8, wrap_i16, wrap_i32, wrap_i64, wrap_u8, wrap_u16, wrap_u32, wrap_u64, Int.tdiv_eq_ediv_of_nonneg, Int.tmod_eq_emod_of_nonneg, Int.toNat_natCast, Int.reduceToNat, Nat.mul_one, Nat.zero_add, Nat.add_zero, Nat.one_mul, Int.one_mul, Int.zero_add, Int.add_zero, Int.mul_one, List.drop_zero, List.take_length, Int.zero_sub, show IntKind.i64.wrap (imin (imax x (-x)) 32635 + 132) = Sp.mag x from wrap_i64 (x := Sp.mag x) (by omega) (by omega)]) ?_
                  refine seqK_n ?_
                  refine VC.ret ?_
                  exact Fin.all [] (.inr rfl) (l := [AV.c (Value.int IntKind.u8 (159 - Sp.mag x / 512 % 16))]) (ps := []) (by kernel_rfl) (by kernel_rfl) (.nil) (All.of (l' := []) (by kernel_rfl) (.nil)) (show AV.c (Value.int IntKind.u8 (159 - Sp.mag x / 512 % 16)) = AV.c (Value.int IntKind.u8 (Sp.mu x)) by refine cong1 ?_; simp (disch := omega) only [Sp.mu, Sp.expo, Sp.shr3, if_pos, if_neg]; omega)
            ·
              simp at h6
              refine VC.exit ?_
              refine seqK_x ?_
              refine roundK_x ?_
              refine blockK_x ?_
              refine seqK_n ?_
              refine VC.seq ?_
              refine VC.regionE (E := E) (C := C0) E_ok mixed (by first | exact fun _ => rfl | exact fun h => by cases h) [2, 3, 5, 6, 28, 29, 30, 31, 32, 33, 34, 35, 36, 37, 38, 39, 40, 41] (st' := St.mk [(2, AV.c (Value.int IntKind.u8 0)), (3, AV.c (Value.int IntKind.i64 x)), (5, AV.c (Value.int IntKind.i64 5)), (6, AV.c (Value.int IntKind.i64 (Int.tmod (IntKind.wrap IntKind.i64 (Int.tdiv (Sp.mag x) 256)) 16)))] []) (ps := [Con Try.prog L0 (30 : Nat) [] [AV.c (Value.int IntKind.i64 (8 : Int))] [] (AV.c (Value.int IntKind.i64 (256 : Int))), true = true ∨ True ∧ ∀ (o : HObj), o ∈ [] → HObj.nr o, (256 : Int) ≠ (0 : Int), (16 : Int) ≠ (0 : Int)]) (by kernel_rfl) (.cons (by exact con_power _ (by omega)) (.cons (by simp) (.cons (by trivial) (.cons (by trivial) (.nil))))) (st'' := St.mk [(2, AV.c (Value.int IntKind.u8 0)), (3, AV.c (Value.int IntKind.i64 x)), (5, AV.c (Value.int IntKind.i64 5)), (6, AV.c (Value.int IntKind.i64 (Sp.mag x / 256 % 16)))] []) (by simp (disch := omega) only [wrap_i8, wrap_i16, wrap_i32, wrap_i64, wrap_u8, wrap_u16, wrap_u32, wrap_u64, Int.tdiv_eq_ediv_of_nonneg, Int.tmod_eq_emod_of_nonneg, Int.toNat_natCast, Int.reduceToNat, Nat.mul_one, Nat.zero_add, Nat.add_zero, Nat.one_mul, Int.one_mul, Int.zero_add, Int.add_zero, Int.mul_one, List.drop_zero, List.take_length, Int.zero_sub, show IntKind.i64.wrap (imin (imax x (-x)) 32635 + 132) = Sp.mag x from wrap_i64 (x := Sp.mag x) (by omega) (by omega)]) ?_
              refine seqK_n ?_
              refine VC.seq ?_
              refine VC.seq ?_
              refine VC.region (E := E) (C := C0) E_ok mixed (by first | exact fun _ => rfl | exact fun h => by cases h) [2, 5, 6, 29, 30, 31, 32, 33, 34, 35, 36, 37, 38, 39, 40, 41] (st' := St.mk [(2, AV.c (Value.int IntKind.u8 0)), (5, AV.c (Value.int IntKind.i64 5)), (6, AV.c (Value.int IntKind.i64 (Sp.mag x / 256 % 16))), (29, AV.c (Value.bool (decide (x < 0))))] []) (ps := []) (by kernel_rfl) (.nil) ?_
              refine seqK_n ?_
              refine VC.cond (b := decide (x < 0)) (by kernel_rfl) (fun h11 => ?_) (fun h11 => ?_)
              ·
                simp at h11
                refine VC.seq ?_
                refine VC.regionE (E := E) (C := C0) E_ok mixed (by first | exact fun _ => rfl | exact fun h => by cases h) [2, 5, 6, 36, 37, 38, 39, 40, 41] (st' := St.mk [(2, AV.c (Value.int IntKind.u8 (IntKind.wrap IntKind.u8 (IntKind.wrap IntKind.i64 (47 - Sp.mag x / 256 % 16))))), (5, AV.c (Value.int IntKind.i64 5)), (6, AV.c (Value.int IntKind.i64 (Sp.mag x / 256 % 16)))] []) (ps := []) (by kernel_rfl) (.nil) (st'' := St.mk [(2, AV.c (Value.int IntKind.u8 (47 - Sp.mag x / 256 % 16))), (5, AV.c (Value.int IntKind.i64 5)), (6, AV.c (Value.int IntKind.i64 (Sp.mag x / 256 % 16)))] []) (by simp (disch := omega) only [wrap_i8, wrap_i16, wrap_i32, wrap_i64, wrap_u8, wrap_u16, wrap_u32, wrap_u64, Int.tdiv_eq_ediv_of_nonneg, Int.tmod_eq_emod_of_nonneg, Int.toNat_natCast, Int.reduceToNat, Nat.mul_one, Nat.zero_add, Nat.add_zero, Nat.one_mul, Int.one_mul, Int.zero_add, Int.add_zero, Int.mul_one, List.drop_zero, List.take_length, Int.zero_sub, show IntKind.i64.wrap (imin (imax x (-x)) 32635 + 132) = Sp.mag x from wrap_i64 (x := Sp.mag x) (by omega) (by omega)]) ?_
                refine seqK_n ?_
                refine VC.ret ?_
                refine seqK_r ?_
                exact Fin.all [] (.inr rfl) (l := [AV.c (Value.int IntKind.u8 (47 - Sp.mag x / 256 % 16))]) (ps := []) (by kernel_rfl) (by kernel_rfl) (.nil) (All.of (l' := []) (by kernel_rfl) (.nil)) (show AV.c (Value.int IntKind.u8 (47 - Sp.mag x / 256 % 16)) = AV.c (Value.int IntKind.u8 (Sp.mu x)) by refine cong1 ?_; simp (disch := omega) only [Sp.mu, Sp.expo, Sp.shr3, if_pos, if_neg]; omega)
              ·
                simp at h11
                refine VC.skip ?_
                refine seqK_n ?_
                refine VC.seq ?_
                refine VC.regionE (E := E) (C := C0) E_ok mixed (by first | exact fun _ => rfl | exact fun h => by cases h) [2] (st' := St.mk [(2, AV.c (Value.int IntKind.u8 (IntKind.wrap IntKind.u8 (IntKind.wrap IntKind.i64 (175 - Sp.mag x / 256 % 16)))))] []) (ps := []) (by kernel_rfl) (.nil) (st'' := St.mk [(2, AV.c (Value.int IntKind.u8 (175 - Sp.mag x / 256 % 16)))] []) (by simp (disch := omega) only [wrap_i8, wrap_i16, wrap_i32, wrap_i64, wrap_u8, wrap_u16, wrap_u32, wrap_u64, Int.tdiv_eq_ediv_of_nonneg, Int.tmod_eq_emod_of_nonneg, Int.toNat_natCast, Int.reduceToNat, Nat.mul_one, Nat.zero_add, Nat.add_zero, Nat.one_mul, Int.one_mul, Int.zero_add, Int.add_zero, Int.mul_one, List.drop_zero, List.take_length, Int.zero_sub, show IntKind.i64.wrap (imin (imax x (-x)) 32635 + 132) = Sp.mag x from wrap_i64 (x := Sp.mag x) (by omega) (by omega)]) ?_
                refine seqK_n ?_
                refine VC.ret ?_
                exact Fin.all [] (.inr rfl) (l := [AV.c (Value.int IntKind.u8 (175 - Sp.mag x / 256 % 16))]) (ps := []) (by kernel_rfl) (by kernel_rfl) (.nil) (All.of (l' := []) (by kernel_rfl) (.nil)) (show AV.c (Value.int IntKind.u8 (175 - Sp.mag x / 256 % 16)) = AV.c (Value.int IntKind.u8 (Sp.mu x)) by refine cong1 ?_; simp (disch := omega) only [Sp.mu, Sp.expo, Sp.shr3, if_pos, if_neg]; omega)
          ·
            simp at h5
            refine VC.exit ?_
            refine seqK_x ?_
            refine roundK_x ?_
            refine blockK_x ?_
            refine seqK_n ?_
            refine VC.seq ?_
            refine VC.regionE (E := E) (C := C0) E_ok mixed (by first | exact fun _ => rfl | exact fun h => by cases h) [2, 3, 5, 6, 28, 29, 30, 31, 32, 33, 34, 35, 36, 37, 38, 39, 40, 41] (st' := St.mk [(2, AV.c (Value.int IntKind.u8 0)), (3, AV.c (Value.int IntKind.i64 x)), (5, AV.c (Value.int IntKind.i64 4)), (6, AV.c (Value.int IntKind.i64 (Int.tmod (IntKind.wrap IntKind.i64 (Int.tdiv (Sp.mag x) 128)) 16)))] []) (ps := [Con Try.prog L0 (30 : Nat) [] [AV.c (Value.int IntKind.i64 (7 : Int))] [] (AV.c (Value.int IntKind.i64 (128 : Int))), true = true ∨ True ∧ ∀ (o : HObj), o ∈ [] → HObj.nr o, (128 : Int) ≠ (0 : Int), (16 : Int) ≠ (0 : Int)]) (by kernel_rfl) (.cons (by exact con_power _ (by omega)) (.cons (by simp) (.cons (by trivial) (.cons (by trivial) (.nil))))) (st'' := St.mk [(2, AV.c (Value.int IntKind.u8 0)), (3, AV.c (Value.int IntKind.i64 x)), (5, AV.c (Value.int IntKind.i64 4)), (6, AV.c (Value.int IntKind.i64 (Sp.mag x / 128 % 16)))] []) (by simp (disch := omega) only [wrap_i8, wrap_i16, wrap_i32, wrap_i64, wrap_u8, wrap_u16, wrap_u32, wrap_u64, Int.tdiv_eq_ediv_of_nonneg, Int.tmod_eq_emod_of_nonneg, Int.toNat_natCast, Int.reduceToNat, Nat.mul_one, Nat.zero_add, Nat.add_zero, Nat.one_mul, Int.one_mul, Int.zero_add, Int.add_zero, Int.mul_one, List.drop_zero, List.take_length, Int.zero_sub, show IntKind.i64.wrap (imin (imax x (-x)) 32635 + 132) = Sp.mag x from wrap_i64 (x := Sp.mag x) (by omega) (by omega)]) ?_
            refine seqK_n ?_
            refine VC.seq ?_
            refine VC.seq ?_
            refine VC.region (E := E) (C := C0) E_ok mixed (by first | exact fun _ => rfl | exact fun h => by cases h) [2, 5, 6, 29, 30, 31, 32, 33, 34, 35, 36, 37, 38, 39, 40, 41] (st' := St.mk [(2, AV.c (Value.int IntKind.u8 0)), (5, AV.c (Value.int IntKind.i64 4)), (6, AV.c (Value.int IntKind.i64 (Sp.mag x / 128 % 16))), (29, AV.c (Value.bool (decide (x < 0))))] []) (ps := []) (by kernel_rfl) (.nil) ?_
            refine seqK_n ?_
            refine VC.cond (b := decide (x < 0)) (by kernel_rfl) (fun h12 => ?_) (fun h12 => ?_)
            ·
              simp at h12
              refine VC.seq ?_
              refine VC.regionE (E := E) (C := C0) E_ok mixed (by first | exact fun _ => rfl | exact fun h => by cases h) [2, 5, 6, 36, 37, 38, 39, 40, 41] (st' := St.mk [(2, AV.c (Value.int IntKind.u8 (IntKind.wrap IntKind.u8 (IntKind.wrap IntKind.i64 (63 - Sp.mag x / 128 % 16))))), (5, AV.c (Value.int IntKind.i64 4)), (6, AV.c (Value.int IntKind.i64 (Sp.mag x / 128 % 16)))] []) (ps := []) (by kernel_rfl) (.nil) (st'' := St.mk [(2, AV.c (Value.int IntKind.u8 (63 - Sp.mag x / 128 % 16))), (5, AV.c (Value.int IntKind.i64 4)), (6, AV.c (Value.int IntKind.i64 (Sp.mag x / 128 % 16)))] []) (by simp (disch := omega) only [wrap_i8, wrap_i16, wrap_i32, wrap_i64, wrap_u8, wrap_u16, wrap_u32, wrap_u64, Int.tdiv_eq_ediv_of_nonneg, Int.tmod_eq_emod_of_nonneg, Int.toNat_natCast, Int.reduceToNat, Nat.mul_one, Nat.zero_add, Nat.add_zero, Nat.one_mul, Int.one_mul, Int.zero_add, Int.add_zero, Int.mul_one, List.drop_zero, List.take_length, Int.zero_sub, show IntKind.i64.wrap (imin (imax x (-x)) 32635 + 132) = Sp.mag x from wrap_i64 (x := Sp.mag x) (by omega) (by omega)]) ?_
              refine seqK_n ?_
              refine VC.ret ?_
              refine seqK_r ?_
              exact Fin.all [] (.inr rfl) (l := [AV.c (Value.int IntKind.u8 (63 - Sp.mag x / 128 % 16))]) (ps := []) (by kernel_rfl) (by kernel_rfl) (.nil) (All.of (l' := []) (by kernel_rfl) (.nil)) (show AV.c (Value.int IntKind.u8 (63 - Sp.mag x / 128 % 16)) = AV.c (Value.int IntKind.u8 (Sp.mu x)) by refine cong1 ?_; simp (disch := omega) only [Sp.mu, Sp.expo, Sp.shr3, if_pos, if_neg]; omega)
            ·
              simp at h12
              refine VC.skip ?_
              refine seqK_n ?_
              refine VC.seq ?_
              refine VC.regionE (E := E) (C := C0) E_ok mixed (by first | exact fun _ => rfl | exact fun h => by cases h) [2] (st' := St.mk [(2, AV.c (Value.int IntKind.u8 (IntKind.wrap IntKind.u8 (IntKind.wrap IntKind.i64 (191 - Sp.mag x / 128 % 16)))))] []) (ps := []) (by kernel_rfl) (.nil) (st'' := St.mk [(2, AV.c (Value.int IntKind.u8 (191 - Sp.mag x / 128 % 16)))] []) (by simp (disch := omega) only [wrap_i8, wrap_i16, wrap_i32, wrap_i64, wrap_u8, wrap_u16, wrap_u32, wrap_u64, Int.tdiv_eq_ediv_of_nonneg, Int.tmod_eq_emod_of_nonneg, Int.toNat_natCast, Int.reduceToNat, Nat.mul_one, Nat.zero_add, Nat.add_zero, Nat.one_mul, Int.one_mul, Int.zero_add, Int.add_zero, Int.mul_one, List.drop_zero, List.take_length, Int.zero_sub, show IntKind.i64.wrap (imin (imax x (-x)) 32635 + 132) = Sp.mag x from wrap_i64 (x := Sp.mag x) (by omega) (by omega)]) ?_
              refine seqK_n ?_
              refine VC.ret ?_
              exact Fin.all [] (.inr rfl) (l := [AV.c (Value.int IntKind.u8 (191 - Sp.mag x / 128 % 16))]) (ps := []) (by kernel_rfl) (by kernel_rfl) (.nil) (All.of (l' := []) (by kernel_rfl) (.nil)) (show AV.c (Value.int IntKind.u8 (191 - Sp.mag x / 128 % 16)) = AV.c (Value.int IntKind.u8 (Sp.mu x)) by refine cong1 ?_; simp (disch := omega) only [Sp.mu, Sp.expo, Sp.shr3, if_pos, if_neg]; omega)
        ·
          simp at h4
          refine VC.exit ?_
          refine seqK_x ?_
          refine roundK_x ?_
          refine blockK_x ?_
          refine seqK_n ?_
          refine VC.seq ?_
          refine VC.regionE (E := E) (C := C0) E_ok mixed (by first | exact fun _ => rfl | exact fun h => by cases h) [2, 3, 5, 6, 28, 29, 30, 31, 32, 33, 34, 35, 36, 37, 38, 39, 40, 41] (st' := St.mk [(2, AV.c (Value.int IntKind.u8 0)), (3, AV.c (Value.int IntKind.i64 x)), (5, AV.c (Value.int IntKind.i64 3)), (6, AV.c (Value.int IntKind.i64 (Int.tmod (IntKind.wrap IntKind.i64 (Int.tdiv (Sp.mag x) 64)) 16)))] []) (ps := [Con Try.prog L0 (30 : Nat) [] [AV.c (Value.int IntKind.i64 (6 : Int))] [] (AV.c (Value.int IntKind.i64 (64 : Int))), true = true ∨ True ∧ ∀ (o : HObj), o ∈ [] → HObj.nr o, (64 : Int) ≠ (0 : Int), (16 : Int) ≠ (0 : Int)]) (by kernel_rfl) (.cons (by exact con_power _ (by omega)) (.cons (by simp) (.cons (by trivial) (.cons (by trivial) (.nil))))) (st'' := St.mk [(2, AV.c (Value.int IntKind.u8 0)), (3, AV.c (Value.int IntKind.i64 x)), (5, AV.c (Value.int IntKind.i64 3)), (6, AV.c (Value.int IntKind.i64 (Sp.mag x / 64 % 16)))] []) (by simp (disch := omega) only [wrap_i8, wrap_i16, wrap_i32, wrap_i64, wrap_u8, wrap_u16, wrap_u32, wrap_u64, Int.tdiv_eq_ediv_of_nonneg, Int.tmod_eq_emod_of_nonneg, Int.toNat_natCast, Int.reduceToNat, Nat.mul_one, Nat.zero_add, Nat.add_zero, Nat.one_mul, Int.one_mul, Int.zero_add, Int.add_zero, Int.mul_one, List.drop_zero, List.take_length, Int.zero_sub, show IntKind.i64.wrap (imin (imax x (-x)) 32635 + 132) = Sp.mag x from wrap_i64 (x := Sp.mag x) (by omega) (by omega)]) ?_
          refine seqK_n ?_
          refine VC.seq ?_
          refine VC.seq ?_
          refine VC.region (E := E) (C := C0) E_ok mixed (by first | exact fun _ => rfl | exact fun h => by cases h) [2, 5, 6, 29, 30, 31, 32, 33, 34, 35, 36, 37, 38, 39, 40, 41] (st' := St.mk [(2, AV.c (Value.int IntKind.u8 0)), (5, AV.c (Value.int IntKind.i64 3)), (6, AV.c (Value.int IntKind.i64 (Sp.mag x / 64 % 16))), (29, AV.c (Value.bool (decide (x < 0))))] []) (ps := []) (by kernel_rfl) (.nil) ?_
          refine seqK_n ?_
          refine VC.cond (b := decide (x < 0)) (by kernel_rfl) (fun h13 => ?_) (fun h13 => ?_)
          ·
            simp at h13
            refine VC.seq ?_
            refine VC.regionE (E := E) (C := C0) E_ok mixed (by first | exact fun _ => rfl | exact fun h => by cases h) [2, 5, 6, 36, 37, 38, 39, 40, 41] (st' := St.mk [(2, AV.c (Value.int IntKind.u8 (IntKind.wrap IntKind.u8 (IntKind.wrap IntKind.i64 (79 - Sp.mag x / 64 % 16))))), (5, AV.c (Value.int IntKind.i64 3)), (6, AV.c (Value.int IntKind.i64 (Sp.mag x / 64 % 16)))] []) (ps := []) (by kernel_rfl) (.nil) (st'' := St.mk [(2, AV.c (Value.int IntKind.u8 (79 - Sp.mag x / 64 % 16))), (5, AV.c (Value.int IntKind.i64 3)), (6, AV.c (Value.int IntKind.i64 (Sp.mag x / 64 % 16)))] []) (by simp (disch := omega) only [wrap_i8, wrap_i16, wrap_i32, wrap_i64, wrap_u8, wrap_u16, wrap_u32, wrap_u64, Int.tdiv_eq_ediv_of_nonneg, Int.tmod_eq_emod_of_nonneg, Int.toNat_natCast, Int.reduceToNat, Nat.mul_one, Nat.zero_add, Nat.add_zero, Nat.one_mul, Int.one_mul, Int.zero_add, Int.add_zero, Int.mul_one, List.drop_zero, List.take_length, Int.zero_sub, show IntKind.i64.wrap (imin (imax x (-x)) 32635 + 132) = Sp.mag x from wrap_i64 (x := Sp.mag x) (by omega) (by omega)]) ?_
            refine seqK_n ?_
            refine VC.ret ?_
            refine seqK_r ?_
            exact Fin.all [] (.inr rfl) (l := [AV.c (Value.int IntKind.u8 (79 - Sp.mag x / 64 % 16))]) (ps := []) (by kernel_rfl) (by kernel_rfl) (.nil) (All.of (l' := []) (by kernel_rfl) (.nil)) (show AV.c (Value.int IntKind.u8 (79 - Sp.mag x / 64 % 16)) = AV.c (Value.int IntKind.u8 (Sp.mu x)) by refine cong1 ?_; simp (disch := omega) only [Sp.mu, Sp.expo, Sp.shr3, if_pos, if_neg]; omega)
          ·
            simp at h13
            refine VC.skip ?_
            refine seqK_n ?_
            refine VC.seq ?_
            refine VC.regionE (E := E) (C := C0) E_ok mixed (by first | exact fun _ => rfl | exact fun h => by cases h) [2] (st' := St.mk [(2, AV.c (Value.int IntKind.u8 (IntKind.wrap IntKind.u8 (IntKind.wrap IntKind.i64 (207 - Sp.mag x / 64 % 16)))))] []) (ps := []) (by kernel_rfl) (.nil) (st'' := St.mk [(2, AV.c (Value.int IntKind.u8 (207 - Sp.mag x / 64 % 16)))] []) (by simp (disch := omega) only [wrap_i8, wrap_i16, wrap_i32, wrap_i64, wrap_u8, wrap_u16, wrap_u32, wrap_u64, Int.tdiv_eq_ediv_of_nonneg, Int.tmod_eq_emod_of_nonneg, Int.toNat_natCast, Int.reduceToNat, Nat.mul_one, Nat.zero_add, Nat.add_zero, Nat.one_mul, Int.one_mul, Int.zero_add, Int.add_zero, Int.mul_one, List.drop_zero, List.take_length, Int.zero_sub, show IntKind.i64.wrap (imin (imax x (-x)) 32635 + 132) = Sp.mag x from wrap_i64 (x := Sp.mag x) (by omega) (by omega)]) ?_
            refine seqK_n ?_
            refine VC.ret ?_
            exact Fin.all [] (.inr rfl) (l := [AV.c (Value.int IntKind.u8 (207 - Sp.mag x / 64 % 16))]) (ps := []) (by kernel_rfl) (by kernel_rfl) (.nil) (All.of (l' := []) (by kernel_rfl) (.nil)) (show AV.c (Value.int IntKind.u8 (207 - Sp.mag x / 64 % 16)) = AV.c (Value.int IntKind.u8 (Sp.mu x)) by refine cong1 ?_; simp (disch := omega) only [Sp.mu, Sp.expo, Sp.shr3, if_pos, if_neg]; omega)
      ·
        simp at h3
        refine VC.exit ?_
        refine seqK_x ?_
        refine roundK_x ?_
        refine blockK_x ?_
        refine seqK_n ?_
        refine VC.seq ?_
        refine VC.regionE (E := E) (C := C0) E_ok mixed (by first | exact fun _ => rfl | exact fun h => by cases h) [2, 3, 5, 6, 28, 29, 30, 31, 32, 33, 34, 35, 36, 37, 38, 39, 40, 41] (st' := St.mk [(2, AV.c (Value.int IntKind.u8 0)), (3, AV.c (Value.int IntKind.i64 x)), (5, AV.c (Value.int IntKind.i64 2)), (6, AV.c (Value.int IntKind.i64 (Int.tmod (IntKind.wrap IntKind.i64 (Int.tdiv (Sp.mag x) 32)) 16)))] []) (ps := [Con Try.prog L0 (30 : Nat) [] [AV.c (Value.int IntKind.i64 (5 : Int))] [] (AV.c (Value.int IntKind.i64 (32 : Int))), true = true ∨ True ∧ ∀ (o : HObj), o ∈ [] → HObj.nr o, (32 : Int) ≠ (0 : Int), (16 : Int) ≠ (0 : Int)]) (by kernel_rfl) (.cons (by exact con_power _ (by omega)) (.cons (by simp) (.cons (by trivial) (.cons (by trivial) (.nil))))) (st'' := St.mk [(2, AV.c (Value.int IntKind.u8 0)), (3, AV.c (Value.int IntKind.i64 x)), (5, AV.c (Value.int IntKind.i64 2)), (6, AV.c (Value.int IntKind.i64 (Sp.mag x / 32 % 16)))] []) (by simp (disch := omega) only [wrap_i8, wrap_i16, wrap_i32, wrap_i64, wrap_u8, wrap_u16, wrap_u32, wrap_u64, Int.tdiv_eq_ediv_of_nonneg, Int.tmod_eq_emod_of_nonneg, Int.toNat_natCast, Int.reduceToNat, Nat.mul_one, Nat.zero_add, Nat.add_zero, Nat.one_mul, Int.one_mul, Int.zero_add, Int.add_zero, Int.mul_one, List.drop_zero, List.take_length, Int.zero_sub, show IntKind.i64.wrap (imin (imax x (-x)) 32635 + 132) = Sp.mag x from wrap_i64 (x := Sp.mag x) (by omega) (by omega)]) ?_
        refine seqK_n ?_
        refine VC.seq ?_
        refine VC.seq ?_
        refine VC.region (E := E) (C := C0) E_ok mixed (by first | exact fun _ => rfl | exact fun h => by cases h) [2, 5, 6, 29, 30, 31, 32, 33, 34, 35, 36, 37, 38, 39, 40, 41] (st' := St.mk [(2, AV.c (Value.int IntKind.u8 0)), (5, AV.c (Value.int IntKind.i64 2)), (6, AV.c (Value.int IntKind.i64 (Sp.mag x / 32 % 16))), (29, AV.c (Value.bool (decide (x < 0))))] []) (ps := []) (by kernel_rfl) (.nil) ?_
        refine seqK_n ?_
        refine VC.cond (b := decide (x < 0)) (by kernel_rfl) (fun h14 => ?_) (fun h14 => ?_)
        ·
          simp at h14
          refine VC.seq ?_
          refine VC.regionE (E := E) (C := C0) E_ok mixed (by first | exact fun _ => rfl | exact fun h => by cases h) [2, 5, 6, 36, 37, 38, 39, 40, 41] (st' := St.mk [(2, AV.c (Value.int IntKind.u8 (IntKind.wrap IntKind.u8 (IntKind.wrap IntKind.i64 (95 - Sp.mag x / 32 % 16))))), (5, AV.c (Value.int IntKind.i64 2)), (6, AV.c (Value.int IntKind.i64 (Sp.mag x / 32 % 16)))] []) (ps := []) (by kernel_rfl) (.nil) (st'' := St.mk [(2, AV.c (Value.int IntKind.u8 (95 - Sp.mag x / 32 % 16))), (5, AV.c (Value.int IntKind.i64 2)), (6, AV.c (Value.int IntKind.i64 (Sp.mag x / 32 % 16)))] []) (by simp (disch := omega) only [wrap_i8, wrap_i16, wrap_i32, wrap_i64, wrap_u8, wrap_u16, wrap_u32, wrap_u64, Int.tdiv_eq_ediv_of_nonneg, Int.tmod_eq_emod_of_nonneg, Int.toNat_natCast, Int.reduceToNat, Nat.mul_one, Nat.zero_add, Nat.add_zero, Nat.one_mul, Int.one_mul, Int.zero_add, Int.add_zero, Int.mul_one, List.drop_zero, List.take_length, Int.zero_sub, show IntKind.i64.wrap (imin (imax x (-x)) 32635 + 132) = Sp.mag x from wrap_i64 (x := Sp.mag x) (by omega) (by omega)]) ?_
          refine seqK_n ?_
          refine VC.ret ?_
          refine seqK_r ?_
          exact Fin.all [] (.inr rfl) (l := [AV.c (Value.int IntKind.u8 (95 - Sp.mag x / 32 % 16))]) (ps := []) (by kernel_rfl) (by kernel_rfl) (.nil) (All.of (l' := []) (by kernel_rfl) (.nil)) (show AV.c (Value.int IntKind.u8 (95 - Sp.mag x / 32 % 16)) = AV.c (Value.int IntKind.u8 (Sp.mu x)) by refine cong1 ?_; simp (disch := omega) only [Sp.mu, Sp.expo, Sp.shr3, if_pos, if_neg]; omega)
        ·
          simp at h14
          refine VC.skip ?_
          refine seqK_n ?_
          refine VC.seq ?_
          refine VC.regionE (E := E) (C := C0) E_ok mixed (by first | exact fun _ => rfl | exact fun h => by cases h) [2] (st' := St.mk [(2, AV.c (Value.int IntKind.u8 (IntKind.wrap IntKind.u8 (IntKind.wrap IntKind.i64 (223 - Sp.mag x / 32 % 16)))))] []) (ps := []) (by kernel_rfl) (.nil) (st'' := St.mk [(2, AV.c (Value.int IntKind.u8 (223 - Sp.mag x / 32 % 16)))] []) (by simp (disch := omega) only [wrap_i8, wrap_i16, wrap_i32, wrap_i64, wrap_u8, wrap_u16, wrap_u32, wrap_u64, Int.tdiv_eq_ediv_of_nonneg, Int.tmod_eq_emod_of_nonneg, Int.toNat_natCast, Int.reduceToNat, Nat.mul_one, Nat.zero_add, Nat.add_zero, Nat.one_mul, Int.one_mul, Int.zero_add, Int.add_zero, Int.mul_one, List.drop_zero, List.take_length, Int.zero_sub, show IntKind.i64.wrap (imin (imax x (-x)) 32635 + 132) = Sp.mag x from wrap_i64 (x := Sp.mag x) (by omega) (by omega)]) ?_
          refine seqK_n ?_
          refine VC.ret ?_
          exact Fin.all [] (.inr rfl) (l := [AV.c (Value.int IntKind.u8 (223 - Sp.mag x / 32 % 16))]) (ps := []) (by kernel_rfl) (by kernel_rfl) (.nil) (All.of (l' := []) (by kernel_rfl) (.nil)) (show AV.c (Value.int IntKind.u8 (223 - Sp.mag x / 32 % 16)) = AV.c (Value.int IntKind.u8 (Sp.mu x)) by refine cong1 ?_; simp (disch := omega) only [Sp.mu, Sp.expo, Sp.shr3, if_pos, if_neg]; omega)
    ·
      simp at h2
      refine VC.exit ?_
      refine seqK_x ?_
      refine roundK_x ?_
      refine blockK_x ?_
      refine seqK_n ?_
      refine VC.seq ?_
      refine VC.regionE (E := E) (C := C0) E_ok mixed (by first | exact fun _ => rfl | exact fun h => by cases h) [2, 3, 5, 6, 28, 29, 30, 31, 32, 33, 34, 35, 36, 37, 38, 39, 40, 41] (st' := St.mk [(2, AV.c (Value.int IntKind.u8 0)), (3, AV.c (Value.int IntKind.i64 x)), (5, AV.c (Value.int IntKind.i64 1)), (6, AV.c (Value.int IntKind.i64 (Int.tmod (IntKind.wrap IntKind.i64 (Int.tdiv (Sp.mag x) 16)) 16)))] []) (ps := [Con Try.prog L0 (30 : Nat) [] [AV.c (Value.int IntKind.i64 (4 : Int))] [] (AV.c (Value.int IntKind.i64 (16 : Int))), true = true ∨ True ∧ ∀ (o : HObj), o ∈ [] → HObj.nr o, (16 : Int) ≠ (0 : Int), (16 : Int) ≠ (0 : Int)]) (by kernel_rfl) (.cons (by exact con_power _ (by omega)) (.cons (by simp) (.cons (by trivial) (.cons (by trivial) (.nil))))) (st'' := St.mk [(2, AV.c (Value.int IntKind.u8 0)), (3, AV.c (Value.int IntKind.i64 x)), (5, AV.c (Value.int IntKind.i64 1)), (6, AV.c (Value.int IntKind.i64 (Sp.mag x / 16 % 16)))] []) (by simp (disch := omega) only [wrap_i8, wrap_i16, wrap_i32, wrap_i64, wrap_u8, wrap_u16, wrap_u32, wrap_u64, Int.tdiv_eq_ediv_of_nonneg, Int.tmod_eq_emod_of_nonneg, Int.toNat_natCast, Int.reduceToNat, Nat.mul_one, Nat.zero_add, Nat.add_zero, Nat.one_mul, Int.one_mul, Int.zero_add, Int.add_zero, Int.mul_one, List.drop_zero, List.take_length, Int.zero_sub, show IntKind.i64.wrap (imin (imax x (-x)) 32635 + 132) = Sp.mag x from wrap_i64 (x := Sp.mag x) (by omega) (by omega)]) ?_
      refine seqK_n ?_
      refine VC.seq ?_
      refine VC.seq ?_
      refine VC.region (E := E) (C := C0) E_ok mixed (by first | exact fun _ => rfl | exact fun h => by cases h) [2, 5, 6, 29, 30, 31, 32, 33, 34, 35, 36, 37, 38, 39, 40, 41] (st' := St.mk [(2, AV.c (Value.int IntKind.u8 0)), (5, AV.c (Value.int IntKind.i64 1)), (6, AV.c (Value.int IntKind.i64 (Sp.mag x / 16 % 16))), (29, AV.c (Value.bool (decide (x < 0))))] []) (ps := []) (by kernel_rfl) (.nil) ?_
      refine seqK_n ?_
      refine VC.cond (b := decide (x < 0)) (by kernel_rfl) (fun h15 => ?_) (fun h15 => ?_)
      ·
        simp at h15
        refine VC.seq ?_
        refine VC.regionE (E := E) (C := C0) E_ok mixed (by first | exact fun _ => rfl | exact fun h => by cases h) [2, 5, 6, 36, 37, 38, 39, 40, 41] (st' := St.mk [(2, AV.c (Value.int IntKind.u8 (IntKind.wrap IntKind.u8 (IntKind.wrap IntKind.i64 (111 - Sp.mag x / 16 % 16))))), (5, AV.c (Value.int IntKind.i64 1)), (6, AV.c (Value.int IntKind.i64 (Sp.mag x / 16 % 16)))] []) (ps := []) (by kernel_rfl) (.nil) (st'' := St.mk [(2, AV.c (Value.int IntKind.u8 (111 - Sp.mag x / 16 % 16))), (5, AV.c (Value.int IntKind.i64 1)), (6, AV.c (Value.int IntKind.i64 (Sp.mag x / 16 % 16)))] []) (by simp (disch := omega) only [wrap_i8, wrap_i16, wrap_i32, wrap_i64, wrap_u8, wrap_u16, wrap_u32, wrap_u64, Int.tdiv_eq_ediv_of_nonneg, Int.tmod_eq_emod_of_nonneg, Int.toNat_natCast, Int.reduceToNat, Nat.mul_one, Nat.zero_add, Nat.add_zero, Nat.one_mul, Int.one_mul, Int.zero_add, Int.add_zero, Int.mul_one, List.drop_zero, List.take_length, Int.zero_sub, show IntKind.i64.wrap (imin (imax x (-x)) 32635 + 132) = Sp.mag x from wrap_i64 (x := Sp.mag x) (by omega) (by omega)]) ?_
        refine seqK_n ?_
        refine VC.ret ?_
        refine seqK_r ?_
        exact Fin.all [] (.inr rfl) (l := [AV.c (Value.int IntKind.u8 (111 - Sp.mag x / 16 % 16))]) (ps := []) (by kernel_rfl) (by kernel_rfl) (.nil) (All.of (l' := []) (by kernel_rfl) (.nil)) (show AV.c (Value.int IntKind.u8 (111 - Sp.mag x / 16 % 16)) = AV.c (Value.int IntKind.u8 (Sp.mu x)) by refine cong1 ?_; simp (disch := omega) only [Sp.mu, Sp.expo, Sp.shr3, if_pos, if_neg]; omega)
      ·
        simp at h15
        refine VC.skip ?_
        refine seqK_n ?_
        refine VC.seq ?_
        refine VC.regionE (E := E) (C := C0) E_ok mixed (by first | exact fun _ => rfl | exact fun h => by cases h) [2] (st' := St.mk [(2, AV.c (Value.int IntKind.u8 (IntKind.wrap IntKind.u8 (IntKind.wrap IntKind.i64 (239 - Sp.mag x / 16 % 16)))))] []) (ps := []) (by kernel_rfl) (.nil) (st'' := St.mk [(2, AV.c (Value.int IntKind.u8 (239 - Sp.mag x / 16 % 16)))] []) (by simp (disch := omega) only [wrap_i8, wrap_i16, wrap_i32, wrap_i64, wrap_u8, wrap_u16, wrap_u32, wrap_u64, Int.tdiv_eq_ediv_of_nonneg, Int.tmod_eq_emod_of_nonneg, Int.toNat_natCast, Int.reduceToNat, Nat.mul_one, Nat.zero_add, Nat.add_zero, Nat.one_mul, Int.one_mul, Int.zero_add, Int.add_zero, Int.mul_one, List.drop_zero, List.take_length, Int.zero_sub, show IntKind.i64.wrap (imin (imax x (-x)) 32635 + 132) = Sp.mag x from wrap_i64 (x := Sp.mag x) (by omega) (by omega)]) ?_
        refine seqK_n ?_
        refine VC.ret ?_
        exact Fin.all [] (.inr rfl) (l := [AV.c (Value.int IntKind.u8 (239 - Sp.mag x / 16 % 16))]) (ps := []) (by kernel_rfl) (by kernel_rfl) (.nil) (All.of (l' := []) (by kernel_rfl) (.nil)) (show AV.c (Value.int IntKind.u8 (239 - Sp.mag x / 16 % 16)) = AV.c (Value.int IntKind.u8 (Sp.mu x)) by refine cong1 ?_; simp (disch := omega) only [Sp.mu, Sp.expo, Sp.shr3, if_pos, if_neg]; omega)
  ·
    simp at h1
    refine VC.exit ?_
    refine seqK_x ?_
    refine roundK_x ?_
    refine blockK_x ?_
    refine seqK_n ?_
    refine VC.seq ?_
    refine VC.regionE (E := E) (C := C0) E_ok mixed (by first | exact fun _ => rfl | exact fun h => by cases h) [2, 3, 5, 6, 28, 29, 30, 31, 32, 33, 34, 35, 36, 37, 38, 39, 40, 41] (st' := St.mk [(2, AV.c (Value.int IntKind.u8 0)), (3, AV.c (Value.int IntKind.i64 x)), (5, AV.c (Value.int IntKind.i64 0)), (6, AV.c (Value.int IntKind.i64 (Int.tmod (IntKind.wrap IntKind.i64 (Int.tdiv (Sp.mag x) 8)) 16)))] []) (ps := [Con Try.prog L0 (30 : Nat) [] [AV.c (Value.int IntKind.i64 (3 : Int))] [] (AV.c (Value.int IntKind.i64 (8 : Int))), true = true ∨ True ∧ ∀ (o : HObj), o ∈ [] → HObj.nr o, (8 : Int) ≠ (0 : Int), (16 : Int) ≠ (0 : Int)]) (by kernel_rfl) (.cons (by exact con_power _ (by omega)) (.cons (by simp) (.cons (by trivial) (.cons (by trivial) (.nil))))) (st'' := St.mk [(2, AV.c (Value.int IntKind.u8 0)), (3, AV.c (Value.int IntKind.i64 x)), (5, AV.c (Value.int IntKind.i64 0)), (6, AV.c (Value.int IntKind.i64 (Sp.mag x / 8 % 16)))] []) (by simp (disch := omega) only [wrap_i8, wrap_i16, wrap_i32, wrap_i64, wrap_u8, wrap_u16, wrap_u32, wrap_u64, Int.tdiv_eq_ediv_of_nonneg, Int.tmod_eq_emod_of_nonneg, Int.toNat_natCast, Int.reduceToNat, Nat.mul_one, Nat.zero_add, Nat.add_zero, Nat.one_mul, Int.one_mul, Int.zero_add, Int.add_zero, Int.mul_one, List.drop_zero, List.take_length, Int.zero_sub, show IntKind.i64.wrap (imin (imax x (-x)) 32635 + 132) = Sp.mag x from wrap_i64 (x := Sp.mag x) (by omega) (by omega)]) ?_
    refine seqK_n ?_
    refine VC.seq ?_
    refine VC.seq ?_
    refine VC.region (E := E) (C := C0) E_ok mixed (by first | exact fun _ => rfl | exact fun h => by cases h) [2, 5, 6, 29, 30, 31, 32, 33, 34, 35, 36, 37, 38, 39, 40, 41] (st' := St.mk [(2, AV.c (Value.int IntKind.u8 0)), (5, AV.c (Value.int IntKind.i64 0)), (6, AV.c (Value.int IntKind.i64 (Sp.mag x / 8 % 16))), (29, AV.c (Value.bool (decide (x < 0))))] []) (ps := []) (by kernel_rfl) (.nil) ?_
    refine seqK_n ?_
    refine VC.cond (b := decide (x < 0)) (by kernel_rfl) (fun h16 => ?_) (fun h16 => ?_)
    ·
      simp at h16
      refine VC.seq ?_
      refine VC.regionE (E := E) (C := C0) E_ok mixed (by first | exact fun _ => rfl | exact fun h => by cases h) [2, 5, 6, 36, 37, 38, 39, 40, 41] (st' := St.mk [(2, AV.c (Value.int IntKind.u8 (IntKind.wrap IntKind.u8 (IntKind.wrap IntKind.i64 (127 - Sp.mag x / 8 % 16))))), (5, AV.c (Value.int IntKind.i64 0)), (6, AV.c (Value.int IntKind.i64 (Sp.mag x / 8 % 16)))] []) (ps := []) (by kernel_rfl) (.nil) (st'' := St.mk [(2, AV.c (Value.int IntKind.u8 (127 - Sp.mag x / 8 % 16))), (5, AV.c (Value.int IntKind.i64 0)), (6, AV.c (Value.int IntKind.i64 (Sp.mag x / 8 % 16)))] []) (by simp (disch := omega) only [wrap_i8, wrap_i16, wrap_i32, wrap_i64, wrap_u8, wrap_u16, wrap_u32, wrap_u64, Int.tdiv_eq_ediv_of_nonneg, Int.tmod_eq_emod_of_nonneg, Int.toNat_natCast, Int.reduceToNat, Nat.mul_one, Nat.zero_add, Nat.add_zero, Nat.one_mul, Int.one_mul, Int.zero_add, Int.add_zero, Int.mul_one, List.drop_zero, List.take_length, Int.zero_sub, show IntKind.i64.wrap (imin (imax x (-x)) 32635 + 132) = Sp.mag x from wrap_i64 (x := Sp.mag x) (by omega) (by omega)]) ?_
      refine seqK_n ?_
      refine VC.ret ?_
      refine seqK_r ?_
      exact Fin.all [] (.inr rfl) (l := [AV.c (Value.int IntKind.u8 (127 - Sp.mag x / 8 % 16))]) (ps := []) (by kernel_rfl) (by kernel_rfl) (.nil) (All.of (l' := []) (by kernel_rfl) (.nil)) (show AV.c (Value.int IntKind.u8 (127 - Sp.mag x / 8 % 16)) = AV.c (Value.int IntKind.u8 (Sp.mu x)) by refine cong1 ?_; simp (disch := omega) only [Sp.mu, Sp.expo, Sp.shr3, if_pos, if_neg]; omega)
    ·
      simp at h16
      refine VC.skip ?_
      refine seqK_n ?_
      refine VC.seq ?_
      refine VC.regionE (E := E) (C := C0) E_ok mixed (by first | exact fun _ => rfl | exact fun h => by cases h) [2] (st' := St.mk [(2, AV.c (Value.int IntKind.u8 (IntKind.wrap IntKind.u8 (IntKind.wrap IntKind.i64 (255 - Sp.mag x / 8 % 16)))))] []) (ps := []) (by kernel_rfl) (.nil) (st'' := St.mk [(2, AV.c (Value.int IntKind.u8 (255 - Sp.mag x / 8 % 16)))] []) (by simp (disch := omega) only [wrap_i8, wrap_i16, wrap_i32, wrap_i64, wrap_u8, wrap_u16, wrap_u32, wrap_u64, Int.tdiv_eq_ediv_of_nonneg, Int.tmod_eq_emod_of_nonneg, Int.toNat_natCast, Int.reduceToNat, Nat.mul_one, Nat.zero_add, Nat.add_zero, Nat.one_mul, Int.one_mul, Int.zero_add, Int.add_zero, Int.mul_one, List.drop_zero, List.take_length, Int.zero_sub, show IntKind.i64.wrap (imin (imax x (-x)) 32635 + 132) = Sp.mag x from wrap_i64 (x := Sp.mag x) (by omega) (by omega)]) ?_
      refine seqK_n ?_
      refine VC.ret ?_
      exact Fin.all [] (.inr rfl) (l := [AV.c (Value.int IntKind.u8 (255 - Sp.mag x / 8 % 16))]) (ps := []) (by kernel_rfl) (by kernel_rfl) (.nil) (All.of (l' := []) (by kernel_rfl) (.nil)) (show AV.c (Value.int IntKind.u8 (255 - Sp.mag x / 8 % 16)) = AV.c (Value.int IntKind.u8 (Sp.mu x)) by refine cong1 ?_; simp (disch := omega) only [Sp.mu, Sp.expo, Sp.shr3, if_pos, if_neg]; omega)
theorem con_rA (x : Int) (hx : -32768 ≤ x ∧ x ≤ 32767) : Con Try.prog L0 16 [] [.c (.int .i16 x)] [] (.c (.int .u8 (Sp.a x))) := by
  refine con_of_vc E_ok mixed Try.func16 rfl Try.call16 (Nat.le_of_ble_eq_true rfl) ?_
  have hm := Sp.mg2_range hx
  refine VC.seq ?_
  refine VC.region (E := E) (C := C0) E_ok mixed (by first | exact fun _ => rfl | exact fun h => by cases h) [0, 2, 3, 4, 5, 6, 7, 8, 9, 10, 11, 12, 13, 14, 15, 16, 17, 18, 19, 20, 21, 22, 23, 24, 25, 26, 27, 28, 29, 30, 31, 32, 33, 34, 35, 36, 37, 38, 39, 40, 41, 42] (st' := St.mk [(0, AV.c (Value.int IntKind.i16 x)), (2, AV.c (Value.int IntKind.u8 0))] []) (ps := []) (by kernel_rfl) (.nil) ?_
  refine seqK_n ?_
  refine VC.seq ?_
  refine VC.regionE (E := E) (C := C0) E_ok mixed (by first | exact fun _ => rfl | exact fun h => by cases h) [2, 3, 4, 5, 6, 9, 10, 11, 12, 13, 14, 15, 16, 17, 18, 19, 20, 21, 22, 23, 24, 25, 26, 27, 28, 29, 30, 31, 32, 33, 34, 35, 36, 37, 38, 39, 40, 41, 42] (st' := St.mk [(2, AV.c (Value.int IntKind.u8 0)), (3, AV.c (Value.int IntKind.i64 (IntKind.wrap IntKind.i64 x)))] []) (ps := []) (by kernel_rfl) (.nil) (st'' := St.mk [(2, AV.c (Value.int IntKind.u8 0)), (3, AV.c (Value.int IntKind.i64 x))] []) (by simp (disch := omega) only [wrap_i8, wrap_i16, wrap_i32, wrap_i64, wrap_u8, wrap_u16, wrap_u32, wrap_u64, Int.tdiv_eq_ediv_of_nonneg, Int.tmod_eq_emod_of_nonneg, Int.toNat_natCast, Int.reduceToNat, Nat.mul_one, Nat.zero_add, Nat.add_zero, Nat.one_mul, Int.one_mul, Int.zero_add, Int.add_zero, Int.mul_one, List.drop_zero, List.take_length, Int.zero_sub]) ?_
  refine seqK_n ?_
  refine VC.seq ?_
  refine VC.region (E := E) (C := C0) E_ok mixed (by first | exact fun _ => rfl | exact fun h => by cases h) [2, 3, 4, 5, 6, 10, 11, 12, 13, 14, 15, 16, 17, 18, 19, 20, 21, 22, 23, 24, 25, 26, 27, 28, 29, 30, 31, 32, 33, 34, 35, 36, 37, 38, 39, 40, 41, 42] (st' := St.mk [(2, AV.c (Value.int IntKind.u8 0)), (3, AV.c (Value.int IntKind.i64 x)), (4, AV.c (Value.int IntKind.i64 x))] []) (ps := []) (by kernel_rfl) (.nil) ?_
  refine seqK_n ?_
  refine VC.seq ?_
  refine VC.region (E := E) (C := C0) E_ok mixed (by first | exact fun _ => rfl | exact fun h => by cases h) [2, 3, 4, 5, 6, 10, 11, 12, 13, 14, 15, 16, 17, 18, 19, 20, 21, 22, 23, 24, 25, 26, 27, 28, 29, 30, 31, 32, 33, 34, 35, 36, 37, 38, 39, 40, 41, 42] (st' := St.mk [(2, AV.c (Value.int IntKind.u8 0)), (3, AV.c (Value.int IntKind.i64 x)), (4, AV.c (Value.int IntKind.i64 x)), (5, AV.c (Value.int IntKind.i64 128))] []) (ps := []) (by kernel_rfl) (.nil) ?_
  refine seqK_n ?_
  refine VC.seq ?_
  refine VC.seq ?_
  refine VC.region (E := E) (C := C0) E_ok mixed (by first | exact fun _ => rfl | exact fun h => by cases h) [2, 3, 4, 5, 6, 11, 12, 13, 14, 15, 16, 17, 18, 19, 20, 21, 22, 23, 24, 25, 26, 27, 28, 29, 30, 31, 32, 33, 34, 35, 36, 37, 38, 39, 40, 41, 42] (st' := St.mk [(2, AV.c (Value.int IntKind.u8 0)), (3, AV.c (Value.int IntKind.i64 x)), (4, AV.c (Value.int IntKind.i64 x)), (5, AV.c (Value.int IntKind.i64 128)), (11, AV.c (Value.bool (decide (x < 0))))] []) (ps := []) (by kernel_rfl) (.nil) ?_
  refine seqK_n ?_
  refine VC.cond (b := decide (x < 0)) (by kernel_rfl) (fun h1 => ?_) (fun h1 => ?_)
  ·
    simp at h1
    refine VC.seq ?_
    refine VC.regionE (E := E) (C := C0) E_ok mixed (by first | exact fun _ => rfl | exact fun h => by cases h) [2, 4, 5, 6, 15, 16, 17, 18, 19, 20, 21, 22, 23, 24, 25, 26, 27, 28, 29, 30, 31, 32, 33, 34, 35, 36, 37, 38, 39, 40, 41, 42] (st' := St.mk [(2, AV.c (Value.int IntKind.u8 0)), (4, AV.c (Value.int IntKind.i64 (IntKind.wrap IntKind.i64 (IntKind.wrap IntKind.i64 (0 - x) - 1)))), (5, AV.c (Value.int IntKind.i64 128))] []) (ps := []) (by kernel_rfl) (.nil) (st'' := St.mk [(2, AV.c (Value.int IntKind.u8 0)), (4, AV.c (Value.int IntKind.i64 (-x - 1))), (5, AV.c (Value.int IntKind.i64 128))] []) (by simp (disch := omega) only [wrap_i8, wrap_i16, wrap_i32, wrap_i64, wrap_u8, wrap_u16, wrap_u32, wrap_u64, Int.tdiv_eq_ediv_of_nonneg, Int.tmod_eq_emod_of_nonneg, Int.toNat_natCast, Int.reduceToNat, Nat.mul_one, Nat.zero_add, Nat.add_zero, Nat.one_mul, Int.one_mul, Int.zero_add, Int.add_zero, Int.mul_one, List.drop_zero, List.take_length, Int.zero_sub]) ?_
    refine seqK_n ?_
    refine VC.region (E := E) (C := C0) E_ok mixed (by first | exact fun _ => rfl | exact fun h => by cases h) [2, 4, 5, 6, 15, 16, 17, 18, 19, 20, 21, 22, 23, 24, 25, 26, 27, 28, 29, 30, 31, 32, 33, 34, 35, 36, 37, 38, 39, 40, 41, 42] (st' := St.mk [(2, AV.c (Value.int IntKind.u8 0)), (4, AV.c (Value.int IntKind.i64 (-x - 1))), (5, AV.c (Value.int IntKind.i64 0))] []) (ps := []) (by kernel_rfl) (.nil) ?_
    refine seqK_n ?_
    refine VC.seq ?_
    refine VC.seq ?_
    refine VC.region (E := E) (C := C0) E_ok mixed (by first | exact fun _ => rfl | exact fun h => by cases h) [2, 4, 5, 6, 16, 17, 18, 19, 20, 21, 22, 23, 24, 25, 26, 27, 28, 29, 30, 31, 32, 33, 34, 35, 36, 37, 38, 39, 40, 41, 42] (st' := St.mk [(2, AV.c (Value.int IntKind.u8 0)), (4, AV.c (Value.int IntKind.i64 (-x - 1))), (5, AV.c (Value.int IntKind.i64 0)), (16, AV.c (Value.bool (decide (-x - 1 < 256))))] []) (ps := []) (by kernel_rfl) (.nil) ?_
    refine seqK_n ?_
    refine VC.cond (b := decide (-x - 1 < 256)) (by kernel_rfl) (fun h2 => ?_) (fun h2 => ?_)
    ·
      simp at h2
      refine VC.seq ?_
      refine VC.regionE (E := E) (C := C0) E_ok mixed (by first | exact fun _ => rfl | exact fun h => by cases h) [2, 4, 5, 6, 23, 24, 25, 26, 27, 28, 29, 30, 31, 32, 33, 34, 35, 36, 37, 38, 39, 40, 41, 42] (st' := St.mk [(2, AV.c (Value.int IntKind.u8 (ixor IntKind.u8 (IntKind.wrap IntKind.u8 (IntKind.wrap IntKind.i64 (IntKind.wrap IntKind.i64 (Int.tdiv (-x - 1) 16) + 0))) 85))), (4, AV.c (Value.int IntKind.i64 (-x - 1))), (5, AV.c (Value.int IntKind.i64 0))] []) (ps := [(16 : Int) ≠ (0 : Int)]) (by kernel_rfl) (.cons (by trivial) (.nil)) (st'' := St.mk [(2, AV.c (Value.int IntKind.u8 (ixor IntKind.u8 ((-x - 1) / 16) 85))), (4, AV.c (Value.int IntKind.i64 (-x - 1))), (5, AV.c (Value.int IntKind.i64 0))] []) (by simp (disch := omega) only [wrap_i8, wrap_i16, wrap_i32, wrap_i64, wrap_u8, wrap_u16, wrap_u32, wrap_u64, Int.tdiv_eq_ediv_of_nonneg, Int.tmod_eq_emod_of_nonneg, Int.toNat_natCast, Int.reduceToNat, Nat.mul_one, Nat.zero_add, Nat.add_zero, Nat.one_mul, Int.one_mul, Int.zero_add, Int.add_zero, Int.mul_one, List.drop_zero, List.take_length, Int.zero_sub]) ?_
      refine seqK_n ?_
      refine VC.ret ?_
      refine seqK_r ?_
      exact Fin.all [] (.inr rfl) (l := [AV.c (Value.int IntKind.u8 (ixor IntKind.u8 ((-x - 1) / 16) 85))]) (ps := []) (by kernel_rfl) (by kernel_rfl) (.nil) (All.of (l' := []) (by kernel_rfl) (.nil)) (show AV.c (Value.int IntKind.u8 (ixor IntKind.u8 ((-x - 1) / 16) 85)) = AV.c (Value.int IntKind.u8 (Sp.a x)) by refine cong1 (congrArg (fun y => ixor .u8 y 85) ?_); simp (disch := omega) only [Sp.a0, Sp.expo, Sp.shr3, Sp.mg2, if_pos, if_neg]; omega)
    ·
      simp at h2
      refine VC.skip ?_
      refine seqK_n ?_
      refine VC.seq ?_
      refine VC.region (E := E) (C := C0) E_ok mixed (by first | exact fun _ => rfl | exact fun h => by cases h) [2, 4, 5, 6, 23, 24, 25, 26, 27, 28, 29, 30, 31, 32, 33, 34, 35, 36, 37, 38, 39, 40, 41, 42] (st' := St.mk [(2, AV.c (Value.int IntKind.u8 0)), (4, AV.c (Value.int IntKind.i64 (-x - 1))), (5, AV.c (Value.int IntKind.i64 0)), (6, AV.c (Value.int IntKind.i64 1))] []) (ps := []) (by kernel_rfl) (.nil) ?_
      refine seqK_n ?_
      refine VC.seq ?_
      refine VC.block ?_
      refine VC.rounds 1000 ?_
      refine VCR.next ?_
      refine VC.seq ?_
      refine VC.seq ?_
      refine VC.region (E := E) (C := C0) E_ok mixed (by first | exact fun _ => rfl | exact fun h => by cases h) [2, 4, 5, 6, 23, 24, 25, 26, 27, 28, 29, 30, 31, 32, 33, 34, 35, 36, 37, 38, 39, 40, 41, 42] (st' := St.mk [(2, AV.c (Value.int IntKind.u8 0)), (4, AV.c (Value.int IntKind.i64 (-x - 1))), (5, AV.c (Value.int IntKind.i64 0)), (6, AV.c (Value.int IntKind.i64 1)), (23, AV.c (Value.int IntKind.i64 (-x - 1))), (24, AV.c (Value.int IntKind.i64 1)), (25, AV.c (Value.int IntKind.i64 9)), (26, AV.c (Value.int IntKind.i64 512)), (27, AV.c (Value.bool (decide (512 ≤ -x - 1))))] []) (ps := [Con Try.prog L0 (30 : Nat) [] [AV.c (Value.int IntKind.i64 (9 : Int))] [] (AV.c (Value.int IntKind.i64 (512 : Int))), true = true ∨ True ∧ ∀ (o : HObj), o ∈ [] → HObj.nr o]) (by kernel_rfl) (.cons (by exact con_power _ (by omega)) (.cons (by simp) (.nil))) ?_
      refine seqK_n ?_
      refine VC.cond (b := decide (512 ≤ -x - 1)) (by kernel_rfl) (fun h3 => ?_) (fun h3 => ?_)
      ·
        simp at h3
        refine VC.skip ?_
        refine seqK_n ?_
        refine VC.block ?_
        refine VC.region (E := E) (C := C0) E_ok mixed (by first | exact fun _ => rfl | exact fun h => by cases h) [2, 4, 5, 6, 23, 24, 25, 26, 27, 28, 29, 30, 31, 32, 33, 34, 35, 36, 37, 38, 39, 40, 41, 42] (st' := St.mk [(2, AV.c (Value.int IntKind.u8 0)), (4, AV.c (Value.int IntKind.i64 (-x - 1))), (5, AV.c (Value.int IntKind.i64 0)), (6, AV.c (Value.int IntKind.i64 2)), (23, AV.c (Value.int IntKind.i64 (-x - 1))), (24, AV.c (Value.int IntKind.i64 1)), (25, AV.c (Value.int IntKind.i64 9)), (26, AV.c (Value.int IntKind.i64 512)), (27, AV.c (Value.bool (decide (512 ≤ -x - 1)))), (28, AV.c (Value.int IntKind.i64 1)), (29, AV.c (Value.int IntKind.i64 2))] []) (ps := []) (by kernel_rfl) (.nil) ?_
        refine blockK_n ?_
        refine roundK_n ?_
        refine VCR.next ?_
        refine VC.seq ?_
        refine VC.seq ?_
        refine VC.region (E := E) (C := C0) E_ok mixed (by first | exact fun _ => rfl | exact fun h => by cases h) [2, 4, 5, 6, 23, 24, 25, 26, 27, 28, 29, 30, 31, 32, 33, 34, 35, 36, 37, 38, 39, 40, 41, 42] (st' := St.mk [(2, AV.c (Value.int IntKind.u8 0)), (4, AV.c (Value.int IntKind.i64 (-x - 1))), (5, AV.c (Value.int IntKind.i64 0)), (6, AV.c (Value.int IntKind.i64 2)), (23, AV.c (Value.int IntKind.i64 (-x - 1))), (24, AV.c (Value.int IntKind.i64 2)), (25, AV.c (Value.int IntKind.i64 10)), (26, AV.c (Value.int IntKind.i64 1024)), (27, AV.c (Value.bool (decide (1024 ≤ -x - 1)))), (28, AV.c (Value.int IntKind.i64 1)), (29, AV.c (Value.int IntKind.i64 2))] []) (ps := [Con Try.prog L0 (30 : Nat) [] [AV.c (Value.int IntKind.i64 (10 : Int))] [] (AV.c (Value.int IntKind.i64 (1024 : Int))), true = true ∨ True ∧ ∀ (o : HObj), o ∈ [] → HObj.nr o]) (by kernel_rfl) (.cons (by exact con_power _ (by omega)) (.cons (by simp) (.nil))) ?_
        refine seqK_n ?_
        refine VC.cond (b := decide (1024 ≤ -x - 1)) (by kernel_rfl) (fun h4 => ?_) (fun h4 => ?_)
        ·
          simp at h4
          refine VC.skip ?_
          refine seqK_n ?_
          refine VC.block ?_
          refine VC.region (E := E) (C := C0) E_ok mixed (by first | exact fun _ => rfl | exact fun h => by cases h) [2, 4, 5, 6, 23, 24, 25, 26, 27, 28, 29, 30, 31, 32, 33, 34, 35, 36, 37, 38, 39, 40, 41, 42] (st' := St.mk [(2, AV.c (Value.int IntKind.u8 0)), (4, AV.c (Value.int IntKind.i64 (-x - 1))), (5, AV.c (Value.int IntKind.i64 0)), (6, AV.c (Value.int IntKind.i64 3)), (23, AV.c (Value.int IntKind.i64 (-x - 1))), (24, AV.c (Value.int IntKind.i64 2)), (25, AV.c (Value.int IntKind.i64 10)), (26, AV.c (Value.int IntKind.i64 1024)), (27, AV.c (Value.bool (decide (1024 ≤ -x - 1)))), (28, AV.c (Value.int IntKind.i64 2)), (29, AV.c (Value.int IntKind.i64 3))] []) (ps := []) (by kernel_rfl) (.nil) ?_
          refine blockK_n ?_
          refine roundK_n ?_
          refine VCR.next ?_
          refine VC.seq ?_
          refine VC.seq ?_
          refine VC.region (E := E) (C := C0) E_ok mixed (by first | exact fun _ => rfl | exact fun h => by cases h) [2, 4, 5, 6, 23, 24, 25, 26, 27, 28, 29, 30, 31, 32, 33, 34, 35, 36, 37, 38, 39, 40, 41, 42] (st' := St.mk [(2, AV.c (Value.int IntKind.u8 0)), (4, AV.c (Value.int IntKind.i64 (-x - 1))), (5, AV.c (Value.int IntKind.i64 0)), (6, AV.c (Value.int IntKind.i64 3)), (23, AV.c (Value.int IntKind.i64 (-x - 1))), (24, AV.c (Value.int IntKind.i64 3)), (25, AV.c (Value.int IntKind.i64 11)), (26, AV.c (Value.int IntKind.i64 2048)), (27, AV.c (Value.bool (decide (2048 ≤ -x - 1)))), (28, AV.c (Value.int IntKind.i64 2)), (29, AV.c (Value.int IntKind.i64 3))] []) (ps := [Con Try.prog L0 (30 : Nat) [] [AV.c (Value.int IntKind.i64 (11 : Int))] [] (AV.c (Value.int IntKind.i64 (2048 : Int))), true = true ∨ True ∧ ∀ (o : HObj), o ∈ [] → HObj.nr o]) (by kernel_rfl) (.cons (by exact con_power _ (by omega)) (.cons (by simp) (.nil))) ?_
          refine seqK_n ?_
          refine VC.cond (b := decide (2048 ≤ -x - 1)) (by kernel_rfl) (fun h5 => ?_) (fun h5 => ?_)
          ·
            simp at h5
            refine VC.skip ?_
            refine seqK_n ?_
            refine VC.block ?_
            refine VC.region (E := E) (C := C0) E_ok mixed (by first | exact fun _ => rfl | exact fun h => by cases h) [2, 4, 5, 6, 23, 24, 25, 26, 27, 28, 29, 30, 31, 32, 33, 34, 35, 36, 37, 38, 39, 40, 41, 42] (st' := St.mk [(2, AV.c (Value.int IntKind.u8 0)), (4, AV.c (Value.int IntKind.i64 (-x - 1))), (5, AV.c (Value.int IntKind.i64 0)), (6, AV.c (Value.int IntKind.i64 4)), (23, AV.c (Value.int IntKind.i64 (-x - 1))), (24, AV.c (Value.int IntKind.i64 3)), (25, AV.c (Value.int IntKind.i64 11)), (26, AV.c (Value.int IntKind.i64 2048)), (27, AV.c (Value.bool (decide (2048 ≤ -x - 1)))), (28, AV.c (Value.int IntKind.i64 3)), (29, AV.c (Value.int IntKind.i64 4))] []) (ps := []) (by kernel_rfl) (.nil) ?_
            refine blockK_n ?_
            refine roundK_n ?_
            refine VCR.next ?_
            refine VC.seq ?_
            refine VC.seq ?_
            refine VC.region (E := E) (C := C0) E_ok mixed (by first | exact fun _ => rfl | exact fun h => by cases h) [2, 4, 5, 6, 23, 24, 25, 26, 27, 28, 29, 30, 31, 32, 33, 34, 35, 36, 37, 38, 39, 40, 41, 42] (st' := St.mk [(2, AV.c (Value.int IntKind.u8 0)), (4, AV.c (Value.int IntKind.i64 (-x - 1))), (5, AV.c (Value.int IntKind.i64 0)), (6, AV.c (Value.int IntKind.i64 4)), (23, AV.c (Value.int IntKind.i64 (-x - 1))), (24, AV.c (Value.int IntKind.i64 4)), (25, AV.c (Value.int IntKind.i64 12)), (26, AV.c (Value.int IntKind.i64 4096)), (27, AV.c (Value.bool (decide (4096 ≤ -x - 1)))), (28, AV.c (Value.int IntKind.i64 3)), (29, AV.c (Value.int IntKind.i64 4))] []) (ps := [Con Try.prog L0 (30 : Nat) [] [AV.c (Value.int IntKind.i64 (12 : Int))] [] (AV.c (Value.int IntKind.i64 (4096 : Int))), true = true ∨ True ∧ ∀ (o : HObj), o ∈ [] → HObj.nr o]) (by kernel_rfl) (.cons (by exact con_power _ (by omega)) (.cons (by simp) (.nil))) ?_
            refine seqK_n ?_
            refine VC.cond (b := decide (4096 ≤ -x - 1)) (by kernel_rfl) (fun h6 => ?_) (fun h6 => ?_)
            ·
              simp at h6
              refine VC.skip ?_
              refine seqK_n ?_
              refine VC.block ?_
              refine VC.region (E := E) (C := C0) E_ok mixed (by first | exact fun _ => rfl | exact fun h => by cases h) [2, 4, 5, 6, 23, 24, 25, 26, 27, 28, 29, 30, 31, 32, 33, 34, 35, 36, 37, 38, 39, 40, 41, 42] (st' := St.mk [(2, AV.c (Value.int IntKind.u8 0)), (4, AV.c (Value.int IntKind.i64 (-x - 1))), (5, AV.c (Value.int IntKind.i64 0)), (6, AV.c (Value.int IntKind.i64 5)), (23, AV.c (Value.int IntKind.i64 (-x - 1))), (24, AV.c (Value.int IntKind.i64 4)), (25, AV.c (Value.int IntKind.i64 12)), (26, AV.c (Value.int IntKind.i64 4096)), (27, AV.c (Value.bool (decide (4096 ≤ -x - 1)))), (28, AV.c (Value.int IntKind.i64 4)), (29, AV.c (Value.int IntKind.i64 5))] []) (ps := []) (by kernel_rfl) (.nil) ?_
              refine blockK_n ?_
              refine roundK_n ?_
              refine VCR.next ?_
              refine VC.seq ?_
              refine VC.seq ?_
              refine VC.region (E := E) (C := C0) E_ok mixed (by first | exact fun _ => rfl | exact fun h => by cases h) [2, 4, 5, 6, 23, 24, 25, 26, 27, 28, 29, 30, 31, 32, 33, 34, 35, 36, 37, 38, 39, 40, 41, 42] (st' := St.mk [(2, AV.c (Value.int IntKind.u8 0)), (4, AV.c (Value.int IntKind.i64 (-x - 1))), (5, AV.c (Value.int IntKind.i64 0)), (6, AV.c (Value.int IntKind.i64 5)), (23, AV.c (Value.int IntKind.i64 (-x - 1))), (24, AV.c (Value.int IntKind.i64 5)), (25, AV.c (Value.int IntKind.i64 13)), (26, AV.c (Value.int IntKind.i64 8192)), (27, AV.c (Value.bool (decide (8192 ≤ -x - 1)))), (28, AV.c (Value.int IntKind.i64 4)), (29, AV.c (Value.int IntKind.i64 5))] []) (ps := [Con Try.prog L0 (30 : Nat) [] [AV.c (Value.int IntKind.i64 (13 : Int))] [] (AV.c (Value.int IntKind.i64 (8192 : Int))), true = true ∨ True ∧ ∀ (o : HObj), o ∈ [] → HObj.nr o]) (by kernel_rfl) (.cons (by exact con_power _ (by omega)) (.cons (by simp) (.nil))) ?_
              refine seqK_n ?_
              refine VC.cond (b := decide (8192 ≤ -x - 1)) (by kernel_rfl) (fun h7 => ?_) (fun h7 => ?_)
              ·
                simp at h7
                refine VC.skip ?_
                refine seqK_n ?_
                refine VC.block ?_
                refine VC.region (E := E) (C := C0) E_ok mixed (by first | exact fun _ => rfl | exact fun h => by cases h) [2, 4, 5, 6, 23, 24, 25, 26, 27, 28, 29, 30, 31, 32, 33, 34, 35, 36, 37, 38, 39, 40, 41, 42] (st' := St.mk [(2, AV.c (Value.int IntKind.u8 0)), (4, AV.c (Value.int IntKind.i64 (-x - 1))), (5, AV.c (Value.int IntKind.i64 0)), (6, AV.c (Value.int IntKind.i64 6)), (23, AV.c (Value.int IntKind.i64 (-x - 1))), (24, AV.c (Value.int IntKind.i64 5)), (25, AV.c (Value.int IntKind.i64 13)), (26, AV.c (Value.int IntKind.i64 8192)), (27, AV.c (Value.bool (decide (8192 ≤ -x - 1)))), (28, AV.c (Value.int IntKind.i64 5)), (29, AV.c (Value.int IntKind.i64 6))] []) (ps := []) (by kernel_rfl) (.nil) ?_
                refine blockK_n ?_
                refine roundK_n ?_
                refine VCR.next ?_
                refine VC.seq ?_
                refine VC.seq ?_
                refine VC.region (E := E) (C := C0) E_ok mixed (by first | exact fun _ => rfl | exact fun h => by cases h) [2, 4, 5, 6, 23, 24, 25, 26, 27, 28, 29, 30, 31, 32, 33, 34, 35, 36, 37, 38, 39, 40, 41, 42] (st' := St.mk [(2, AV.c (Value.int IntKind.u8 0)), (4, AV.c (Value.int IntKind.i64 (-x - 1))), (5, AV.c (Value.int IntKind.i64 0)), (6, AV.c (Value.int IntKind.i64 6)), (23, AV.c (Value.int IntKind.i64 (-x - 1))), (24, AV.c (Value.int IntKind.i64 6)), (25, AV.c (Value.int IntKind.i64 14)), (26, AV.c (Value.int IntKind.i64 16384)), (27, AV.c (Value.bool (decide (16384 ≤ -x - 1)))), (28, AV.c (Value.int IntKind.i64 5)), (29, AV.c (Value.int IntKind.i64 6))] []) (ps := [Con Try.prog L0 (30 : Nat) [] [AV.c (Value.int IntKind.i64 (14 : Int))] [] (AV.c (Value.int IntKind.i64 (16384 : Int))), true = true ∨ True ∧ ∀ (o : HObj), o ∈ [] → HObj.nr o]) (by kernel_rfl) (.cons (by exact con_power _ (by omega)) (.cons (by simp) (.nil))) ?_
                refine seqK_n ?_
                refine VC.cond (b := decide (16384 ≤ -x - 1)) (by kernel_rfl) (fun h8 => ?_) (fun h8 => ?_)
                ·
                  simp at h8
                  refine VC.skip ?_
                  refine seqK_n ?_
                  refine VC.block ?_
                  refine VC.region (E := E) (C := C0) E_ok mixed (by first | exact fun _ => rfl | exact fun h => by cases h) [2, 4, 5, 6, 23, 24, 25, 26, 27, 28, 29, 30, 31, 32, 33, 34, 35, 36, 37, 38, 39, 40, 41, 42] (st' := St.mk [(2, AV.c (Value.int IntKind.u8 0)), (4, AV.c (Value.int IntKind.i64 (-x - 1))), (5, AV.c (Value.int IntKind.i64 0)), (6, AV.c (Value.int IntKind.i64 7)), (23, AV.c (Value.int IntKind.i64 (-x - 1))), (24, AV.c (Value.int IntKind.i64 6)), (25, AV.c (Value.int IntKind.i64 14)), (26, AV.c (Value.int IntKind.i64 16384)), (27, AV.c (Value.bool (decide (16384 ≤ -x - 1)))), (28, AV.c (Value.int IntKind.i64 6)), (29, AV.c (Value.int IntKind.i64 7))] []) (ps := []) (by kernel_rfl) (.nil) ?_
                  refine blockK_n ?_
                  refine roundK_n ?_
                  refine VCR.next ?_
                  refine VC.seq ?_
                  refine VC.seq ?_
                  refine VC.region (E := E) (C := C0) E_ok mixed (by first | exact fun _ => rfl | exact fun h => by cases h) [2, 4, 5, 6, 23, 24, 25, 26, 27, 28, 29, 30, 31, 32, 33, 34, 35, 36, 37, 38, 39, 40, 41, 42] (st' := St.mk [(2, AV.c (Value.int IntKind.u8 0)), (4, AV.c (Value.int IntKind.i64 (-x - 1))), (5, AV.c (Value.int IntKind.i64 0)), (6, AV.c (Value.int IntKind.i64 7)), (23, AV.c (Value.int IntKind.i64 (-x - 1))), (24, AV.c (Value.int IntKind.i64 7)), (25, AV.c (Value.int IntKind.i64 15)), (26, AV.c (Value.int IntKind.i64 32768)), (27, AV.c (Value.bool (decide (32768 ≤ -x - 1)))), (28, AV.c (Value.int IntKind.i64 6)), (29, AV.c (Value.int IntKind.i64 7))] []) (ps := [Con Try.prog L0 (30 : Nat) [] [AV.c (Value.int IntKind.i64 (15 : Int))] [] (AV.c (Value.int IntKind.i64 (32768 : Int))), true = true ∨ True ∧ ∀ (o : HObj), o ∈ [] → HObj.nr o]) (by kernel_rfl) (.cons (by exact con_power _ (by omega)) (.cons (by simp) (.nil))) ?_
                  refine seqK_n ?_
                  refine VC.cond (b := decide (32768 ≤ -x - 1)) (by kernel_rfl) (fun h9 => ?_) (fun h9 => ?_)
                  ·
                    simp at h9
                    (exfalso; omega)
                  ·
                    simp at h9
                    refine VC.exit ?_
                    refine seqK_x ?_
                    refine roundK_x ?_
                    refine blockK_x ?_
                    refine seqK_n ?_
                    refine VC.seq ?_
                    refine VC.regionE (E := E) (C := C0) E_ok mixed (by first | exact fun _ => rfl | exact fun h => by cases h) [2] (st' := St.mk [(2, AV.c (Value.int IntKind.u8 (ixor IntKind.u8 (IntKind.wrap IntKind.u8 (IntKind.wrap IntKind.i64 (IntKind.wrap IntKind.i64 (112 + Int.tmod (IntKind.wrap IntKind.i64 (Int.tdiv (-x - 1) 1024)) 16) + 0))) 85)))] []) (ps := [Con Try.prog L0 (30 : Nat) [] [AV.c (Value.int IntKind.i64 (10 : Int))] [] (AV.c (Value.int IntKind.i64 (1024 : Int))), true = true ∨ True ∧ ∀ (o : HObj), o ∈ [] → HObj.nr o, (1024 : Int) ≠ (0 : Int), (16 : Int) ≠ (0 : Int)]) (by kernel_rfl) (.cons (by exact con_power _ (by omega)) (.cons (by simp) (.cons (by trivial) (.cons (by trivial) (.nil))))) (st'' := St.mk [(2, AV.c (Value.int IntKind.u8 (ixor IntKind.u8 (112 + (-x - 1) / 1024 % 16) 85)))] []) (by simp (disch := omega) only [wrap_i8, wrap_i16, wrap_i32, wrap_i64, wrap_u8, wrap_u16, wrap_u32, wrap_u64, Int.tdiv_eq_ediv_of_nonneg, Int.tmod_eq_emod_of_nonneg, Int.toNat_natCast, Int.reduceToNat, Nat.mul_one, Nat.zero_add, Nat.add_zero, Nat.one_mul, Int.one_mul, Int.zero_add, Int.add_zero, Int.mul_one, List.drop_zero, List.take_length, Int.zero_sub]) ?_
                    refine seqK_n ?_
                    refine VC.ret ?_
                    exact Fin.all [] (.inr rfl) (l := [AV.c (Value.int IntKind.u8 (ixor IntKind.u8 (112 + (-x - 1) / 1024 % 16) 85))]) (ps := []) (by kernel_rfl) (by kernel_rfl) (.nil) (All.of (l' := []) (by kernel_rfl) (.nil)) (show AV.c (Value.int IntKind.u8 (ixor IntKind.u8 (112 + (-x - 1) / 1024 % 16) 85)) = AV.c (Value.int IntKind.u8 (Sp.a x)) by refine cong1 (congrArg (fun y => ixor .u8 y 85) ?_); simp (disch := omega) only [Sp.a0, Sp.expo, Sp.shr3, Sp.mg2, if_pos, if_neg]; omega)
                ·
                  simp at h8
                  refine VC.exit ?_
                  refine seqK_x ?_
                  refine roundK_x ?_
                  refine blockK_x ?_
                  refine seqK_n ?_
                  refine VC.seq ?_
                  refine VC.regionE (E := E) (C := C0) E_ok mixed (by first | exact fun _ => rfl | exact fun h => by cases h) [2] (st' := St.mk [(2, AV.c (Value.int IntKind.u8 (ixor IntKind.u8 (IntKind.wrap IntKind.u8 (IntKind.wrap IntKind.i64 (IntKind.wrap IntKind.i64 (96 + Int.tmod (IntKind.wrap IntKind.i64 (Int.tdiv (-x - 1) 512)) 16) + 0))) 85)))] []) (ps := [Con Try.prog L0 (30 : Nat) [] [AV.c (Value.int IntKind.i64 (9 : Int))] [] (AV.c (Value.int IntKind.i64 (512 : Int))), true = true ∨ True ∧ ∀ (o : HObj), o ∈ [] → HObj.nr o, (512 : Int) ≠ (0 : Int), (16 : Int) ≠ (0 : Int)]) (by kernel_rfl) (.cons (by exact con_power _ (by omega)) (.cons (by simp) (.cons (by trivial) (.cons (by trivial) (.nil))))) (st'' := St.mk [(2, AV.c (Value.int IntKind.u8 (ixor IntKind.u8 (96 + (-x - 1) / 512 % 16) 85)))] []) (by simp (disch := omega) only [wrap_i8, wrap_i16, wrap_i32, wrap_i64, wrap_u8, wrap_u16, wrap_u32, wrap_u64, Int.tdiv_eq_ediv_of_nonneg, Int.tmod_eq_emod_of_nonneg, Int.toNat_natCast, Int.reduceToNat, Nat.mul_one, Nat.zero_add, Nat.add_zero, Nat.one_mul, Int.one_mul, Int.zero_add, Int.add_zero, Int.mul_one, List.drop_zero, List.take_length, Int.zero_sub]) ?_
                  refine seqK_n ?_
                  refine VC.ret ?_
                  exact Fin.all [] (.inr rfl) (l := [AV.c (Value.int IntKind.u8 (ixor IntKind.u8 (96 + (-x - 1) / 512 % 16) 85))]) (ps := []) (by kernel_rfl) (by kernel_rfl) (.nil) (All.of (l' := []) (by kernel_rfl) (.nil)) (show AV.c (Value.int IntKind.u8 (ixor IntKind.u8 (96 + (-x - 1) / 512 % 16) 85)) = AV.c (Value.int IntKind.u8 (Sp.a x)) by refine cong1 (congrArg (fun y => ixor .u8 y 85) ?_); simp (disch := omega) only [Sp.a0, Sp.expo, Sp.shr3, Sp.mg2, if_pos, if_neg]; omega)
              ·
                simp at h7
                refine VC.exit ?_
                refine seqK_x ?_
                refine roundK_x ?_
                refine blockK_x ?_
                refine seqK_n ?_
                refine VC.seq ?_
                refine VC.regionE (E := E) (C := C0) E_ok mixed (by first | exact fun _ => rfl | exact fun h => by cases h) [2] (st' := St.mk [(2, AV.c (Value.int IntKind.u8 (ixor IntKind.u8 (IntKind.wrap IntKind.u8 (IntKind.wrap IntKind.i64 (IntKind.wrap IntKind.i64 (80 + Int.tmod (IntKind.wrap IntKind.i64 (Int.tdiv (-x - 1) 256)) 16) + 0))) 85)))] []) (ps := [Con Try.prog L0 (30 : Nat) [] [AV.c (Value.int IntKind.i64 (8 : Int))] [] (AV.c (Value.int IntKind.i64 (256 : Int))), true = true ∨ True ∧ ∀ (o : HObj), o ∈ [] → HObj.nr o, (256 : Int) ≠ (0 : Int), (16 : Int) ≠ (0 : Int)]) (by kernel_rfl) (.cons (by exact con_power _ (by omega)) (.cons (by simp) (.cons (by trivial) (.cons (by trivial) (.nil))))) (st'' := St.mk [(2, AV.c (Value.int IntKind.u8 (ixor IntKind.u8 (80 + (-x - 1) / 256 % 16) 85)))] []) (by simp (disch := omega) only [wrap_i8, wrap_i16, wrap_i32, wrap_i64, wrap_u8, wrap_u16, wrap_u32, wrap_u64, Int.tdiv_eq_ediv_of_nonneg, Int.tmod_eq_emod_of_nonneg, Int.toNat_natCast, Int.reduceToNat, Nat.mul_one, Nat.zero_add, Nat.add_zero, Nat.one_mul, Int.one_mul, Int.zero_add, Int.add_zero, Int.mul_one, List.drop_zero, List.take_length, Int.zero_sub]) ?_
                refine seqK_n ?_
                refine VC.ret ?_
                exact Fin.all [] (.inr rfl) (l := [AV.c (Value.int IntKind.u8 (ixor IntKind.u8 (80 + (-x - 1) / 256 % 16) 85))]) (ps := []) (by kernel_rfl) (by kernel_rfl) (.nil) (All.of (l' := []) (by kernel_rfl) (.nil)) (show AV.c (Value.int IntKind.u8 (ixor IntKind.u8 (80 + (-x - 1) / 256 % 16) 85)) = AV.c (Value.int IntKind.u8 (Sp.a x)) by refine cong1 (congrArg (fun y => ixor .u8 y 85) ?_); simp (disch := omega) only [Sp.a0, Sp.expo, Sp.shr3, Sp.mg2, if_pos, if_neg]; omega)
            ·
              simp at h6
              refine VC.exit ?_
              refine seqK_x ?_
              refine roundK_x ?_
              refine blockK_x ?_
              refine seqK_n ?_
              refine VC.seq ?_
              refine VC.regionE (E := E) (C := C0) E_ok mixed (by first | exact fun _ => rfl | exact fun h => by cases h) [2] (st' := St.mk [(2, AV.c (Value.int IntKind.u8 (ixor IntKind.u8 (IntKind.wrap IntKind.u8 (IntKind.wrap IntKind.i64 (IntKind.wrap IntKind.i64 (64 + Int.tmod (IntKind.wrap IntKind.i64 (Int.tdiv (-x - 1) 128)) 16) + 0))) 85)))] []) (ps := [Con Try.prog L0 (30 : Nat) [] [AV.c (Value.int IntKind.i64 (7 : Int))] [] (AV.c (Value.int IntKind.i64 (128 : Int))), true = true ∨ True ∧ ∀ (o : HObj), o ∈ [] → HObj.nr o, (128 : Int) ≠ (0 : Int), (16 : Int) ≠ (0 : Int)]) (by kernel_rfl) (.cons (by exact con_power _ (by omega)) (.cons (by simp) (.cons (by trivial) (.cons (by trivial) (.nil))))) (st'' := St.mk [(2, AV.c (Value.int IntKind.u8 (ixor IntKind.u8 (64 + (-x - 1) / 128 % 16) 85)))] []) (by simp (disch := omega) only [wrap_i8, wrap_i16, wrap_i32, wrap_i64, wrap_u8, wrap_u16, wrap_u32, wrap_u64, Int.tdiv_eq_ediv_of_nonneg, Int.tmod_eq_emod_of_nonneg, Int.toNat_natCast, Int.reduceToNat, Nat.mul_one, Nat.zero_add, Nat.add_zero, Nat.one_mul, Int.one_mul, Int.zero_add, Int.add_zero, Int.mul_one, List.drop_zero, List.take_length, Int.zero_sub]) ?_
              refine seqK_n ?_
              refine VC.ret ?_
              exact Fin.all [] (.inr rfl) (l := [AV.c (Value.int IntKind.u8 (ixor IntKind.u8 (64 + (-x - 1) / 128 % 16) 85))]) (ps := []) (by kernel_rfl) (by kernel_rfl) (.nil) (All.of (l' := []) (by kernel_rfl) (.nil)) (show AV.c (Value.int IntKind.u8 (ixor IntKind.u8 (64 + (-x - 1) / 128 % 16) 85)) = AV.c (Value.int IntKind.u8 (Sp.a x)) by refine cong1 (congrArg (fun y => ixor .u8 y 85) ?_); simp (disch := omega) only [Sp.a0, Sp.expo, Sp.shr3, Sp.mg2, if_pos, if_neg]; omega)
          ·
            simp at h5
            refine VC.exit ?_
            refine seqK_x ?_
            refine roundK_x ?_
            refine blockK_x ?_
            refine seqK_n ?_
            refine VC.seq ?_
            refine VC.regionE (E := E) (C := C0) E_ok mixed (by first | exact fun _ => rfl | exact fun h => by cases h) [2] (st' := St.mk [(2, AV.c (Value.int IntKind.u8 (ixor IntKind.u8 (IntKind.wrap IntKind.u8 (IntKind.wrap IntKind.i64 (IntKind.wrap IntKind.i64 (48 + Int.tmod (IntKind.wrap IntKind.i64 (Int.tdiv (-x - 1) 64)) 16) + 0))) 85)))] []) (ps := [Con Try.prog L0 (30 : Nat) [] [AV.c (Value.int IntKind.i64 (6 : Int))] [] (AV.c (Value.int IntKind.i64 (64 : Int))), true = true ∨ True ∧ ∀ (o : HObj), o ∈ [] → HObj.nr o, (64 : Int) ≠ (0 : Int), (16 : Int) ≠ (0 : Int)]) (by kernel_rfl) (.cons (by exact con_power _ (by omega)) (.cons (by simp) (.cons (by trivial) (.cons (by trivial) (.nil))))) (st'' := St.mk [(2, AV.c (Value.int IntKind.u8 (ixor IntKind.u8 (48 + (-x - 1) / 64 % 16) 85)))] []) (by simp (disch := omega) only [wrap_i8, wrap_i16, wrap_i32, wrap_i64, wrap_u8, wrap_u16, wrap_u32, wrap_u64, Int.tdiv_eq_ediv_of_nonneg, Int.tmod_eq_emod_of_nonneg, Int.toNat_natCast, Int.reduceToNat, Nat.mul_one, Nat.zero_add, Nat.add_zero, Nat.one_mul, Int.one_mul, Int.zero_add, Int.add_zero, Int.mul_one, List.drop_zero, List.take_length, Int.zero_sub]) ?_
            refine seqK_n ?_
            refine VC.ret ?_
            exact Fin.all [] (.inr rfl) (l := [AV.c (Value.int IntKind.u8 (ixor IntKind.u8 (48 + (-x - 1) / 64 % 16) 85))]) (ps := []) (by kernel_rfl) (by kernel_rfl) (.nil) (All.of (l' := []) (by kernel_rfl) (.nil)) (show AV.c (Value.int IntKind.u8 (ixor IntKind.u8 (48 + (-x - 1) / 64 % 16) 85)) = AV.c (Value.int IntKind.u8 (Sp.a x)) by refine cong1 (congrArg (fun y => ixor .u8 y 85) ?_); simp (disch := omega) only [Sp.a0, Sp.expo, Sp.shr3, Sp.mg2, if_pos, if_neg]; omega)
        ·
          simp at h4
          refine VC.exit ?_
          refine seqK_x ?_
          refine roundK_x ?_
          refine blockK_x ?_
          refine seqK_n ?_
          refine VC.seq ?_
          refine VC.regionE (E := E) (C := C0) E_ok mixed (by first | exact fun _ => rfl | exact fun h => by cases h) [2] (st' := St.mk [(2, AV.c (Value.int IntKind.u8 (ixor IntKind.u8 (IntKind.wrap IntKind.u8 (IntKind.wrap IntKind.i64 (IntKind.wrap IntKind.i64 (32 + Int.tmod (IntKind.wrap IntKind.i64 (Int.tdiv (-x - 1) 32)) 16) + 0))) 85)))] []) (ps := [Con Try.prog L0 (30 : Nat) [] [AV.c (Value.int IntKind.i64 (5 : Int))] [] (AV.c (Value.int IntKind.i64 (32 : Int))), true = true ∨ True ∧ ∀ (o : HObj), o ∈ [] → HObj.nr o, (32 : Int) ≠ (0 : Int), (16 : Int) ≠ (0 : Int)]) (by kernel_rfl) (.cons (by exact con_power _ (by omega)) (.cons (by simp) (.cons (by trivial) (.cons (by trivial) (.nil))))) (st'' := St.mk [(2, AV.c (Value.int IntKind.u8 (ixor IntKind.u8 (32 + (-x - 1) / 32 % 16) 85)))] []) (by simp (disch := omega) only [wrap_i8, wrap_i16, wrap_i32, wrap_i64, wrap_u8, wrap_u16, wrap_u32, wrap_u64, Int.tdiv_eq_ediv_of_nonneg, Int.tmod_eq_emod_of_nonneg, Int.toNat_natCast, Int.reduceToNat, Nat.mul_one, Nat.zero_add, Nat.add_zero, Nat.one_mul, Int.one_mul, Int.zero_add, Int.add_zero, Int.mul_one, List.drop_zero, List.take_length, Int.zero_sub]) ?_
          refine seqK_n ?_
          refine VC.ret ?_
          exact Fin.all [] (.inr rfl) (l := [AV.c (Value.int IntKind.u8 (ixor IntKind.u8 (32 + (-x - 1) / 32 % 16) 85))]) (ps := []) (by kernel_rfl) (by kernel_rfl) (.nil) (All.of (l' := []) (by kernel_rfl) (.nil)) (show AV.c (Value.int IntKind.u8 (ixor IntKind.u8 (32 + (-x - 1) / 32 % 16) 85)) = AV.c (Value.int IntKind.u8 (Sp.a x)) by refine cong1 (congrArg (fun y => ixor .u8 y 85) ?_); simp (disch := omega) only [Sp.a0, Sp.expo, Sp.shr3, Sp.mg2, if_pos, if_neg]; omega)
      ·
        simp at h3
        refine VC.exit ?_
        refine seqK_x ?_
        refine roundK_x ?_
        refine blockK_x ?_
        refine seqK_n ?_
        refine VC.seq ?_
        refine VC.regionE (E := E) (C := C0) E_ok mixed (by first | exact fun _ => rfl | exact fun h => by cases h) [2] (st' := St.mk [(2, AV.c (Value.int IntKind.u8 (ixor IntKind.u8 (IntKind.wrap IntKind.u8 (IntKind.wrap IntKind.i64 (IntKind.wrap IntKind.i64 (16 + Int.tmod (IntKind.wrap IntKind.i64 (Int.tdiv (-x - 1) 16)) 16) + 0))) 85)))] []) (ps := [Con Try.prog L0 (30 : Nat) [] [AV.c (Value.int IntKind.i64 (4 : Int))] [] (AV.c (Value.int IntKind.i64 (16 : Int))), true = true ∨ True ∧ ∀ (o : HObj), o ∈ [] → HObj.nr o, (16 : Int) ≠ (0 : Int), (16 : Int) ≠ (0 : Int)]) (by kernel_rfl) (.cons (by exact con_power _ (by omega)) (.cons (by simp) (.cons (by trivial) (.cons (by trivial) (.nil))))) (st'' := St.mk [(2, AV.c (Value.int IntKind.u8 (ixor IntKind.u8 (16 + (-x - 1) / 16 % 16) 85)))] []) (by simp (disch := omega) only [wrap_i8, wrap_i16, wrap_i32, wrap_i64, wrap_u8, wrap_u16, wrap_u32, wrap_u64, Int.tdiv_eq_ediv_of_nonneg, Int.tmod_eq_emod_of_nonneg, Int.toNat_natCast, Int.reduceToNat, Nat.mul_one, Nat.zero_add, Nat.add_zero, Nat.one_mul, Int.one_mul, Int.zero_add, Int.add_zero, Int.mul_one, List.drop_zero, List.take_length, Int.zero_sub]) ?_
        refine seqK_n ?_
        refine VC.ret ?_
        exact Fin.all [] (.inr rfl) (l := [AV.c (Value.int IntKind.u8 (ixor IntKind.u8 (16 + (-x - 1) / 16 % 16) 85))]) (ps := []) (by kernel_rfl) (by kernel_rfl) (.nil) (All.of (l' := []) (by kernel_rfl) (.nil)) (show AV.c (Value.int IntKind.u8 (ixor IntKind.u8 (16 + (-x - 1) / 16 % 16) 85)) = AV.c (Value.int IntKind.u8 (Sp.a x)) by refine cong1 (congrArg (fun y => ixor .u8 y 85) ?_); simp (disch := omega) only [Sp.a0, Sp.expo, Sp.shr3, Sp.mg2, if_pos, if_neg]; omega)
  ·
    simp at h1
    refine VC.skip ?_
    refine seqK_n ?_
    refine VC.seq ?_
    refine VC.seq ?_
    refine VC.region (E := E) (C := C0) E_ok mixed (by first | exact fun _ => rfl | exact fun h => by cases h) [2, 4, 5, 6, 16, 17, 18, 19, 20, 21, 22, 23, 24, 25, 26, 27, 28, 29, 30, 31, 32, 33, 34, 35, 36, 37, 38, 39, 40, 41, 42] (st' := St.mk [(2, AV.c (Value.int IntKind.u8 0)), (4, AV.c (Value.int IntKind.i64 x)), (5, AV.c (Value.int IntKind.i64 128)), (16, AV.c (Value.bool (decide (x < 256))))] []) (ps := []) (by kernel_rfl) (.nil) ?_
    refine seqK_n ?_
    refine VC.cond (b := decide (x < 256)) (by kernel_rfl) (fun h10 => ?_) (fun h10 => ?_)
    ·
      simp at h10
      refine VC.seq ?_
      refine VC.regionE (E := E) (C := C0) E_ok mixed (by first | exact fun _ => rfl | exact fun h => by cases h) [2, 4, 5, 6, 23, 24, 25, 26, 27, 28, 29, 30, 31, 32, 33, 34, 35, 36, 37, 38, 39, 40, 41, 42] (st' := St.mk [(2, AV.c (Value.int IntKind.u8 (ixor IntKind.u8 (IntKind.wrap IntKind.u8 (IntKind.wrap IntKind.i64 (IntKind.wrap IntKind.i64 (Int.tdiv x 16) + 128))) 85))), (4, AV.c (Value.int IntKind.i64 x)), (5, AV.c (Value.int IntKind.i64 128))] []) (ps := [(16 : Int) ≠ (0 : Int)]) (by kernel_rfl) (.cons (by trivial) (.nil)) (st'' := St.mk [(2, AV.c (Value.int IntKind.u8 (ixor IntKind.u8 (x / 16 + 128) 85))), (4, AV.c (Value.int IntKind.i64 x)), (5, AV.c (Value.int IntKind.i64 128))] []) (by simp (disch := omega) only [wrap_i8, wrap_i16, wrap_i32, wrap_i64, wrap_u8, wrap_u16, wrap_u32, wrap_u64, Int.tdiv_eq_ediv_of_nonneg, Int.tmod_eq_emod_of_nonneg, Int.toNat_natCast, Int.reduceToNat, Nat.mul_one, Nat.zero_add, Nat.add_zero, Nat.one_mul, Int.one_mul, Int.zero_add, Int.add_zero, Int.mul_one, List.drop_zero, List.take_length, Int.zero_sub]) ?_
      refine seqK_n ?_
      refine VC.ret ?_
      refine seqK_r ?_
      exact Fin.all [] (.inr rfl) (l := [AV.c (Value.int IntKind.u8 (ixor IntKind.u8 (x / 16 + 128) 85))]) (ps := []) (by kernel_rfl) (by kernel_rfl) (.nil) (All.of (l' := []) (by kernel_rfl) (.nil)) (show AV.c (Value.int IntKind.u8 (ixor IntKind.u8 (x / 16 + 128) 85)) = AV.c (Value.int IntKind.u8 (Sp.a x)) by refine cong1 (congrArg (fun y => ixor .u8 y 85) ?_); simp (disch := omega) only [Sp.a0, Sp.expo, Sp.shr3, Sp.mg2, if_pos, if_neg]; omega)
    ·
      simp at h10
      refine VC.skip ?_
      refine seqK_n ?_
      refine VC.seq ?_
      refine VC.region (E := E) (C := C0) E_ok mixed (by first | exact fun _ => rfl | exact fun h => by cases h) [2, 4, 5, 6, 23, 24, 25, 26, 27, 28, 29, 30, 31, 32, 33, 34, 35, 36, 37, 38, 39, 40, 41, 42] (st' := St.mk [(2, AV.c (Value.int IntKind.u8 0)), (4, AV.c (Value.int IntKind.i64 x)), (5, AV.c (Value.int IntKind.i64 128)), (6, AV.c (Value.int IntKind.i64 1))] []) (ps := []) (by kernel_rfl) (.nil) ?_
      refine seqK_n ?_
      refine VC.seq ?_
      refine VC.block ?_
      refine VC.rounds 1000 ?_
      refine VCR.next ?_
      refine VC.seq ?_
      refine VC.seq ?_
      refine VC.region (E := E) (C := C0) E_ok mixed (by first | exact fun _ => rfl | exact fun h => by cases h) [2, 4, 5, 6, 23, 24, 25, 26, 27, 28, 29, 30, 31, 32, 33, 34, 35, 36, 37, 38, 39, 40, 41, 42] (st' := St.mk [(2, AV.c (Value.int IntKind.u8 0)), (4, AV.c (Value.int IntKind.i64 x)), (5, AV.c (Value.int IntKind.i64 128)), (6, AV.c (Value.int IntKind.i64 1)), (23, AV.c (Value.int IntKind.i64 x)), (24, AV.c (Value.int IntKind.i64 1)), (25, AV.c (Value.int IntKind.i64 9)), (26, AV.c (Value.int IntKind.i64 512)), (27, AV.c (Value.bool (decide (512 ≤ x))))] []) (ps := [Con Try.prog L0 (30 : Nat) [] [AV.c (Value.int IntKind.i64 (9 : Int))] [] (AV.c (Value.int IntKind.i64 (512 : Int))), true = true ∨ True ∧ ∀ (o : HObj), o ∈ [] → HObj.nr o]) (by kernel_rfl) (.cons (by exact con_power _ (by omega)) (.cons (by simp) (.nil))) ?_
      refine seqK_n ?_
      refine VC.cond (b := decide (512 ≤ x)) (by kernel_rfl) (fun h11 => ?_) (fun h11 => ?_)
      ·
        simp at h11
        refine VC.skip ?_
        refine seqK_n ?_
        refine VC.block ?_
        refine VC.region (E := E) (C := C0) E_ok mixed (by first | exact fun _ => rfl | exact fun h => by cases h) [2, 4, 5, 6, 23, 24, 25, 26, 27, 28, 29, 30, 31, 32, 33, 34, 35, 36, 37, 38, 39, 40, 41, 42] (st' := St.mk [(2, AV.c (Value.int IntKind.u8 0)), (4, AV.c (Value.int IntKind.i64 x)), (5, AV.c (Value.int IntKind.i64 128)), (6, AV.c (Value.int IntKind.i64 2)), (23, AV.c (Value.int IntKind.i64 x)), (24, AV.c (Value.int IntKind.i64 1)), (25, AV.c (Value.int IntKind.i64 9)), (26, AV.c (Value.int IntKind.i64 512)), (27, AV.c (Value.bool (decide (512 ≤ x)))), (28, AV.c (Value.int IntKind.i64 1)), (29, AV.c (Value.int IntKind.i64 2))] []) (ps := []) (by kernel_rfl) (.nil) ?_
        refine blockK_n ?_
        refine roundK_n ?_
        refine VCR.next ?_
        refine VC.seq ?_
        refine VC.seq ?_
        refine VC.region (E := E) (C := C0) E_ok mixed (by first | exact fun _ => rfl | exact fun h => by cases h) [2, 4, 5, 6, 23, 24, 25, 26, 27, 28, 29, 30, 31, 32, 33, 34, 35, 36, 37, 38, 39, 40, 41, 42] (st' := St.mk [(2, AV.c (Value.int IntKind.u8 0)), (4, AV.c (Value.int IntKind.i64 x)), (5, AV.c (Value.int IntKind.i64 128)), (6, AV.c (Value.int IntKind.i64 2)), (23, AV.c (Value.int IntKind.i64 x)), (24, AV.c (Value.int IntKind.i64 2)), (25, AV.c (Value.int IntKind.i64 10)), (26, AV.c (Value.int IntKind.i64 1024)), (27, AV.c (Value.bool (decide (1024 ≤ x)))), (28, AV.c (Value.int IntKind.i64 1)), (29, AV.c (Value.int IntKind.i64 2))] []) (ps := [Con Try.prog L0 (30 : Nat) [] [AV.c (Value.int IntKind.i64 (10 : Int))] [] (AV.c (Value.int IntKind.i64 (1024 : Int))), true = true ∨ True ∧ ∀ (o : HObj), o ∈ [] → HObj.nr o]) (by kernel_rfl) (.cons (by exact con_power _ (by omega)) (.cons (by simp) (.nil))) ?_
        refine seqK_n ?_
        refine VC.cond (b := decide (1024 ≤ x)) (by kernel_rfl) (fun h12 => ?_) (fun h12 => ?_)
        ·
          simp at h12
          refine VC.skip ?_
          refine seqK_n ?_
          refine VC.block ?_
          refine VC.region (E := E) (C := C0) E_ok mixed (by first | exact fun _ => rfl | exact fun h => by cases h) [2, 4, 5, 6, 23, 24, 25, 26, 27, 28, 29, 30, 31, 32, 33, 34, 35, 36, 37, 38, 39, 40, 41, 42] (st' := St.mk [(2, AV.c (Value.int IntKind.u8 0)), (4, AV.c (Value.int IntKind.i64 x)), (5, AV.c (Value.int IntKind.i64 128)), (6, AV.c (Value.int IntKind.i64 3)), (23, AV.c (Value.int IntKind.i64 x)), (24, AV.c (Value.int IntKind.i64 2)), (25, AV.c (Value.int IntKind.i64 10)), (26, AV.c (Value.int IntKind.i64 1024)), (27, AV.c (Value.bool (decide (1024 ≤ x)))), (28, AV.c (Value.int IntKind.i64 2)), (29, AV.c (Value.int IntKind.i64 3))] []) (ps := []) (by kernel_rfl) (.nil) ?_
          refine blockK_n ?_
          refine roundK_n ?_
          refine VCR.next ?_
          refine VC.seq ?_
          refine VC.seq ?_
          refine VC.region (E := E) (C := C0) E_ok mixed (by first | exact fun _ => rfl | exact fun h => by cases h) [2, 4, 5, 6, 23, 24, 25, 26, 27, 28, 29, 30, 31, 32, 33, 34, 35, 36, 37, 38, 39, 40, 41, 42] (st' := St.mk [(2, AV.c (Value.int IntKind.u8 0)), (4, AV.c (Value.int IntKind.i64 x)), (5, AV.c (Value.int IntKind.i64 128)), (6, AV.c (Value.int IntKind.i64 3)), (23, AV.c (Value.int IntKind.i64 x)), (24, AV.c (Value.int IntKind.i64 3)), (25, AV.c (Value.int IntKind.i64 11)), (26, AV.c (Value.int IntKind.i64 2048)), (27, AV.c (Value.bool (decide (2048 ≤ x)))), (28, AV.c (Value.int IntKind.i64 2)), (29, AV.c (Value.int IntKind.i64 3))] []) (ps := [Con Try.prog L0 (30 : Nat) [] [AV.c (Value.int IntKind.i64 (11 : Int))] [] (AV.c (Value.int IntKind.i64 (2048 : Int))), true = true ∨ True ∧ ∀ (o : HObj), o ∈ [] → HObj.nr o]) (by kernel_rfl) (.cons (by exact con_power _ (by omega)) (.cons (by simp) (.nil))) ?_
          refine seqK_n ?_
          refine VC.cond (b := decide (2048 ≤ x)) (by kernel_rfl) (fun h13 => ?_) (fun h13 => ?_)
          ·
            simp at h13
            refine VC.skip ?_
            refine seqK_n ?_
            refine VC.block ?_
            refine VC.region (E := E) (C := C0) E_ok mixed (by first | exact fun _ => rfl | exact fun h => by cases h) [2, 4, 5, 6, 23, 24, 25, 26, 27, 28, 29, 30, 31, 32, 33, 34, 35, 36, 37, 38, 39, 40, 41, 42] (st' := St.mk [(2, AV.c (Value.int IntKind.u8 0)), (4, AV.c (Value.int IntKind.i64 x)), (5, AV.c (Value.int IntKind.i64 128)), (6, AV.c (Value.int IntKind.i64 4)), (23, AV.c (Value.int IntKind.i64 x)), (24, AV.c (Value.int IntKind.i64 3)), (25, AV.c (Value.int IntKind.i64 11)), (26, AV.c (Value.int IntKind.i64 2048)), (27, AV.c (Value.bool (decide (2048 ≤ x)))), (28, AV.c (Value.int IntKind.i64 3)), (29, AV.c (Value.int IntKind.i64 4))] []) (ps := []) (by kernel_rfl) (.nil) ?_
            refine blockK_n ?_
            refine roundK_n ?_
            refine VCR.next ?_
            refine VC.seq ?_
            refine VC.seq ?_
            refine VC.region (E := E) (C := C0) E_ok mixed (by first | exact fun _ => rfl | exact fun h => by cases h) [2, 4, 5, 6, 23, 24, 25, 26, 27, 28, 29, 30, 31, 32, 33, 34, 35, 36, 37, 38, 39, 40, 41, 42] (st' := St.mk [(2, AV.c (Value.int IntKind.u8 0)), (4, AV.c (Value.int IntKind.i64 x)), (5, AV.c (Value.int IntKind.i64 128)), (6, AV.c (Value.int IntKind.i64 4)), (23, AV.c (Value.int IntKind.i64 x)), (24, AV.c (Value.int IntKind.i64 4)), (25, AV.c (Value.int IntKind.i64 12)), (26, AV.c (Value.int IntKind.i64 4096)), (27, AV.c (Value.bool (decide (4096 ≤ x)))), (28, AV.c (Value.int IntKind.i64 3)), (29, AV.c (Value.int IntKind.i64 4))] []) (ps := [Con Try.prog L0 (30 : Nat) [] [AV.c (Value.int IntKind.i64 (12 : Int))] [] (AV.c (Value.int IntKind.i64 (4096 : Int))), true = true ∨ True ∧ ∀ (o : HObj), o ∈ [] → HObj.nr o]) (by kernel_rfl) (.cons (by exact con_power _ (by omega)) (.cons (by simp) (.nil))) ?_
            refine seqK_n ?_
            refine VC.cond (b := decide (4096 ≤ x)) (by kernel_rfl) (fun h14 => ?_) (fun h14 => ?_)
            ·
              simp at h14
              refine VC.skip ?_
              refine seqK_n ?_
              refine VC.block ?_
              refine VC.region (E := E) (C := C0) E_ok mixed (by first | exact fun _ => rfl | exact fun h => by cases h) [2, 4, 5, 6, 23, 24, 25, 26, 27, 28, 29, 30, 31, 32, 33, 34, 35, 36, 37, 38, 39, 40, 41, 42] (st' := St.mk [(2, AV.c (Value.int IntKind.u8 0)), (4, AV.c (Value.int IntKind.i64 x)), (5, AV.c (Value.int IntKind.i64 128)), (6, AV.c (Value.int IntKind.i64 5)), (23, AV.c (Value.int IntKind.i64 x)), (24, AV.c (Value.int IntKind.i64 4)), (25, AV.c (Value.int IntKind.i64 12)), (26, AV.c (Value.int IntKind.i64 4096)), (27, AV.c (Value.bool (decide (4096 ≤ x)))), (28, AV.c (Value.int IntKind.i64 4)), (29, AV.c (Value.int IntKind.i64 5))] []) (ps := []) (by kernel_rfl) (.nil) ?_
              refine blockK_n ?_
              refine roundK_n ?_
              refine VCR.next ?_
              refine VC.seq ?_
              refine VC.seq ?_
              refine VC.region (E := E) (C := C0) E_ok mixed (by first | exact fun _ => rfl | exact fun h => by cases h) [2, 4, 5, 6, 23, 24, 25, 26, 27, 28, 29, 30, 31, 32, 33, 34, 35, 36, 37, 38, 39, 40, 41, 42] (st' := St.mk [(2, AV.c (Value.int IntKind.u8 0)), (4, AV.c (Value.int IntKind.i64 x)), (5, AV.c (Value.int IntKind.i64 128)), (6, AV.c (Value.int IntKind.i64 5)), (23, AV.c (Value.int IntKind.i64 x)), (24, AV.c (Value.int IntKind.i64 5)), (25, AV.c (Value.int IntKind.i64 13)), (26, AV.c (Value.int IntKind.i64 8192)), (27, AV.c (Value.bool (decide (8192 ≤ x)))), (28, AV.c (Value.int IntKind.i64 4)), (29, AV.c (Value.int IntKind.i64 5))] []) (ps := [Con Try.prog L0 (30 : Nat) [] [AV.c (Value.int IntKind.i64 (13 : Int))] [] (AV.c (Value.int IntKind.i64 (8192 : Int))), true = true ∨ True ∧ ∀ (o : HObj), o ∈ [] → HObj.nr o]) (by kernel_rfl) (.cons (by exact con_power _ (by omega)) (.cons (by simp) (.nil))) ?_
              refine seqK_n ?_
              refine VC.cond (b := decide (8192 ≤ x)) (by kernel_rfl) (fun h15 => ?_) (fun h15 => ?_)
              ·
                simp at h15
                refine VC.skip ?_
                refine seqK_n ?_
                refine VC.block ?_
                refine VC.region (E := E) (C := C0) E_ok mixed (by first | exact fun _ => rfl | exact fun h => by cases h) [2, 4, 5, 6, 23, 24, 25, 26, 27, 28, 29, 30, 31, 32, 33, 34, 35, 36, 37, 38, 39, 40, 41, 42] (st' := St.mk [(2, AV.c (Value.int IntKind.u8 0)), (4, AV.c (Value.int IntKind.i64 x)), (5, AV.c (Value.int IntKind.i64 128)), (6, AV.c (Value.int IntKind.i64 6)), (23, AV.c (Value.int IntKind.i64 x)), (24, AV.c (Value.int IntKind.i64 5)), (25, AV.c (Value.int IntKind.i64 13)), (26, AV.c (Value.int IntKind.i64 8192)), (27, AV.c (Value.bool (decide (8192 ≤ x)))), (28, AV.c (Value.int IntKind.i64 5)), (29, AV.c (Value.int IntKind.i64 6))] []) (ps := []) (by kernel_rfl) (.nil) ?_
                refine blockK_n ?_
                refine roundK_n ?_
                refine VCR.next ?_
                refine VC.seq ?_
                refine VC.seq ?_
                refine VC.region (E := E) (C := C0) E_ok mixed (by first | exact fun _ => rfl | exact fun h => by cases h) [2, 4, 5, 6, 23, 24, 25, 26, 27, 28, 29, 30, 31, 32, 33, 34, 35, 36, 37, 38, 39, 40, 41, 42] (st' := St.mk [(2, AV.c (Value.int IntKind.u8 0)), (4, AV.c (Value.int IntKind.i64 x)), (5, AV.c (Value.int IntKind.i64 128)), (6, AV.c (Value.int IntKind.i64 6)), (23, AV.c (Value.int IntKind.i64 x)), (24, AV.c (Value.int IntKind.i64 6)), (25, AV.c (Value.int IntKind.i64 14)), (26, AV.c (Value.int IntKind.i64 16384)), (27, AV.c (Value.bool (decide (16384 ≤ x)))), (28, AV.c (Value.int IntKind.i64 5)), (29, AV.c (Value.int IntKind.i64 6))] []) (ps := [Con Try.prog L0 (30 : Nat) [] [AV.c (Value.int IntKind.i64 (14 : Int))] [] (AV.c (Value.int IntKind.i64 (16384 : Int))), true = true ∨ True ∧ ∀ (o : HObj), o ∈ [] → HObj.nr o]) (by kernel_rfl) (.cons (by exact con_power _ (by omega)) (.cons (by simp) (.nil))) ?_
                refine seqK_n ?_
                refine VC.cond (b := decide (16384 ≤ x)) (by kernel_rfl) (fun h16 => ?_) (fun h16 => ?_)
                ·
                  simp at h16
                  refine VC.skip ?_
                  refine seqK_n ?_
                  refine VC.block ?_
                  refine VC.region (E := E) (C := C0) E_ok mixed (by first | exact fun _ => rfl | exact fun h => by cases h) [2, 4, 5, 6, 23, 24, 25, 26, 27, 28, 29, 30, 31, 32, 33, 34, 35, 36, 37, 38, 39, 40, 41, 42] (st' := St.mk [(2, AV.c (Value.int IntKind.u8 0)), (4, AV.c (Value.int IntKind.i64 x)), (5, AV.c (Value.int IntKind.i64 128)), (6, AV.c (Value.int IntKind.i64 7)), (23, AV.c (Value.int IntKind.i64 x)), (24, AV.c (Value.int IntKind.i64 6)), (25, AV.c (Value.int IntKind.i64 14)), (26, AV.c (Value.int IntKind.i64 16384)), (27, AV.c (Value.bool (decide (16384 ≤ x)))), (28, AV.c (Value.int IntKind.i64 6)), (29, AV.c (Value.int IntKind.i64 7))] []) (ps := []) (by kernel_rfl) (.nil) ?_
                  refine blockK_n ?_
                  refine roundK_n ?_
                  refine VCR.next ?_
                  refine VC.seq ?_
                  refine VC.seq ?_
                  refine VC.region (E := E) (C := C0) E_ok mixed (by first | exact fun _ => rfl | exact fun h => by cases h) [2, 4, 5, 6, 23, 24, 25, 26, 27, 28, 29, 30, 31, 32, 33, 34, 35, 36, 37, 38, 39, 40, 41, 42] (st' := St.mk [(2, AV.c (Value.int IntKind.u8 0)), (4, AV.c (Value.int IntKind.i64 x)), (5, AV.c (Value.int IntKind.i64 128)), (6, AV.c (Value.int IntKind.i64 7)), (23, AV.c (Value.int IntKind.i64 x)), (24, AV.c (Value.int IntKind.i64 7)), (25, AV.c (Value.int IntKind.i64 15)), (26, AV.c (Value.int IntKind.i64 32768)), (27, AV.c (Value.bool (decide (32768 ≤ x)))), (28, AV.c (Value.int IntKind.i64 6)), (29, AV.c (Value.int IntKind.i64 7))] []) (ps := [Con Try.prog L0 (30 : Nat) [] [AV.c (Value.int IntKind.i64 (15 : Int))] [] (AV.c (Value.int IntKind.i64 (32768 : Int))), true = true ∨ True ∧ ∀ (o : HObj), o ∈ [] → HObj.nr o]) (by kernel_rfl) (.cons (by exact con_power _ (by omega)) (.cons (by simp) (.nil))) ?_
                  refine seqK_n ?_
                  refine VC.cond (b := decide (32768 ≤ x)) (by kernel_rfl) (fun h17 => ?_) (fun h17 => ?_)
                  ·
                    simp at h17
                    (exfalso; omega)
                  ·
                    simp at h17
                    refine VC.exit ?_
                    refine seqK_x ?_
                    refine roundK_x ?_
                    refine blockK_x ?_
                    refine seqK_n ?_
                    refine VC.seq ?_
                    refine VC.regionE (E := E) (C := C0) E_ok mixed (by first | exact fun _ => rfl | exact fun h => by cases h) [2] (st' := St.mk [(2, AV.c (Value.int IntKind.u8 (ixor IntKind.u8 (IntKind.wrap IntKind.u8 (IntKind.wrap IntKind.i64 (IntKind.wrap IntKind.i64 (112 + Int.tmod (IntKind.wrap IntKind.i64 (Int.tdiv x 1024)) 16) + 128))) 85)))] []) (ps := [Con Try.prog L0 (30 : Nat) [] [AV.c (Value.int IntKind.i64 (10 : Int))] [] (AV.c (Value.int IntKind.i64 (1024 : Int))), true = true ∨ True ∧ ∀ (o : HObj), o ∈ [] → HObj.nr o, (1024 : Int) ≠ (0 : Int), (16 : Int) ≠ (0 : Int)]) (by kernel_rfl) (.cons (by exact con_power _ (by omega)) (.cons (by simp) (.cons (by trivial) (.cons (by trivial) (.nil))))) (st'' := St.mk [(2, AV.c (Value.int IntKind.u8 (ixor IntKind.u8 (112 + x / 1024 % 16 + 128) 85)))] []) (by simp (disch := omega) only [wrap_i8, wrap_i16, wrap_i32, wrap_i64, wrap_u8, wrap_u16, wrap_u32, wrap_u64, Int.tdiv_eq_ediv_of_nonneg, Int.tmod_eq_emod_of_nonneg, Int.toNat_natCast, Int.reduceToNat, Nat.mul_one, Nat.zero_add, Nat.add_zero, Nat.one_mul, Int.one_mul, Int.zero_add, Int.add_zero, Int.mul_one, List.drop_zero, List.take_length, Int.zero_sub]) ?_
                    refine seqK_n ?_
                    refine VC.ret ?_
                    exact Fin.all [] (.inr rfl) (l := [AV.c (Value.int IntKind.u8 (ixor IntKind.u8 (112 + x / 1024 % 16 + 128) 85))]) (ps := []) (by kernel_rfl) (by kernel_rfl) (.nil) (All.of (l' := []) (by kernel_rfl) (.nil)) (show AV.c (Value.int IntKind.u8 (ixor IntKind.u8 (112 + x / 1024 % 16 + 128) 85)) = AV.c (Value.int IntKind.u8 (Sp.a x)) by refine cong1 (congrArg (fun y => ixor .u8 y 85) ?_); simp (disch := omega) only [Sp.a0, Sp.expo, Sp.shr3, Sp.mg2, if_pos, if_neg]; omega)
                ·
                  simp at h16
                  refine VC.exit ?_
                  refine seqK_x ?_
                  refine roundK_x ?_
                  refine blockK_x ?_
                  refine seqK_n ?_
                  refine VC.seq ?_
                  refine VC.regionE (E := E) (C := C0) E_ok mixed (by first | exact fun _ => rfl | exact fun h => by cases h) [2] (st' := St.mk [(2, AV.c (Value.int IntKind.u8 (ixor IntKind.u8 (IntKind.wrap IntKind.u8 (IntKind.wrap IntKind.i64 (IntKind.wrap IntKind.i64 (96 + Int.tmod (IntKind.wrap IntKind.i64 (Int.tdiv x 512)) 16) + 128))) 85)))] []) (ps := [Con Try.prog L0 (30 : Nat) [] [AV.c (Value.int IntKind.i64 (9 : Int))] [] (AV.c (Value.int IntKind.i64 (512 : Int))), true = true ∨ True ∧ ∀ (o : HObj), o ∈ [] → HObj.nr o, (512 : Int) ≠ (0 : Int), (16 : Int) ≠ (0 : Int)]) (by kernel_rfl) (.cons (by exact con_power _ (by omega)) (.cons (by simp) (.cons (by trivial) (.cons (by trivial) (.nil))))) (st'' := St.mk [(2, AV.c (Value.int IntKind.u8 (ixor IntKind.u8 (96 + x / 512 % 16 + 128) 85)))] []) (by simp (disch := omega) only [wrap_i8, wrap_i16, wrap_i32, wrap_i64, wrap_u8, wrap_u16, wrap_u32, wrap_u64, Int.tdiv_eq_ediv_of_nonneg, Int.tmod_eq_emod_of_nonneg, Int.toNat_natCast, Int.reduceToNat, Nat.mul_one, Nat.zero_add, Nat.add_zero, Nat.one_mul, Int.one_mul, Int.zero_add, Int.add_zero, Int.mul_one, List.drop_zero, List.take_length, Int.zero_sub]) ?_
                  refine seqK_n ?_
                  refine VC.ret ?_
                  exact Fin.all [] (.inr rfl) (l := [AV.c (Value.int IntKind.u8 (ixor IntKind.u8 (96 + x / 512 % 16 + 128) 85))]) (ps := []) (by kernel_rfl) (by kernel_rfl) (.nil) (All.of (l' := []) (by kernel_rfl) (.nil)) (show AV.c (Value.int IntKind.u8 (ixor IntKind.u8 (96 + x / 512 % 16 + 128) 85)) = AV.c (Value.int IntKind.u8 (Sp.a x)) by refine cong1 (congrArg (fun y => ixor .u8 y 85) ?_); simp (disch := omega) only [Sp.a0, Sp.expo, Sp.shr3, Sp.mg2, if_pos, if_neg]; omega)
              ·
                simp at h15
                refine VC.exit ?_
                refine seqK_x ?_
                refine roundK_x ?_
                refine blockK_x ?_
                refine seqK_n ?_
                refine VC.seq ?_
                refine VC.regionE (E := E) (C := C0) E_ok mixed (by first | exact fun _ => rfl | exact fun h => by cases h) [2] (st' := St.mk [(2, AV.c (Value.int IntKind.u8 (ixor IntKind.u8 (IntKind.wrap IntKind.u8 (IntKind.wrap IntKind.i64 (IntKind.wrap IntKind.i64 (80 + Int.tmod (IntKind.wrap IntKind.i64 (Int.tdiv x 256)) 16) + 128))) 85)))] []) (ps := [Con Try.prog L0 (30 : Nat) [] [AV.c (Value.int IntKind.i64 (8 : Int))] [] (AV.c (Value.int IntKind.i64 (256 : Int))), true = true ∨ True ∧ ∀ (o : HObj), o ∈ [] → HObj.nr o, (256 : Int) ≠ (0 : Int), (16 : Int) ≠ (0 : Int)]) (by kernel_rfl) (.cons (by exact con_power _ (by omega)) (.cons (by simp) (.cons (by trivial) (.cons (by trivial) (.nil))))) (st'' := St.mk [(2, AV.c (Value.int IntKind.u8 (ixor IntKind.u8 (80 + x / 256 % 16 + 128) 85)))] []) (by simp (disch := omega) only [wrap_i8, wrap_i16, wrap_i32, wrap_i64, wrap_u8, wrap_u16, wrap_u32, wrap_u64, Int.tdiv_eq_ediv_of_nonneg, Int.tmod_eq_emod_of_nonneg, Int.toNat_natCast, Int.reduceToNat, Nat.mul_one, Nat.zero_add, Nat.add_zero, Nat.one_mul, Int.one_mul, Int.zero_add, Int.add_zero, Int.mul_one, List.drop_zero, List.take_length, Int.zero_sub]) ?_
                refine seqK_n ?_
                refine VC.ret ?_
                exact Fin.all [] (.inr rfl) (l := [AV.c (Value.int IntKind.u8 (ixor IntKind.u8 (80 + x / 256 % 16 + 128) 85))]) (ps := []) (by kernel_rfl) (by kernel_rfl) (.nil) (All.of (l' := []) (by kernel_rfl) (.nil)) (show AV.c (Value.int IntKind.u8 (ixor IntKind.u8 (80 + x / 256 % 16 + 128) 85)) = AV.c (Value.int IntKind.u8 (Sp.a x)) by refine cong1 (congrArg (fun y => ixor .u8 y 85) ?_); simp (disch := omega) only [Sp.a0, Sp.expo, Sp.shr3, Sp.mg2, if_pos, if_neg]; omega)
            ·
              simp at h14
              refine VC.exit ?_
              refine seqK_x ?_
              refine roundK_x ?_
              refine blockK_x ?_
              refine seqK_n ?_
              refine VC.seq ?_
              refine VC.regionE (E := E) (C := C0) E_ok mixed (by first | exact fun _ => rfl | exact fun h => by cases h) [2] (st' := St.mk [(2, AV.c (Value.int IntKind.u8 (ixor IntKind.u8 (IntKind.wrap IntKind.u8 (IntKind.wrap IntKind.i64 (IntKind.wrap IntKind.i64 (64 + Int.tmod (IntKind.wrap IntKind.i64 (Int.tdiv x 128)) 16) + 128))) 85)))] []) (ps := [Con Try.prog L0 (30 : Nat) [] [AV.c (Value.int IntKind.i64 (7 : Int))] [] (AV.c (Value.int IntKind.i64 (128 : Int))), true = true ∨ True ∧ ∀ (o : HObj), o ∈ [] → HObj.nr o, (128 : Int) ≠ (0 : Int), (16 : Int) ≠ (0 : Int)]) (by kernel_rfl) (.cons (by exact con_power _ (by omega)) (.cons (by simp) (.cons (by trivial) (.cons (by trivial) (.nil))))) (st'' := St.mk [(2, AV.c (Value.int IntKind.u8 (ixor IntKind.u8 (64 + x / 128 % 16 + 128) 85)))] []) (by simp (disch := omega) only [wrap_i8, wrap_i16, wrap_i32, wrap_i64, wrap_u8, wrap_u16, wrap_u32, wrap_u64, Int.tdiv_eq_ediv_of_nonneg, Int.tmod_eq_emod_of_nonneg, Int.toNat_natCast, Int.reduceToNat, Nat.mul_one, Nat.zero_add, Nat.add_zero, Nat.one_mul, Int.one_mul, Int.zero_add, Int.add_zero, Int.mul_one, List.drop_zero, List.take_length, Int.zero_sub]) ?_
              refine seqK_n ?_
              refine VC.ret ?_
              exact Fin.all [] (.inr rfl) (l := [AV.c (Value.int IntKind.u8 (ixor IntKind.u8 (64 + x / 128 % 16 + 128) 85))]) (ps := []) (by kernel_rfl) (by kernel_rfl) (.nil) (All.of (l' := []) (by kernel_rfl) (.nil)) (show AV.c (Value.int IntKind.u8 (ixor IntKind.u8 (64 + x / 128 % 16 + 128) 85)) = AV.c (Value.int IntKind.u8 (Sp.a x)) by refine cong1 (congrArg (fun y => ixor .u8 y 85) ?_); simp (disch := omega) only [Sp.a0, Sp.expo, Sp.shr3, Sp.mg2, if_pos, if_neg]; omega)
          ·
            simp at h13
            refine VC.exit ?_
            refine seqK_x ?_
            refine roundK_x ?_
            refine blockK_x ?_
            refine seqK_n ?_
            refine VC.seq ?_
            refine VC.regionE (E := E) (C := C0) E_ok mixed (by first | exact fun _ => rfl | exact fun h => by cases h) [2] (st' := St.mk [(2, AV.c (Value.int IntKind.u8 (ixor IntKind.u8 (IntKind.wrap IntKind.u8 (IntKind.wrap IntKind.i64 (IntKind.wrap IntKind.i64 (48 + Int.tmod (IntKind.wrap IntKind.i64 (Int.tdiv x 64)) 16) + 128))) 85)))] []) (ps := [Con Try.prog L0 (30 : Nat) [] [AV.c (Value.int IntKind.i64 (6 : Int))] [] (AV.c (Value.int IntKind.i64 (64 : Int))), true = true ∨ True ∧ ∀ (o : HObj), o ∈ [] → HObj.nr o, (64 : Int) ≠ (0 : Int), (16 : Int) ≠ (0 : Int)]) (by kernel_rfl) (.cons (by exact con_power _ (by omega)) (.cons (by simp) (.cons (by trivial) (.cons (by trivial) (.nil))))) (st'' := St.mk [(2, AV.c (Value.int IntKind.u8 (ixor IntKind.u8 (48 + x / 64 % 16 + 128) 85)))] []) (by simp (disch := omega) only [wrap_i8, wrap_i16, wrap_i32, wrap_i64, wrap_u8, wrap_u16, wrap_u32, wrap_u64, Int.tdiv_eq_ediv_of_nonneg, Int.tmod_eq_emod_of_nonneg, Int.toNat_natCast, Int.reduceToNat, Nat.mul_one, Nat.zero_add, Nat.add_zero, Nat.one_mul, Int.one_mul, Int.zero_add, Int.add_zero, Int.mul_one, List.drop_zero, List.take_length, Int.zero_sub]) ?_
            refine seqK_n ?_
            refine VC.ret ?_
            exact Fin.all [] (.inr rfl) (l := [AV.c (Value.int IntKind.u8 (ixor IntKind.u8 (48 + x / 64 % 16 + 128) 85))]) (ps := []) (by kernel_rfl) (by kernel_rfl) (.nil) (All.of (l' := []) (by kernel_rfl) (.nil)) (show AV.c (Value.int IntKind.u8 (ixor IntKind.u8 (48 + x / 64 % 16 + 128) 85)) = AV.c (Value.int IntKind.u8 (Sp.a x)) by refine cong1 (congrArg (fun y => ixor .u8 y 85) ?_); simp (disch := omega) only [Sp.a0, Sp.expo, Sp.shr3, Sp.mg2, if_pos, if_neg]; omega)
        ·
          simp at h12
          refine VC.exit ?_
          refine seqK_x ?_
          refine roundK_x ?_
          refine blockK_x ?_
          refine seqK_n ?_
          refine VC.seq ?_
          refine VC.regionE (E := E) (C := C0) E_ok mixed (by first | exact fun _ => rfl | exact fun h => by cases h) [2] (st' := St.mk [(2, AV.c (Value.int IntKind.u8 (ixor IntKind.u8 (IntKind.wrap IntKind.u8 (IntKind.wrap IntKind.i64 (IntKind.wrap IntKind.i64 (32 + Int.tmod (IntKind.wrap IntKind.i64 (Int.tdiv x 32)) 16) + 128))) 85)))] []) (ps := [Con Try.prog L0 (30 : Nat) [] [AV.c (Value.int IntKind.i64 (5 : Int))] [] (AV.c (Value.int IntKind.i64 (32 : Int))), true = true ∨ True ∧ ∀ (o : HObj), o ∈ [] → HObj.nr o, (32 : Int) ≠ (0 : Int), (16 : Int) ≠ (0 : Int)]) (by kernel_rfl) (.cons (by exact con_power _ (by omega)) (.cons (by simp) (.cons (by trivial) (.cons (by trivial) (.nil))))) (st'' := St.mk [(2, AV.c (Value.int IntKind.u8 (ixor IntKind.u8 (32 + x / 32 % 16 + 128) 85)))] []) (by simp (disch := omega) only [wrap_i8, wrap_i16, wrap_i32, wrap_i64, wrap_u8, wrap_u16, wrap_u32, wrap_u64, Int.tdiv_eq_ediv_of_nonneg, Int.tmod_eq_emod_of_nonneg, Int.toNat_natCast, Int.reduceToNat, Nat.mul_one, Nat.zero_add, Nat.add_zero, Nat.one_mul, Int.one_mul, Int.zero_add, Int.add_zero, Int.mul_one, List.drop_zero, List.take_length, Int.zero_sub]) ?_
          refine seqK_n ?_
          refine VC.ret ?_
          exact Fin.all [] (.inr rfl) (l := [AV.c (Value.int IntKind.u8 (ixor IntKind.u8 (32 + x / 32 % 16 + 128) 85))]) (ps := []) (by kernel_rfl) (by kernel_rfl) (.nil) (All.of (l' := []) (by kernel_rfl) (.nil)) (show AV.c (Value.int IntKind.u8 (ixor IntKind.u8 (32 + x / 32 % 16 + 128) 85)) = AV.c (Value.int IntKind.u8 (Sp.a x)) by refine cong1 (congrArg (fun y => ixor .u8 y 85) ?_); simp (disch := omega) only [Sp.a0, Sp.expo, Sp.shr3, Sp.mg2, if_pos, if_neg]; omega)
      ·
        simp at h11
        refine VC.exit ?_
        refine seqK_x ?_
        refine roundK_x ?_
        refine blockK_x ?_
        refine seqK_n ?_
        refine VC.seq ?_
        refine VC.regionE (E := E) (C := C0) E_ok mixed (by first | exact fun _ => rfl | exact fun h => by cases h) [2] (st' := St.mk [(2, AV.c (Value.int IntKind.u8 (ixor IntKind.u8 (IntKind.wrap IntKind.u8 (IntKind.wrap IntKind.i64 (IntKind.wrap IntKind.i64 (16 + Int.tmod (IntKind.wrap IntKind.i64 (Int.tdiv x 16)) 16) + 128))) 85)))] []) (ps := [Con Try.prog L0 (30 : Nat) [] [AV.c (Value.int IntKind.i64 (4 : Int))] [] (AV.c (Value.int IntKind.i64 (16 : Int))), true = true ∨ True ∧ ∀ (o : HObj), o ∈ [] → HObj.nr o, (16 : Int) ≠ (0 : Int), (16 : Int) ≠ (0 : Int)]) (by kernel_rfl) (.cons (by exact con_power _ (by omega)) (.cons (by simp) (.cons (by trivial) (.cons (by trivial) (.nil))))) (st'' := St.mk [(2, AV.c (Value.int IntKind.u8 (ixor IntKind.u8 (16 + x / 16 % 16 + 128) 85)))] []) (by simp (disch := omega) only [wrap_i8, wrap_i16, wrap_i32, wrap_i64, wrap_u8, wrap_u16, wrap_u32, wrap_u64, Int.tdiv_eq_ediv_of_nonneg, Int.tmod_eq_emod_of_nonneg, Int.toNat_natCast, Int.reduceToNat, Nat.mul_one, Nat.zero_add, Nat.add_zero, Nat.one_mul, Int.one_mul, Int.zero_add, Int.add_zero, Int.mul_one, List.drop_zero, List.take_length, Int.zero_sub]) ?_
        refine seqK_n ?_
        refine VC.ret ?_
        exact Fin.all [] (.inr rfl) (l := [AV.c (Value.int IntKind.u8 (ixor IntKind.u8 (16 + x / 16 % 16 + 128) 85))]) (ps := []) (by kernel_rfl) (by kernel_rfl) (.nil) (All.of (l' := []) (by kernel_rfl) (.nil)) (show AV.c (Value.int IntKind.u8 (ixor IntKind.u8 (16 + x / 16 % 16 + 128) 85)) = AV.c (Value.int IntKind.u8 (Sp.a x)) by refine cong1 (congrArg (fun y => ixor .u8 y 85) ?_); simp (disch := omega) only [Sp.a0, Sp.expo, Sp.shr3, Sp.mg2, if_pos, if_neg]; omega)
theorem con_rFromMu (b : Int) (hb : 0 ≤ b ∧ b ≤ 255) : Con Try.prog L0 17 [] [.c (.int .u8 b)] [] (.c (.int .i16 (Sp.fmu b))) := by
  refine con_of_vc E_ok mixed Try.func17 rfl Try.call17 (Nat.le_of_ble_eq_true rfl) ?_
  have hf := Sp.f1 hb
  refine VC.seq ?_
  refine VC.region (E := E) (C := C0) E_ok mixed (by first | exact fun _ => rfl | exact fun h => by cases h) [0, 2, 3, 4, 5, 6, 7, 8, 9, 10, 11, 12, 13, 14, 15, 16, 17, 18, 19, 20, 21, 22, 23, 24, 25, 26, 27, 28, 29, 30] (st' := St.mk [(0, AV.c (Value.int IntKind.u8 b)), (2, AV.c (Value.int IntKind.i16 0))] []) (ps := []) (by kernel_rfl) (.nil) ?_
  refine seqK_n ?_
  refine VC.seq ?_
  refine VC.regionE (E := E) (C := C0) E_ok mixed (by first | exact fun _ => rfl | exact fun h => by cases h) [2, 3, 4, 5, 6, 7, 11, 12, 13, 14, 15, 16, 17, 18, 19, 20, 21, 22, 23, 24, 25, 26, 27, 28, 29, 30] (st' := St.mk [(2, AV.c (Value.int IntKind.i16 0)), (3, AV.c (Value.int IntKind.i64 (IntKind.wrap IntKind.i64 (255 - IntKind.wrap IntKind.i64 b))))] []) (ps := []) (by kernel_rfl) (.nil) (st'' := St.mk [(2, AV.c (Value.int IntKind.i16 0)), (3, AV.c (Value.int IntKind.i64 (255 - b)))] []) (by simp (disch := omega) only [wrap_i8, wrap_i16, wrap_i32, wrap_i64, wrap_u8, wrap_u16, wrap_u32, wrap_u64, Int.tdiv_eq_ediv_of_nonneg, Int.tmod_eq_emod_of_nonneg, Int.toNat_natCast, Int.reduceToNat, Nat.mul_one, Nat.zero_add, Nat.add_zero, Nat.one_mul, Int.one_mul, Int.zero_add, Int.add_zero, Int.mul_one, List.drop_zero, List.take_length, Int.zero_sub, Sp.c_range hb, Sp.mp1 b]) ?_
  refine seqK_n ?_
  refine VC.seq ?_
  refine VC.regionE (E := E) (C := C0) E_ok mixed (by first | exact fun _ => rfl | exact fun h => by cases h) [2, 4, 5, 6, 7, 18, 19, 20, 21, 22, 23, 24, 25, 26, 27, 28, 29, 30] (st' := St.mk [(2, AV.c (Value.int IntKind.i16 0)), (4, AV.c (Value.int IntKind.i64 (IntKind.wrap IntKind.i64 (Int.tdiv (255 - b) 128)))), (5, AV.c (Value.int IntKind.i64 (Int.tmod (IntKind.wrap IntKind.i64 (Int.tdiv (255 - b) 16)) 8))), (6, AV.c (Value.int IntKind.i64 (Int.tmod (255 - b) 16)))] []) (ps := [(128 : Int) ≠ (0 : Int), (16 : Int) ≠ (0 : Int), (8 : Int) ≠ (0 : Int), (16 : Int) ≠ (0 : Int)]) (by kernel_rfl) (.cons (by trivial) (.cons (by trivial) (.cons (by trivial) (.cons (by trivial) (.nil))))) (st'' := St.mk [(2, AV.c (Value.int IntKind.i16 0)), (4, AV.c (Value.int IntKind.i64 ((255 - b) / 128))), (5, AV.c (Value.int IntKind.i64 ((255 - b) / 16 % 8))), (6, AV.c (Value.int IntKind.i64 ((255 - b) % 16)))] []) (by simp (disch := omega) only [wrap_i8, wrap_i16, wrap_i32, wrap_i64, wrap_u8, wrap_u16, wrap_u32, wrap_u64, Int.tdiv_eq_ediv_of_nonneg, Int.tmod_eq_emod_of_nonneg, Int.toNat_natCast, Int.reduceToNat, Nat.mul_one, Nat.zero_add, Nat.add_zero, Nat.one_mul, Int.one_mul, Int.zero_add, Int.add_zero, Int.mul_one, List.drop_zero, List.take_length, Int.zero_sub, Sp.c_range hb, Sp.mp1 b]) ?_
  refine seqK_n ?_
  refine VC.seq ?_
  refine VC.regionE (E := E) (C := C0) E_ok mixed (by first | exact fun _ => rfl | exact fun h => by cases h) [2, 4, 7, 25, 26, 27, 28, 29, 30] (st' := St.mk [(2, AV.c (Value.int IntKind.i16 0)), (4, AV.c (Value.int IntKind.i64 ((255 - b) / 128))), (7, AV.c (Value.int IntKind.i64 (IntKind.wrap IntKind.i64 (IntKind.wrap IntKind.i64 (IntKind.wrap IntKind.i64 (IntKind.wrap IntKind.i64 (8 * ((255 - b) % 16)) + 132) * Sp.pow ((255 - b) / 16 % 8)) - 132))))] []) (ps := [Con Try.prog L0 (30 : Nat) [] [AV.c (Value.int IntKind.i64 (((255 : Int) - b) / (16 : Int) % (8 : Int)))] [] (AV.c (Value.int IntKind.i64 (Sp.pow (((255 : Int) - b) / (16 : Int) % (8 : Int))))), true = true ∨ True ∧ ∀ (o : HObj), o ∈ [] → HObj.nr o]) (by kernel_rfl) (.cons (by exact con_power _ (by omega)) (.cons (by simp) (.nil))) (st'' := St.mk [(2, AV.c (Value.int IntKind.i16 0)), (4, AV.c (Value.int IntKind.i64 ((255 - b) / 128))), (7, AV.c (Value.int IntKind.i64 (Sp.sh8 (8 * ((255 - b) % 16) + 132) ((255 - b) / 16 % 8) - 132)))] []) (by simp (disch := omega) only [wrap_i8, wrap_i16, wrap_i32, wrap_i64, wrap_u8, wrap_u16, wrap_u32, wrap_u64, Int.tdiv_eq_ediv_of_nonneg, Int.tmod_eq_emod_of_nonneg, Int.toNat_natCast, Int.reduceToNat, Nat.mul_one, Nat.zero_add, Nat.add_zero, Nat.one_mul, Int.one_mul, Int.zero_add, Int.add_zero, Int.mul_one, List.drop_zero, List.take_length, Int.zero_sub, Sp.c_range hb, Sp.mp1 b]) ?_
  refine seqK_n ?_
  refine VC.seq ?_
  refine VC.seq ?_
  refine VC.region (E := E) (C := C0) E_ok mixed (by first | exact fun _ => rfl | exact fun h => by cases h) [2, 7, 26, 27, 28, 29, 30] (st' := St.mk [(2, AV.c (Value.int IntKind.i16 0)), (7, AV.c (Value.int IntKind.i64 (Sp.sh8 (8 * ((255 - b) % 16) + 132) ((255 - b) / 16 % 8) - 132))), (26, AV.c (Value.bool ((255 - b) / 128 == 1)))] []) (ps := []) (by kernel_rfl) (.nil) ?_
  refine seqK_n ?_
  refine VC.cond (b := (255 - b) / 128 == 1) (by kernel_rfl) (fun h1 => ?_) (fun h1 => ?_)
  ·
    simp at h1
    refine VC.regionE (E := E) (C := C0) E_ok mixed (by first | exact fun _ => rfl | exact fun h => by cases h) [2, 7, 29, 30] (st' := St.mk [(2, AV.c (Value.int IntKind.i16 0)), (7, AV.c (Value.int IntKind.i64 (IntKind.wrap IntKind.i64 (0 - (Sp.sh8 (8 * ((255 - b) % 16) + 132) ((255 - b) / 16 % 8) - 132)))))] []) (ps := []) (by kernel_rfl) (.nil) (st'' := St.mk [(2, AV.c (Value.int IntKind.i16 0)), (7, AV.c (Value.int IntKind.i64 (-(Sp.sh8 (8 * ((255 - b) % 16) + 132) ((255 - b) / 16 % 8) - 132))))] []) (by simp (disch := omega) only [wrap_i8, wrap_i16, wrap_i32, wrap_i64, wrap_u8, wrap_u16, wrap_u32, wrap_u64, Int.tdiv_eq_ediv_of_nonneg, Int.tmod_eq_emod_of_nonneg, Int.toNat_natCast, Int.reduceToNat, Nat.mul_one, Nat.zero_add, Nat.add_zero, Nat.one_mul, Int.one_mul, Int.zero_add, Int.add_zero, Int.mul_one, List.drop_zero, List.take_length, Int.zero_sub, Sp.c_range hb, Sp.mp1 b]) ?_
    refine seqK_n ?_
    refine VC.seq ?_
    refine VC.regionE (E := E) (C := C0) E_ok mixed (by first | exact fun _ => rfl | exact fun h => by cases h) [2] (st' := St.mk [(2, AV.c (Value.int IntKind.i16 (IntKind.wrap IntKind.i16 (-(Sp.sh8 (8 * ((255 - b) % 16) + 132) ((255 - b) / 16 % 8) - 132)))))] []) (ps := []) (by kernel_rfl) (.nil) (st'' := St.mk [(2, AV.c (Value.int IntKind.i16 (-(Sp.sh8 (8 * ((255 - b) % 16) + 132) ((255 - b) / 16 % 8) - 132))))] []) (by simp (disch := omega) only [wrap_i8, wrap_i16, wrap_i32, wrap_i64, wrap_u8, wrap_u16, wrap_u32, wrap_u64, Int.tdiv_eq_ediv_of_nonneg, Int.tmod_eq_emod_of_nonneg, Int.toNat_natCast, Int.reduceToNat, Nat.mul_one, Nat.zero_add, Nat.add_zero, Nat.one_mul, Int.one_mul, Int.zero_add, Int.add_zero, Int.mul_one, List.drop_zero, List.take_length, Int.zero_sub, Sp.c_range hb, Sp.mp1 b]) ?_
    refine seqK_n ?_
    refine VC.ret ?_
    exact Fin.all [] (.inr rfl) (l := [AV.c (Value.int IntKind.i16 (-(Sp.sh8 (8 * ((255 - b) % 16) + 132) ((255 - b) / 16 % 8) - 132)))]) (ps := []) (by kernel_rfl) (by kernel_rfl) (.nil) (All.of (l' := []) (by kernel_rfl) (.nil)) (show AV.c (Value.int IntKind.i16 (-(Sp.sh8 (8 * ((255 - b) % 16) + 132) ((255 - b) / 16 % 8) - 132))) = AV.c (Value.int IntKind.i16 (Sp.fmu b)) by refine cong1 ?_; simp (disch := omega) only [wrap_i64, wrap_i16, Sp.fmu, Int.zero_sub]; first | rw [if_pos (by omega)] | rw [if_neg (by omega)])
  ·
    simp at h1
    refine VC.skip ?_
    refine seqK_n ?_
    refine VC.seq ?_
    refine VC.regionE (E := E) (C := C0) E_ok mixed (by first | exact fun _ => rfl | exact fun h => by cases h) [2] (st' := St.mk [(2, AV.c (Value.int IntKind.i16 (IntKind.wrap IntKind.i16 (Sp.sh8 (8 * ((255 - b) % 16) + 132) ((255 - b) / 16 % 8) - 132))))] []) (ps := []) (by kernel_rfl) (.nil) (st'' := St.mk [(2, AV.c (Value.int IntKind.i16 (Sp.sh8 (8 * ((255 - b) % 16) + 132) ((255 - b) / 16 % 8) - 132)))] []) (by simp (disch := omega) only [wrap_i8, wrap_i16, wrap_i32, wrap_i64, wrap_u8, wrap_u16, wrap_u32, wrap_u64, Int.tdiv_eq_ediv_of_nonneg, Int.tmod_eq_emod_of_nonneg, Int.toNat_natCast, Int.reduceToNat, Nat.mul_one, Nat.zero_add, Nat.add_zero, Nat.one_mul, Int.one_mul, Int.zero_add, Int.add_zero, Int.mul_one, List.drop_zero, List.take_length, Int.zero_sub, Sp.c_range hb, Sp.mp1 b]) ?_
    refine seqK_n ?_
    refine VC.ret ?_
    exact Fin.all [] (.inr rfl) (l := [AV.c (Value.int IntKind.i16 (Sp.sh8 (8 * ((255 - b) % 16) + 132) ((255 - b) / 16 % 8) - 132))]) (ps := []) (by kernel_rfl) (by kernel_rfl) (.nil) (All.of (l' := []) (by kernel_rfl) (.nil)) (show AV.c (Value.int IntKind.i16 (Sp.sh8 (8 * ((255 - b) % 16) + 132) ((255 - b) / 16 % 8) - 132)) = AV.c (Value.int IntKind.i16 (Sp.fmu b)) by refine cong1 ?_; simp (disch := omega) only [wrap_i64, wrap_i16, Sp.fmu, Int.zero_sub]; first | rw [if_pos (by omega)] | rw [if_neg (by omega)])
theorem con_rFromA (b : Int) (hb : 0 ≤ b ∧ b ≤ 255) : Con Try.prog L0 18 [] [.c (.int .u8 b)] [] (.c (.int .i16 (Sp.fa b))) := by
  refine con_of_vc E_ok mixed Try.func18 rfl Try.call18 (Nat.le_of_ble_eq_true rfl) ?_
  obtain ⟨-, hc1, hc2, -⟩ := Sp.xor_lt hb
  have hc := And.intro hc1 hc2
  have hs := Sp.fa0_range hc
  simp only [Sp.fa]
  refine VC.seq ?_
  refine VC.region (E := E) (C := C0) E_ok mixed (by first | exact fun _ => rfl | exact fun h => by cases h) [0, 2, 3, 4, 5, 6, 7, 8, 9, 10, 11, 12, 13, 14, 15, 16, 17, 18, 19, 20, 21, 22, 23, 24, 25, 26, 27, 28, 29, 30, 31, 32, 33, 34, 35] (st' := St.mk [(0, AV.c (Value.int IntKind.u8 b)), (2, AV.c (Value.int IntKind.i16 0))] []) (ps := []) (by kernel_rfl) (.nil) ?_
  refine seqK_n ?_
  refine VC.seq ?_
  refine VC.regionE (E := E) (C := C0) E_ok mixed (by first | exact fun _ => rfl | exact fun h => by cases h) [2, 3, 4, 5, 6, 7, 11, 12, 13, 14, 15, 16, 17, 18, 19, 20, 21, 22, 23, 24, 25, 26, 27, 28, 29, 30, 31, 32, 33, 34, 35] (st' := St.mk [(2, AV.c (Value.int IntKind.i16 0)), (3, AV.c (Value.int IntKind.i64 (IntKind.wrap IntKind.i64 (ixor IntKind.u8 b 85))))] []) (ps := []) (by kernel_rfl) (.nil) (st'' := St.mk [(2, AV.c (Value.int IntKind.i16 0)), (3, AV.c (Value.int IntKind.i64 (ixor IntKind.u8 b 85)))] []) (by simp (disch := omega) only [wrap_i8, wrap_i16, wrap_i32, wrap_i64, wrap_u8, wrap_u16, wrap_u32, wrap_u64, Int.tdiv_eq_ediv_of_nonneg, Int.tmod_eq_emod_of_nonneg, Int.toNat_natCast, Int.reduceToNat, Nat.mul_one, Nat.zero_add, Nat.add_zero, Nat.one_mul, Int.one_mul, Int.zero_add, Int.add_zero, Int.mul_one, List.drop_zero, List.take_length, Int.zero_sub]) ?_
  refine seqK_n ?_
  refine VC.seq ?_
  refine VC.regionE (E := E) (C := C0) E_ok mixed (by first | exact fun _ => rfl | exact fun h => by cases h) [2, 4, 5, 6, 7, 18, 19, 20, 21, 22, 23, 24, 25, 26, 27, 28, 29, 30, 31, 32, 33, 34, 35] (st' := St.mk [(2, AV.c (Value.int IntKind.i16 0)), (4, AV.c (Value.int IntKind.i64 (IntKind.wrap IntKind.i64 (Int.tdiv (ixor IntKind.u8 b 85) 128)))), (5, AV.c (Value.int IntKind.i64 (Int.tmod (IntKind.wrap IntKind.i64 (Int.tdiv (ixor IntKind.u8 b 85) 16)) 8))), (6, AV.c (Value.int IntKind.i64 (Int.tmod (ixor IntKind.u8 b 85) 16)))] []) (ps := [(128 : Int) ≠ (0 : Int), (16 : Int) ≠ (0 : Int), (8 : Int) ≠ (0 : Int), (16 : Int) ≠ (0 : Int)]) (by kernel_rfl) (.cons (by trivial) (.cons (by trivial) (.cons (by trivial) (.cons (by trivial) (.nil))))) (st'' := St.mk [(2, AV.c (Value.int IntKind.i16 0)), (4, AV.c (Value.int IntKind.i64 (ixor IntKind.u8 b 85 / 128))), (5, AV.c (Value.int IntKind.i64 (ixor IntKind.u8 b 85 / 16 % 8))), (6, AV.c (Value.int IntKind.i64 (ixor IntKind.u8 b 85 % 16)))] []) (by simp (disch := omega) only [wrap_i8, wrap_i16, wrap_i32, wrap_i64, wrap_u8, wrap_u16, wrap_u32, wrap_u64, Int.tdiv_eq_ediv_of_nonneg, Int.tmod_eq_emod_of_nonneg, Int.toNat_natCast, Int.reduceToNat, Nat.mul_one, Nat.zero_add, Nat.add_zero, Nat.one_mul, Int.one_mul, Int.zero_add, Int.add_zero, Int.mul_one, List.drop_zero, List.take_length, Int.zero_sub]) ?_
  refine seqK_n ?_
  refine VC.seq ?_
  refine VC.regionE (E := E) (C := C0) E_ok mixed (by first | exact fun _ => rfl | exact fun h => by cases h) [2, 4, 5, 6, 7, 21, 22, 23, 24, 25, 26, 27, 28, 29, 30, 31, 32, 33, 34, 35] (st' := St.mk [(2, AV.c (Value.int IntKind.i16 0)), (4, AV.c (Value.int IntKind.i64 (ixor IntKind.u8 b 85 / 128))), (5, AV.c (Value.int IntKind.i64 (ixor IntKind.u8 b 85 / 16 % 8))), (6, AV.c (Value.int IntKind.i64 (ixor IntKind.u8 b 85 % 16))), (7, AV.c (Value.int IntKind.i64 (IntKind.wrap IntKind.i64 (IntKind.wrap IntKind.i64 (16 * (ixor IntKind.u8 b 85 % 16)) + 8))))] []) (ps := []) (by kernel_rfl) (.nil) (st'' := St.mk [(2, AV.c (Value.int IntKind.i16 0)), (4, AV.c (Value.int IntKind.i64 (ixor IntKind.u8 b 85 / 128))), (5, AV.c (Value.int IntKind.i64 (ixor IntKind.u8 b 85 / 16 % 8))), (6, AV.c (Value.int IntKind.i64 (ixor IntKind.u8 b 85 % 16))), (7, AV.c (Value.int IntKind.i64 (16 * (ixor IntKind.u8 b 85 % 16) + 8)))] []) (by simp (disch := omega) only [wrap_i8, wrap_i16, wrap_i32, wrap_i64, wrap_u8, wrap_u16, wrap_u32, wrap_u64, Int.tdiv_eq_ediv_of_nonneg, Int.tmod_eq_emod_of_nonneg, Int.toNat_natCast, Int.reduceToNat, Nat.mul_one, Nat.zero_add, Nat.add_zero, Nat.one_mul, Int.one_mul, Int.zero_add, Int.add_zero, Int.mul_one, List.drop_zero, List.take_length, Int.zero_sub]) ?_
  refine seqK_n ?_
  refine VC.seq ?_
  refine VC.seq ?_
  refine VC.region (E := E) (C := C0) E_ok mixed (by first | exact fun _ => rfl | exact fun h => by cases h) [2, 4, 5, 6, 7, 22, 23, 24, 25, 26, 27, 28, 29, 30, 31, 32, 33, 34, 35] (st' := St.mk [(2, AV.c (Value.int IntKind.i16 0)), (4, AV.c (Value.int IntKind.i64 (ixor IntKind.u8 b 85 / 128))), (5, AV.c (Value.int IntKind.i64 (ixor IntKind.u8 b 85 / 16 % 8))), (6, AV.c (Value.int IntKind.i64 (ixor IntKind.u8 b 85 % 16))), (7, AV.c (Value.int IntKind.i64 (16 * (ixor IntKind.u8 b 85 % 16) + 8))), (22, AV.c (Value.bool (decide (0 < ixor IntKind.u8 b 85 / 16 % 8))))] []) (ps := []) (by kernel_rfl) (.nil) ?_
  refine seqK_n ?_
  refine VC.cond (b := decide (0 < ixor IntKind.u8 b 85 / 16 % 8)) (by kernel_rfl) (fun h1 => ?_) (fun h1 => ?_)
  ·
    simp at h1
    refine VC.regionE (E := E) (C := C0) E_ok mixed (by first | exact fun _ => rfl | exact fun h => by cases h) [2, 4, 7, 30, 31, 32, 33, 34, 35] (st' := St.mk [(2, AV.c (Value.int IntKind.i16 0)), (4, AV.c (Value.int IntKind.i64 (ixor IntKind.u8 b 85 / 128))), (7, AV.c (Value.int IntKind.i64 (IntKind.wrap IntKind.i64 (IntKind.wrap IntKind.i64 (IntKind.wrap IntKind.i64 (16 * (ixor IntKind.u8 b 85 % 16)) + 264) * Sp.pow (IntKind.wrap IntKind.i64 (ixor IntKind.u8 b 85 / 16 % 8 - 1))))))] []) (ps := [Con Try.prog L0 (30 : Nat) [] [AV.c (Value.int IntKind.i64 (IntKind.wrap IntKind.i64 (ixor IntKind.u8 b (85 : Int) / (16 : Int) % (8 : Int) - (1 : Int))))] [] (AV.c (Value.int IntKind.i64 (Sp.pow (IntKind.wrap IntKind.i64 (ixor IntKind.u8 b (85 : Int) / (16 : Int) % (8 : Int) - (1 : Int)))))), true = true ∨ True ∧ ∀ (o : HObj), o ∈ [] → HObj.nr o]) (by kernel_rfl) (.cons (by exact con_power _ (by rw [wrap_i64 (by omega) (by omega)]; omega)) (.cons (by simp) (.nil))) (st'' := St.mk [(2, AV.c (Value.int IntKind.i16 0)), (4, AV.c (Value.int IntKind.i64 (ixor IntKind.u8 b 85 / 128))), (7, AV.c (Value.int IntKind.i64 (Sp.sh8 (16 * (ixor IntKind.u8 b 85 % 16) + 264) (ixor IntKind.u8 b 85 / 16 % 8 - 1))))] []) (by simp (disch := omega) only [wrap_i8, wrap_i16, wrap_i32, wrap_i64, wrap_u8, wrap_u16, wrap_u32, wrap_u64, Int.tdiv_eq_ediv_of_nonneg, Int.tmod_eq_emod_of_nonneg, Int.toNat_natCast, Int.reduceToNat, Nat.mul_one, Nat.zero_add, Nat.add_zero, Nat.one_mul, Int.one_mul, Int.zero_add, Int.add_zero, Int.mul_one, List.drop_zero, List.take_length, Int.zero_sub, Sp.mp2 h1]) ?_
    refine seqK_n ?_
    refine VC.seq ?_
    refine VC.seq ?_
    refine VC.region (E := E) (C := C0) E_ok mixed (by first | exact fun _ => rfl | exact fun h => by cases h) [2, 7, 31, 32, 33, 34, 35] (st' := St.mk [(2, AV.c (Value.int IntKind.i16 0)), (7, AV.c (Value.int IntKind.i64 (Sp.sh8 (16 * (ixor IntKind.u8 b 85 % 16) + 264) (ixor IntKind.u8 b 85 / 16 % 8 - 1)))), (31, AV.c (Value.bool (ixor IntKind.u8 b 85 / 128 == 0)))] []) (ps := []) (by kernel_rfl) (.nil) ?_
    refine seqK_n ?_
    refine VC.cond (b := ixor IntKind.u8 b 85 / 128 == 0) (by kernel_rfl) (fun h2 => ?_) (fun h2 => ?_)
    ·
      simp at h2
      refine VC.regionE (E := E) (C := C0) E_ok mixed (by first | exact fun _ => rfl | exact fun h => by cases h) [2, 7, 34, 35] (st' := St.mk [(2, AV.c (Value.int IntKind.i16 0)), (7, AV.c (Value.int IntKind.i64 (IntKind.wrap IntKind.i64 (0 - Sp.sh8 (16 * (ixor IntKind.u8 b 85 % 16) + 264) (ixor IntKind.u8 b 85 / 16 % 8 - 1)))))] []) (ps := []) (by kernel_rfl) (.nil) (st'' := St.mk [(2, AV.c (Value.int IntKind.i16 0)), (7, AV.c (Value.int IntKind.i64 (-Sp.sh8 (16 * (ixor IntKind.u8 b 85 % 16) + 264) (ixor IntKind.u8 b 85 / 16 % 8 - 1))))] []) (by simp (disch := omega) only [wrap_i8, wrap_i16, wrap_i32, wrap_i64, wrap_u8, wrap_u16, wrap_u32, wrap_u64, Int.tdiv_eq_ediv_of_nonneg, Int.tmod_eq_emod_of_nonneg, Int.toNat_natCast, Int.reduceToNat, Nat.mul_one, Nat.zero_add, Nat.add_zero, Nat.one_mul, Int.one_mul, Int.zero_add, Int.add_zero, Int.mul_one, List.drop_zero, List.take_length, Int.zero_sub, Sp.mp2 h1]) ?_
      refine seqK_n ?_
      refine VC.seq ?_
      refine VC.regionE (E := E) (C := C0) E_ok mixed (by first | exact fun _ => rfl | exact fun h => by cases h) [2] (st' := St.mk [(2, AV.c (Value.int IntKind.i16 (IntKind.wrap IntKind.i16 (-Sp.sh8 (16 * (ixor IntKind.u8 b 85 % 16) + 264) (ixor IntKind.u8 b 85 / 16 % 8 - 1)))))] []) (ps := []) (by kernel_rfl) (.nil) (st'' := St.mk [(2, AV.c (Value.int IntKind.i16 (-Sp.sh8 (16 * (ixor IntKind.u8 b 85 % 16) + 264) (ixor IntKind.u8 b 85 / 16 % 8 - 1))))] []) (by simp (disch := omega) only [wrap_i8, wrap_i16, wrap_i32, wrap_i64, wrap_u8, wrap_u16, wrap_u32, wrap_u64, Int.tdiv_eq_ediv_of_nonneg, Int.tmod_eq_emod_of_nonneg, Int.toNat_natCast, Int.reduceToNat, Nat.mul_one, Nat.zero_add, Nat.add_zero, Nat.one_mul, Int.one_mul, Int.zero_add, Int.add_zero, Int.mul_one, List.drop_zero, List.take_length, Int.zero_sub, Sp.mp2 h1]) ?_
      refine seqK_n ?_
      refine VC.ret ?_
      exact Fin.all [] (.inr rfl) (l := [AV.c (Value.int IntKind.i16 (-Sp.sh8 (16 * (ixor IntKind.u8 b 85 % 16) + 264) (ixor IntKind.u8 b 85 / 16 % 8 - 1)))]) (ps := []) (by kernel_rfl) (by kernel_rfl) (.nil) (All.of (l' := []) (by kernel_rfl) (.nil)) (show AV.c (Value.int IntKind.i16 (-Sp.sh8 (16 * (ixor IntKind.u8 b 85 % 16) + 264) (ixor IntKind.u8 b 85 / 16 % 8 - 1))) = AV.c (Value.int IntKind.i16 (Sp.fa0 (ixor IntKind.u8 b 85))) by refine cong1 ?_; have hs1 := hs h1; simp (disch := omega) only [wrap_i64, wrap_i16, Int.zero_sub, Sp.fa0, if_pos, if_neg])
    ·
      simp at h2
      refine VC.skip ?_
      refine seqK_n ?_
      refine VC.seq ?_
      refine VC.regionE (E := E) (C := C0) E_ok mixed (by first | exact fun _ => rfl | exact fun h => by cases h) [2] (st' := St.mk [(2, AV.c (Value.int IntKind.i16 (IntKind.wrap IntKind.i16 (Sp.sh8 (16 * (ixor IntKind.u8 b 85 % 16) + 264) (ixor IntKind.u8 b 85 / 16 % 8 - 1)))))] []) (ps := []) (by kernel_rfl) (.nil) (st'' := St.mk [(2, AV.c (Value.int IntKind.i16 (Sp.sh8 (16 * (ixor IntKind.u8 b 85 % 16) + 264) (ixor IntKind.u8 b 85 / 16 % 8 - 1))))] []) (by simp (disch := omega) only [wrap_i8, wrap_i16, wrap_i32, wrap_i64, wrap_u8, wrap_u16, wrap_u32, wrap_u64, Int.tdiv_eq_ediv_of_nonneg, Int.tmod_eq_emod_of_nonneg, Int.toNat_natCast, Int.reduceToNat, Nat.mul_one, Nat.zero_add, Nat.add_zero, Nat.one_mul, Int.one_mul, Int.zero_add, Int.add_zero, Int.mul_one, List.drop_zero, List.take_length, Int.zero_sub, Sp.mp2 h1]) ?_
      refine seqK_n ?_
      refine VC.ret ?_
      exact Fin.all [] (.inr rfl) (l := [AV.c (Value.int IntKind.i16 (Sp.sh8 (16 * (ixor IntKind.u8 b 85 % 16) + 264) (ixor IntKind.u8 b 85 / 16 % 8 - 1)))]) (ps := []) (by kernel_rfl) (by kernel_rfl) (.nil) (All.of (l' := []) (by kernel_rfl) (.nil)) (show AV.c (Value.int IntKind.i16 (Sp.sh8 (16 * (ixor IntKind.u8 b 85 % 16) + 264) (ixor IntKind.u8 b 85 / 16 % 8 - 1))) = AV.c (Value.int IntKind.i16 (Sp.fa0 (ixor IntKind.u8 b 85))) by refine cong1 ?_; have hs1 := hs h1; simp (disch := omega) only [wrap_i64, wrap_i16, Int.zero_sub, Sp.fa0, if_pos, if_neg])
  ·
    simp at h1
    refine VC.skip ?_
    refine seqK_n ?_
    refine VC.seq ?_
    refine VC.seq ?_
    refine VC.region (E := E) (C := C0) E_ok mixed (by first | exact fun _ => rfl | exact fun h => by cases h) [2, 7, 31, 32, 33, 34, 35] (st' := St.mk [(2, AV.c (Value.int IntKind.i16 0)), (7, AV.c (Value.int IntKind.i64 (16 * (ixor IntKind.u8 b 85 % 16) + 8))), (31, AV.c (Value.bool (ixor IntKind.u8 b 85 / 128 == 0)))] []) (ps := []) (by kernel_rfl) (.nil) ?_
    refine seqK_n ?_
    refine VC.cond (b := ixor IntKind.u8 b 85 / 128 == 0) (by kernel_rfl) (fun h3 => ?_) (fun h3 => ?_)
    ·
      simp at h3
      refine VC.regionE (E := E) (C := C0) E_ok mixed (by first | exact fun _ => rfl | exact fun h => by cases h) [2, 7, 34, 35] (st' := St.mk [(2, AV.c (Value.int IntKind.i16 0)), (7, AV.c (Value.int IntKind.i64 (IntKind.wrap IntKind.i64 (0 - (16 * (ixor IntKind.u8 b 85 % 16) + 8)))))] []) (ps := []) (by kernel_rfl) (.nil) (st'' := St.mk [(2, AV.c (Value.int IntKind.i16 0)), (7, AV.c (Value.int IntKind.i64 (-(16 * (ixor IntKind.u8 b 85 % 16) + 8))))] []) (by simp (disch := omega) only [wrap_i8, wrap_i16, wrap_i32, wrap_i64, wrap_u8, wrap_u16, wrap_u32, wrap_u64, Int.tdiv_eq_ediv_of_nonneg, Int.tmod_eq_emod_of_nonneg, Int.toNat_natCast, Int.reduceToNat, Nat.mul_one, Nat.zero_add, Nat.add_zero, Nat.one_mul, Int.one_mul, Int.zero_add, Int.add_zero, Int.mul_one, List.drop_zero, List.take_length, Int.zero_sub]) ?_
      refine seqK_n ?_
      refine VC.seq ?_
      refine VC.regionE (E := E) (C := C0) E_ok mixed (by first | exact fun _ => rfl | exact fun h => by cases h) [2] (st' := St.mk [(2, AV.c (Value.int IntKind.i16 (IntKind.wrap IntKind.i16 (-(16 * (ixor IntKind.u8 b 85 % 16) + 8)))))] []) (ps := []) (by kernel_rfl) (.nil) (st'' := St.mk [(2, AV.c (Value.int IntKind.i16 (-(16 * (ixor IntKind.u8 b 85 % 16) + 8))))] []) (by simp (disch := omega) only [wrap_i8, wrap_i16, wrap_i32, wrap_i64, wrap_u8, wrap_u16, wrap_u32, wrap_u64, Int.tdiv_eq_ediv_of_nonneg, Int.tmod_eq_emod_of_nonneg, Int.toNat_natCast, Int.reduceToNat, Nat.mul_one, Nat.zero_add, Nat.add_zero, Nat.one_mul, Int.one_mul, Int.zero_add, Int.add_zero, Int.mul_one, List.drop_zero, List.take_length, Int.zero_sub]) ?_
      refine seqK_n ?_
      refine VC.ret ?_
      exact Fin.all [] (.inr rfl) (l := [AV.c (Value.int IntKind.i16 (-(16 * (ixor IntKind.u8 b 85 % 16) + 8)))]) (ps := []) (by kernel_rfl) (by kernel_rfl) (.nil) (All.of (l' := []) (by kernel_rfl) (.nil)) (show AV.c (Value.int IntKind.i16 (-(16 * (ixor IntKind.u8 b 85 % 16) + 8))) = AV.c (Value.int IntKind.i16 (Sp.fa0 (ixor IntKind.u8 b 85))) by refine cong1 ?_; simp (disch := omega) only [wrap_i64, wrap_i16, Int.zero_sub, Sp.fa0, if_pos, if_neg])
    ·
      simp at h3
      refine VC.skip ?_
      refine seqK_n ?_
      refine VC.seq ?_
      refine VC.regionE (E := E) (C := C0) E_ok mixed (by first | exact fun _ => rfl | exact fun h => by cases h) [2] (st' := St.mk [(2, AV.c (Value.int IntKind.i16 (IntKind.wrap IntKind.i16 (16 * (ixor IntKind.u8 b 85 % 16) + 8))))] []) (ps := []) (by kernel_rfl) (.nil) (st'' := St.mk [(2, AV.c (Value.int IntKind.i16 (16 * (ixor IntKind.u8 b 85 % 16) + 8)))] []) (by simp (disch := omega) only [wrap_i8, wrap_i16, wrap_i32, wrap_i64, wrap_u8, wrap_u16, wrap_u32, wrap_u64, Int.tdiv_eq_ediv_of_nonneg, Int.tmod_eq_emod_of_nonneg, Int.toNat_natCast, Int.reduceToNat, Nat.mul_one, Nat.zero_add, Nat.add_zero, Nat.one_mul, Int.one_mul, Int.zero_add, Int.add_zero, Int.mul_one, List.drop_zero, List.take_length, Int.zero_sub]) ?_
      refine seqK_n ?_
      refine VC.ret ?_
      exact Fin.all [] (.inr rfl) (l := [AV.c (Value.int IntKind.i16 (16 * (ixor IntKind.u8 b 85 % 16) + 8))]) (ps := []) (by kernel_rfl) (by kernel_rfl) (.nil) (All.of (l' := []) (by kernel_rfl) (.nil)) (show AV.c (Value.int IntKind.i16 (16 * (ixor IntKind.u8 b 85 % 16) + 8)) = AV.c (Value.int IntKind.i16 (Sp.fa0 (ixor IntKind.u8 b 85))) by refine cong1 ?_; simp (disch := omega) only [wrap_i64, wrap_i16, Int.zero_sub, Sp.fa0, if_pos, if_neg])

end Go.Proofs.Ytmghbhaocfehnaa
