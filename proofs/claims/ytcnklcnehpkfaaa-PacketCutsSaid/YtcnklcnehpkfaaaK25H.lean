/-
  A part of the walk: contracts of functions, each proved once.
-/
import Derived.Test.YtcnklcnehpkfaaaEvRun
import Derived.Test.YtcnklcnehpkfaaaK25G
namespace Go.Proofs.Ytcnklcnehpkfaaa
open Go Go.Ev
set_option linter.unusedVariables false
set_option linter.unusedSimpArgs false
set_option maxRecDepth 20000
set_option maxHeartbeats 1000000
def C3o : Tab where
  own f := f == 31
  kill := false
  run f h a := C2.run f h a
def C3 : Tab where
  own f := f == 31
  run f h a := match f, h, a with
    | 31, [.oo _ 1 [[.c (.int .i64 p)]], .oo _ 1 [[.ri .u8 b]]], [.c (.int .i64 n), .p 0 0, .p 1 0] => some ([.oo 3 1 [[.c (.int .i64 (p + n))]], .oo 25 1 [[.ri .u8 b]]], .ri .u8 (Sp.cut b p n))
    | 32, [], [.ri .u8 l] => some ([], .c (.int .u32 (Sp.val l)))
    | 34, [], [.ri .u8 l] => some ([], .c (.int .i64 (Sp.val l)))
    | 33, [], [.ri .u8 l] => some ([], .t [.c (.int .i64 (Sp.pd l)), .c (.int .i64 (Sp.pw l))])
    | 13, [], [.a [.c (.bool mk), .c (.int .u8 ty), .c (.int .u16 sq), .c (.int .u32 tm), .c (.int .u32 sr), .ri .u32 mx, .c (.bool ex), .c (.int .u16 ek), .ri .u8 xt, .ri .u8 pl, .c (.int .i64 pad)]] => some ([], .t [.ri .u8 (Sp.enc ⟨mk, ty, sq, tm, sr, mx, ex, ek, xt, pl, pad⟩), .c (.int .u8 (Sp.chk ⟨mk, ty, sq, tm, sr, mx, ex, ek, xt, pl, pad⟩))])
    | 14, [], [.a [.c (.bool mk), .c (.int .u8 ty), .c (.int .u16 sq), .c (.int .u32 tm), .c (.int .u32 sr), .ri .u32 mx, .c (.bool ex), .c (.int .u16 ek), .ri .u8 xt, .ri .u8 pl, .c (.int .i64 pad)]] => some ([], .t [.ri .u8 (Sp.enc ⟨mk, ty, sq, tm, sr, mx, ex, ek, xt, pl, pad⟩), .c (.int .u8 (Sp.chk ⟨mk, ty, sq, tm, sr, mx, ex, ek, xt, pl, pad⟩))])
    | f, h, a => C2.run f h a
theorem con_next (b : List Int) (p n : Int) (hp : 0 ≤ p) (hn : 0 ≤ n) (h : p + n ≤ b.length) (hl : b.length ≤ 100000) : Con Try.prog L0 31 [.oo 3 1 [[.c (.int .i64 p)]], .oo 25 1 [[.ri .u8 b]]] [.c (.int .i64 n), .p 0 0, .p 1 0] [.oo 3 1 [[.c (.int .i64 (p + n))]], .oo 25 1 [[.ri .u8 b]]] (.ri .u8 (Sp.cut b p n)) := by
  refine con_of_runO C3o (.p (0 < 1) (.ci 0 0 (IntKind.wrap .i64 (p + n)) (p + n) (.p (0 ≤ p) (.p (p ≤ p + n) (.p (p + n ≤ p + n) (.p (p + n ≤ (↑b.length : Int)) (.k [4] (.e .ret (.mk [(4, .ri .u8 (List.drop p.toNat (List.take (p + n).toNat b)))] [.oo 3 1 [[.c (.int .i64 (p + n))]], .oo 25 1 [[.ri .u8 b]]]))))))))) E_ok mixed Try.func31 rfl Try.call31 (Nat.le_of_ble_eq_true rfl) (by kernel_rfl) ?_
  exact .p (.ci (by simp (disch := omega) only [wrap_i64]) (.p (.o (.o (.p (.k (.e (.of (Fin.all [] (.inr rfl) (l := [AV.ri IntKind.u8 (List.drop (Int.toNat p) (List.take (Int.toNat (p + n)) b))]) (ps := []) (by kernel_rfl) (by kernel_rfl) (.nil) (All.of (l' := [HObj.oo (3 : TypeId) (1 : Nat) [[AV.c (Value.int IntKind.i64 (p + n))]] = HObj.dead ∨ HObj.oo (3 : TypeId) (1 : Nat) [[AV.c (Value.int IntKind.i64 (p + n))]] = HObj.oo (3 : TypeId) (1 : Nat) [[AV.c (Value.int IntKind.i64 (p + n))]], HObj.oo (25 : TypeId) (1 : Nat) [[AV.ri IntKind.u8 b]] = HObj.dead ∨ HObj.oo (25 : TypeId) (1 : Nat) [[AV.ri IntKind.u8 b]] = HObj.oo (25 : TypeId) (1 : Nat) [[AV.ri IntKind.u8 b]]]) (by kernel_rfl) (.cons (by exact .inr rfl) (.cons (by exact .inr rfl) (.nil)))) (show AV.ri IntKind.u8 (List.drop (Int.toNat p) (List.take (Int.toNat (p + n)) b)) = AV.ri IntKind.u8 (Sp.cut b p n) by trivial))))))))))
theorem con_num (b : List Int) (hb : ∀ x ∈ b, 0 ≤ x ∧ x ≤ 255) (hl : b.length ≤ 4) : Con Try.prog L0 32 [] [.ri .u8 b] [] (.c (.int .u32 (Sp.val b))) := by
  refine con_of_run C3 (.t (.t (.t (.k [2, 3, 6, 7, 8] (.l (cA Try.f32 [1, 1, 0, 1, 0]) (fA Try.f32 [1, 1, 0, 1, 0]) (.mk [(2, .c (.int .u32 0)), (3, .c (.int .u32 0)), (6, .ri .u8 b), (7, .c (.int .i64 (↑b.length : Int))), (8, .c (.int .i64 0))] [])))))) E_ok mixed Try.func32 rfl Try.call32 (Nat.le_of_ble_eq_true rfl) (by kernel_rfl) ?_
  refine .t (.t (.t (.k (.l (VC.loopA (Y := {j : Nat // j ≤ b.length}) (fun j => ⟨[(2, .c (.int .u32 0)), (3, .c (.int .u32 (Sp.val (b.take j.1)))), (6, .ri .u8 b), (7, .c (.int .i64 (b.length : Nat))), (8, .c (.int .i64 (j.1 : Nat)))], []⟩) (fun j => b.length - j.1) ⟨0, by omega⟩ (body := cA Try.f32 [1, 1, 0, 1, 0, 0]) (by kernel_rfl) (.mapR [] [] (by kernel_rfl) (by kernel_rfl) (by kernel_rfl)) ?_)))))
  intro ⟨j, hj⟩
  refine VC.run 1 C3 (.t (.b (decide ((↑j : Int) < (↑b.length : Int))) (.p (0 ≤ (↑j : Int)) (.p ((↑j : Int) < (↑b.length : Int)) (.p ((↑j : Int).toNat * 1 < b.length) (.p ((0 : Int) ≤ (8 : Int)) (.i 3 (ior .u32 (ishl .u32 (Sp.val (List.take j b)) 8) (IntKind.wrap .u32 (List.getD b (Int.toNat (↑j : Int) * 1) 0))) (ior .u32 (ishl .u32 (Sp.val (List.take j b)) 8) (IntKind.wrap .u32 (List.getD b j 0))) (.t (.i 8 (IntKind.wrap .i64 ((↑j : Int) + 1)) ((↑j : Int) + 1) (.i 3 (ior .u32 (ishl .u32 (Sp.val (List.take j b)) 8) (IntKind.wrap .u32 (List.getD b j 0))) (Sp.val (List.take (j + 1) b)) (.k [2, 3, 6, 7, 8] (.e .normal (.mk [(2, .c (.int .u32 0)), (3, .c (.int .u32 (Sp.val (List.take (j + 1) b)))), (6, .ri .u8 b), (7, .c (.int .i64 (↑b.length : Int))), (8, .c (.int .i64 ((↑j : Int) + 1)))] []))))))))))) (.k [2, 3] (.e (.exit 0) (.mk [(2, .c (.int .u32 0)), (3, .c (.int .u32 (Sp.val (List.take j b))))] []))))) E_ok mixed (by kernel_rfl) ?_
  refine .t (.b (fun h1 => ?_) (fun h1 => ?_))
  · simp [-List.getD_eq_getElem?_getD] at h1
    exact .o (.o (.o (.p (.i' (.t (.i' (.i (by exact Sp.num_w hb (by omega) hl) (.k (.e (.next (⟨j + 1, by omega⟩) (by dsimp only; omega) (.mapR [] [] (by kernel_rfl) (by kernel_rfl) (by kernel_rfl))))))))))))
  · simp [-List.getD_eq_getElem?_getD] at h1
    refine .k (.e (.out ?_))
    refine KE.run 2 C3 (.r (.c (.int .u32 (Sp.val (List.take j b))))) E_ok mixed (by kernel_rfl) ?_
    exact .r (by rw [List.take_of_length_le (by omega)])
theorem con_val (b : List Int) (hb : ∀ x ∈ b, 0 ≤ x ∧ x ≤ 255) (hl : b.length ≤ 4) : Con Try.prog L0 34 [] [.ri .u8 b] [] (.c (.int .i64 (Sp.val b))) := by
  refine con_of_run C3 (.t (.t (.t (.k [0, 3, 4] (.l (cA Try.f34 [1, 1, 0, 1, 0]) (fA Try.f34 [1, 1, 0, 1, 0]) (.mk [(0, .ri .u8 b), (3, .c (.int .i64 0)), (4, .c (.int .i64 0))] [])))))) E_ok mixed Try.func34 rfl Try.call34 (Nat.le_of_ble_eq_true rfl) (by kernel_rfl) ?_
  refine .t (.t (.t (.k (.l (VC.loopA (Y := {j : Nat // j ≤ b.length}) (fun j => ⟨[(0, .ri .u8 b), (3, .c (.int .i64 (Sp.val (b.take j.1)))), (4, .c (.int .i64 (j.1 : Nat)))], []⟩) (fun j => b.length - j.1) ⟨0, by omega⟩ (body := cA Try.f34 [1, 1, 0, 1, 0, 0]) (by kernel_rfl) (.mapR [] [] (by kernel_rfl) (by kernel_rfl) (by kernel_rfl)) ?_)))))
  intro ⟨j, hj⟩
  refine VC.run 1 C3 (.t (.b (decide ((↑j : Int) < (↑b.length : Int))) (.p (0 ≤ (↑j : Int)) (.p ((↑j : Int) < (↑b.length : Int)) (.p ((↑j : Int).toNat * 1 < b.length) (.i 3 (IntKind.wrap .i64 (IntKind.wrap .i64 (256 * Sp.val (List.take j b)) + IntKind.wrap .i64 (List.getD b (Int.toNat (↑j : Int) * 1) 0))) (IntKind.wrap .i64 (IntKind.wrap .i64 (256 * Sp.val (List.take j b)) + IntKind.wrap .i64 (List.getD b j 0))) (.t (.i 4 (IntKind.wrap .i64 ((↑j : Int) + 1)) ((↑j : Int) + 1) (.i 3 (IntKind.wrap .i64 (IntKind.wrap .i64 (256 * Sp.val (List.take j b)) + IntKind.wrap .i64 (List.getD b j 0))) (Sp.val (List.take (j + 1) b)) (.k [0, 3, 4] (.e .normal (.mk [(0, .ri .u8 b), (3, .c (.int .i64 (Sp.val (List.take (j + 1) b)))), (4, .c (.int .i64 ((↑j : Int) + 1)))] [])))))))))) (.k [3] (.e (.exit 0) (.mk [(3, .c (.int .i64 (Sp.val (List.take j b))))] []))))) E_ok mixed (by kernel_rfl) ?_
  refine .t (.b (fun h1 => ?_) (fun h1 => ?_))
  · simp [-List.getD_eq_getElem?_getD] at h1
    exact .o (.o (.o (.i' (.t (.i' (.i (by exact Sp.val_w hb (by omega) hl) (.k (.e (.next (⟨j + 1, by omega⟩) (by dsimp only; omega) (.mapR [] [] (by kernel_rfl) (by kernel_rfl) (by kernel_rfl)))))))))))
  · simp [-List.getD_eq_getElem?_getD] at h1
    refine .k (.e (.out ?_))
    refine KE.run 2 C3 (.r (.c (.int .i64 (Sp.val (List.take j b))))) E_ok mixed (by kernel_rfl) ?_
    exact .r (by rw [List.take_of_length_le (by omega)])
theorem con_padding (b : List Int) (hb : ∀ x ∈ b, 0 ≤ x ∧ x ≤ 255) (hl : b.length ≤ 100000) : Con Try.prog L0 33 [] [.ri .u8 b] [] (.t [.c (.int .i64 (Sp.pd b)), .c (.int .i64 (Sp.pw b))]) := by
  have hl0 := Sp.lst_rng hb
  refine con_of_run C3 (.t (.t (.i 4 (IntKind.wrap .i64 ((↑(List.length b) : Int) - 1)) ((↑b.length : Int) - 1) (.p ((!decide ((↑b.length : Int) - 1 < 0)) = true → (!decide ((↑b.length : Int) - 1 < 0)) = true ∧ (!decide ((↑b.length : Int) - 1 < 0)) = true ∧ 0 ≤ (↑b.length : Int) - 1 ∧ (↑b.length : Int) - 1 < (↑b.length : Int) ∧ True) (.p ((!decide ((↑b.length : Int) - 1 < 0)) = true → (!decide ((↑b.length : Int) - 1 < 0)) = true ∧ ((↑b.length : Int) - 1).toNat * 1 < b.length ∧ True) (.p ((!decide ((↑b.length : Int) - 1 < 0)) = true → (!decide ((↑b.length : Int) - 1 < 0)) = true ∧ True) (.p (decide ((↑b.length : Int) - 1 < 0) = true → True) (.p (decide ((↑b.length : Int) - 1 < 0) = false → (!decide ((↑b.length : Int) - 1 < 0)) = true ∧ True) (.p ((!if decide ((↑b.length : Int) - 1 < 0) = true then true else b.getD (((↑b.length : Int) - 1).toNat * 1) 0 == 0) = true → (!if decide ((↑b.length : Int) - 1 < 0) = true then true else b.getD (((↑b.length : Int) - 1).toNat * 1) 0 == 0) = true ∧ (!if decide ((↑b.length : Int) - 1 < 0) = true then true else b.getD (((↑b.length : Int) - 1).toNat * 1) 0 == 0) = true ∧ 0 ≤ (↑b.length : Int) - 1 ∧ (↑b.length : Int) - 1 < (↑b.length : Int) ∧ True) (.p ((!if decide ((↑b.length : Int) - 1 < 0) = true then true else b.getD (((↑b.length : Int) - 1).toNat * 1) 0 == 0) = true → (!if decide ((↑b.length : Int) - 1 < 0) = true then true else b.getD (((↑b.length : Int) - 1).toNat * 1) 0 == 0) = true ∧ ((↑b.length : Int) - 1).toNat * 1 < b.length ∧ True) (.p ((!if decide ((↑b.length : Int) - 1 < 0) = true then true else b.getD (((↑b.length : Int) - 1).toNat * 1) 0 == 0) = true → (!if decide ((↑b.length : Int) - 1 < 0) = true then true else b.getD (((↑b.length : Int) - 1).toNat * 1) 0 == 0) = true ∧ True) (.p ((!if decide ((↑b.length : Int) - 1 < 0) = true then true else b.getD (((↑b.length : Int) - 1).toNat * 1) 0 == 0) = true → (!if decide ((↑b.length : Int) - 1 < 0) = true then true else b.getD (((↑b.length : Int) - 1).toNat * 1) 0 == 0) = true ∧ True) (.p ((!if decide ((↑b.length : Int) - 1 < 0) = true then true else b.getD (((↑b.length : Int) - 1).toNat * 1) 0 == 0) = true → (!if decide ((↑b.length : Int) - 1 < 0) = true then true else b.getD (((↑b.length : Int) - 1).toNat * 1) 0 == 0) = true ∧ (!if decide ((↑b.length : Int) - 1 < 0) = true then true else b.getD (((↑b.length : Int) - 1).toNat * 1) 0 == 0) = true ∧ True) (.p ((if decide ((↑b.length : Int) - 1 < 0) = true then true else b.getD (((↑b.length : Int) - 1).toNat * 1) 0 == 0) = true → True) (.p ((if decide ((↑b.length : Int) - 1 < 0) = true then true else b.getD (((↑b.length : Int) - 1).toNat * 1) 0 == 0) = false → (!if decide ((↑b.length : Int) - 1 < 0) = true then true else b.getD (((↑b.length : Int) - 1).toNat * 1) 0 == 0) = true ∧ True) (.b (if (if decide ((↑(List.length b) : Int) - 1 < 0) = true then true else List.getD b (Int.toNat ((↑(List.length b) : Int) - 1) * 1) 0 == 0) = true then true else decide ((↑(List.length b) : Int) < IntKind.wrap .i64 (List.getD b (Int.toNat ((↑(List.length b) : Int) - 1) * 1) 0))) (.r (.t [.c (.int .i64 0), .c (.int .i64 (imax ((↑b.length : Int) - 1) 0))])) (.p (0 ≤ (↑b.length : Int) - 1) (.p ((↑b.length : Int) - 1 < (↑b.length : Int)) (.p (((↑b.length : Int) - 1).toNat * 1 < b.length) (.i 5 (IntKind.wrap .i64 (List.getD b (Int.toNat ((↑(List.length b) : Int) - 1) * 1) 0)) (Sp.lst b) (.t (.i 6 (IntKind.wrap .i64 (IntKind.wrap .i64 ((↑(List.length b) : Int) - 1 + 1) - Sp.lst b)) ((↑b.length : Int) - 1 + 1 - Sp.lst b) (.i 6 ((↑b.length : Int) - 1 + 1 - Sp.lst b) ((↑(b.length - (Sp.lst b).toNat) : Int)) (.k [0, 2, 3, 4, 5, 6] (.l (cA Try.f33 [1, 0, 1, 1, 1, 1, 0, 1, 0]) (fA Try.f33 [1, 0, 1, 1, 1, 1, 0, 1, 0]) (.mk [(0, .ri .u8 b), (2, .c (.int .i64 0)), (3, .c (.int .i64 0)), (4, .c (.int .i64 ((↑b.length : Int) - 1))), (5, .c (.int .i64 (Sp.lst b))), (6, .c (.int .i64 (↑(b.length - (Sp.lst b).toNat) : Int)))] [])))))))))))))))))))))))))) E_ok mixed Try.func33 rfl Try.call33 (Nat.le_of_ble_eq_true rfl) (by kernel_rfl) ?_
  refine .t (.t (.i' (.q ((fun g1 => ⟨(by trivial), ⟨(by trivial), ⟨(by simp at *; omega), ⟨(by omega), trivial⟩⟩⟩⟩)) (.q ((fun g1 => ⟨(by trivial), ⟨(by simp at *; omega), trivial⟩⟩)) (.h (.h (.h (.q ((fun g1 => ⟨(by trivial), ⟨(by trivial), ⟨(by simp at *; omega), ⟨(by omega), trivial⟩⟩⟩⟩)) (.q ((fun g1 => ⟨(by trivial), ⟨(by simp at *; omega), trivial⟩⟩)) (.h (.h (.q ((fun g1 => ⟨(by trivial), ⟨(by trivial), trivial⟩⟩)) (.h (.h (.b (fun h1 => ?_) (fun h1 => ?_))))))))))))))))
  · simp (disch := omega) only [Nat.mul_one, Sp.bt_def, Sp.lst_w, wrap_i64] at h1
    simp [-List.getD_eq_getElem?_getD] at h1
    exact .r (by rw [(Sp.pad_lo (by omega)).1, (Sp.pad_lo (by omega)).2])
  · simp (disch := omega) only [Nat.mul_one, Sp.bt_def, Sp.lst_w, wrap_i64] at h1
    simp [-List.getD_eq_getElem?_getD] at h1
    refine .o (.o (.o (.i (by simp (disch := omega) only [Nat.mul_one, Sp.bt_def, Sp.lst_w, wrap_i64]) (.t (.i' (.i (by omega) (.k (.l (VC.loopA (Y := {i : Nat // b.length - (Sp.lst b).toNat ≤ i ∧ i ≤ b.length - 1 ∧ Sp.pend b = Sp.nz b i (b.length - 1 - i)}) (fun j => ⟨[(0, .ri .u8 b), (2, .c (.int .i64 0)), (3, .c (.int .i64 0)), (4, .c (.int .i64 ((b.length : Int) - 1))), (5, .c (.int .i64 (Sp.lst b))), (6, .c (.int .i64 (j.1 : Nat)))], []⟩) (fun j => b.length - j.1) ⟨b.length - (Sp.lst b).toNat, by omega, by omega, Sp.pend_0 (by omega) hl0.1 (by omega)⟩ (body := cA Try.f33 [1, 0, 1, 1, 1, 1, 0, 1, 0, 0]) (by kernel_rfl) (.mapR [] [] (by kernel_rfl) (by kernel_rfl) (by kernel_rfl)) ?_)))))))))
    intro ⟨j, hj⟩
    refine VC.run 1 C3 (.t (.b (decide ((↑j : Int) < (↑b.length : Int) - 1)) (.p (0 ≤ (↑j : Int)) (.p ((↑j : Int) < (↑b.length : Int)) (.p ((↑j : Int).toNat * 1 < b.length) (.b (b.getD ((↑j : Int).toNat * 1) 0 == 0) (.t (.i 6 (IntKind.wrap .i64 ((↑j : Int) + 1)) ((↑j : Int) + 1) (.k [0, 2, 3, 4, 5, 6] (.e .normal (.mk [(0, .ri .u8 b), (2, .c (.int .i64 0)), (3, .c (.int .i64 0)), (4, .c (.int .i64 ((↑b.length : Int) - 1))), (5, .c (.int .i64 (Sp.lst b))), (6, .c (.int .i64 ((↑j : Int) + 1)))] []))))) (.r (.t [.c (.int .i64 0), .c (.int .i64 (↑j : Int))])))))) (.k [2, 3, 5] (.e (.exit 0) (.mk [(2, .c (.int .i64 0)), (3, .c (.int .i64 0)), (5, .c (.int .i64 (Sp.lst b)))] []))))) E_ok mixed (by kernel_rfl) ?_
    refine .t (.b (fun h2 => ?_) (fun h2 => ?_))
    · simp [-List.getD_eq_getElem?_getD] at h2
      refine .o (.o (.o (.b (fun h3 => ?_) (fun h3 => ?_))))
      · simp (disch := omega) only [Int.toNat_natCast, Nat.mul_one, Sp.bt_def] at h3
        simp [-List.getD_eq_getElem?_getD] at h3
        exact .t (.i' (.k (.e (.next (⟨j + 1, by omega, by omega, Sp.pend_s (by omega) (by assumption) hj.2.2⟩) (by dsimp only; omega) (.mapR [] [] (by kernel_rfl) (by kernel_rfl) (by kernel_rfl))))))
      · simp (disch := omega) only [Int.toNat_natCast, Nat.mul_one, Sp.bt_def] at h3
        simp [-List.getD_eq_getElem?_getD] at h3
        exact .r (by have e := Sp.pad_bad (by omega) (by omega) (by omega) (by assumption) hj.2.2; rw [e.1, e.2])
    · simp [-List.getD_eq_getElem?_getD] at h2
      refine .k (.e (.out ?_))
      refine KE.run 2 C3 (.r (.t [.c (.int .i64 (Sp.lst b)), .c (.int .i64 0)])) E_ok mixed (by kernel_rfl) ?_
      exact .r (by have e := Sp.pad_ok (by omega) (by omega) (i := j) (by omega) hj.2.2; rw [e.1, e.2])

end Go.Proofs.Ytcnklcnehpkfaaa
