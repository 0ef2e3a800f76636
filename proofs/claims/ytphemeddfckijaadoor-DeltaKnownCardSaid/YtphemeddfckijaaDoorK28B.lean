/-
  A part of the walk: contracts of functions, each proved once.
-/
import Derived.Test.YtphemeddfckijaaDoorEvR
import Derived.Test.YtphemeddfckijaaDoorK28A
namespace Go.Proofs.YtphemeddfckijaaDoor
open Go Go.Ev
set_option linter.unusedVariables false
set_option linter.unusedSimpArgs false
namespace Sp
def encC (v i x : Int) : Int := if valid v i then code v i x else 0
def encV (v i x : Int) : Int := if valid v i then dv v i (code v i x) else 0
def encI (v i x : Int) : Int := if valid v i then di i (code v i x) else 0
def encE (v i : Int) : Int := if valid v i then 0 else 2
def decX (v i c : Int) : Int := if valid v i then (if 15 < c then 0 else dv v i c) else 0
def decI (v i c : Int) : Int := if valid v i then (if 15 < c then 0 else di i c) else 0
def decE (v i c : Int) : Int := if valid v i then (if 15 < c then 3 else 0) else 2

theorem sub_eq {v i x : Int} (hv : valid v i = true) (hx : -32768 ≤ x ∧ x ≤ 32767) : IntKind.i64.wrap (IntKind.i64.wrap x - v) = x - v := by
  have h := valid_iff.1 hv
  rw [wrap_i64 (x := x) (by omega) (by omega)]; exact wrap_i64 (by omega) (by omega)
theorem code_eq1 {v i x : Int} (hv : valid v i = true) (hx : -32768 ≤ x ∧ x ≤ 32767) (h1 : IntKind.i64.wrap (IntKind.i64.wrap x - v) < 0) :
    IntKind.u8.wrap (IntKind.u8.wrap (imin (IntKind.i64.wrap (Int.tdiv (IntKind.i64.wrap (4 * IntKind.i64.wrap (0 - IntKind.i64.wrap (IntKind.i64.wrap x - v)))) (size i))) 7) + 8) = code v i x := by
  have h := valid_iff.1 hv
  have hs := size_range hv
  rw [sub_eq hv hx] at h1 ⊢
  rw [wrap_i64 (x := 0 - _) (by omega) (by omega), wrap_i64 (x := 4 * _) (by omega) (by omega), Int.tdiv_eq_ediv_of_nonneg (by omega)]
  have e : 4 * (0 - (x - v)) = 4 * (v - x) := by omega
  rw [e]
  have hr := div_range (N := 4 * (v - x)) (by omega) hs.1
  rw [wrap_i64 (x := _ / _) (by omega) (by omega)]
  simp only [code]; rw [if_pos (by omega), if_pos (by omega)]
  generalize 4 * (v - x) / size i = q at hr
  have : 0 ≤ imin q 7 ∧ imin q 7 ≤ 7 := by simp only [imin]; split <;> omega
  rw [wrap_u8 (x := imin q 7) (by omega) (by omega)]; exact wrap_u8 (by omega) (by omega)
theorem code_eq2 {v i x : Int} (hv : valid v i = true) (hx : -32768 ≤ x ∧ x ≤ 32767) (h1 : 0 ≤ IntKind.i64.wrap (IntKind.i64.wrap x - v)) :
    IntKind.u8.wrap (IntKind.u8.wrap (imin (IntKind.i64.wrap (Int.tdiv (IntKind.i64.wrap (4 * IntKind.i64.wrap (IntKind.i64.wrap x - v))) (size i))) 7) + 0) = code v i x := by
  have h := valid_iff.1 hv
  have hs := size_range hv
  rw [sub_eq hv hx] at h1 ⊢
  rw [wrap_i64 (x := 4 * _) (by omega) (by omega), Int.tdiv_eq_ediv_of_nonneg (by omega)]
  have hr := div_range (N := 4 * (x - v)) (by omega) hs.1
  rw [wrap_i64 (x := _ / _) (by omega) (by omega)]
  simp only [code]; rw [if_neg (by omega), if_neg (by omega)]
  generalize 4 * (x - v) / size i = q at hr
  have : 0 ≤ imin q 7 ∧ imin q 7 ≤ 7 := by simp only [imin]; split <;> omega
  rw [wrap_u8 (x := imin q 7) (by omega) (by omega)]; exact wrap_u8 (by omega) (by omega)
theorem dv_range (v i c : Int) : -32768 ≤ dv v i c ∧ dv v i c ≤ 32767 := by
  have := valid_iff.1 (dec_valid (v := v) (i := i) (c := c)); omega
theorem di_range (i c : Int) : 0 ≤ di i c ∧ di i c ≤ 88 := by
  have := valid_iff.1 (dec_valid (v := 0) (i := i) (c := c)); omega
end Sp
def C1 : Tab where
  own f := f == 28
  run f h a := match f, h, a with
    | 9, [], [.a [.c (.int .i64 v), .c (.int .i64 i)], .c (.int .i16 x)] => some ([], .t [.c (.int .u8 (Sp.encC v i x)), .a [.c (.int .i64 (Sp.encV v i x)), .c (.int .i64 (Sp.encI v i x))], .c (.int .u8 (Sp.encE v i))])
    | 10, [], [.a [.c (.int .i64 v), .c (.int .i64 i)], .c (.int .i16 x)] => some ([], .t [.c (.int .u8 (Sp.encC v i x)), .a [.c (.int .i64 (Sp.encV v i x)), .c (.int .i64 (Sp.encI v i x))], .c (.int .u8 (Sp.encE v i))])
    | 11, [], [.a [.c (.int .i64 v), .c (.int .i64 i)], .c (.int .u8 c)] => some ([], .t [.c (.int .i16 (Sp.decX v i c)), .a [.c (.int .i64 (Sp.decX v i c)), .c (.int .i64 (Sp.decI v i c))], .c (.int .u8 (Sp.decE v i c))])
    | 12, [], [.a [.c (.int .i64 v), .c (.int .i64 i)], .c (.int .u8 c)] => some ([], .t [.c (.int .i16 (Sp.decX v i c)), .a [.c (.int .i64 (Sp.decX v i c)), .c (.int .i64 (Sp.decI v i c))], .c (.int .u8 (Sp.decE v i c))])
    | f, h, a => C0.run f h a

theorem con9 (v i x : Int) (hx : -32768 ≤ x ∧ x ≤ 32767) : Con Tryd.prog L0 9 [] [.a [.c (.int .i64 v), .c (.int .i64 i)], .c (.int .i16 x)] [] (.t [.c (.int .u8 (Sp.encC v i x)), .a [.c (.int .i64 (Sp.encV v i x)), .c (.int .i64 (Sp.encI v i x))], .c (.int .u8 (Sp.encE v i))]) := by
  refine con_of_vc E_ok mixed Tryd.func9 rfl Tryd.call9 (Nat.le_of_ble_eq_true rfl) ?_
  refine VC.seq ?_
  refine VC.region (E := E) (C := C1) E_ok mixed [1, 2, 4, 5, 6, 7, 8, 9, 10, 11, 12, 13, 14, 15, 16, 17, 18, 19, 20, 21, 22, 23, 24, 25, 26, 27, 28, 29, 30, 31, 32, 33, 34, 35, 36] (st' := St.mk [(1, AV.c (Value.int IntKind.i16 x)), (2, AV.p 0 0), (4, AV.c (Value.int IntKind.u8 0)), (5, AV.p 1 0), (6, AV.c (Value.int IntKind.u8 0))] [HObj.oo 23 2 [[AV.c (Value.int IntKind.i64 v), AV.c (Value.int IntKind.i64 i)]], HObj.oo 23 2 [[AV.c (Value.int IntKind.i64 0), AV.c (Value.int IntKind.i64 0)]]]) (ps := []) (by kernel_rfl) (.nil) ?_
  refine seqK_n ?_
  refine VC.seq ?_
  refine VC.seq ?_
  refine VC.region (E := E) (C := C1) E_ok mixed [1, 2, 4, 5, 6, 7, 8, 9, 12, 13, 14, 15, 16, 17, 18, 19, 20, 21, 22, 23, 24, 25, 26, 27, 28, 29, 30, 31, 32, 33, 34, 35, 36] (st' := St.mk [(1, AV.c (Value.int IntKind.i16 x)), (2, AV.p 0 0), (4, AV.c (Value.int IntKind.u8 0)), (5, AV.p 1 0), (6, AV.c (Value.int IntKind.u8 0)), (12, AV.c (Value.bool !Sp.valid v i))] [HObj.oo 23 2 [[AV.c (Value.int IntKind.i64 v), AV.c (Value.int IntKind.i64 i)]], HObj.oo 23 2 [[AV.c (Value.int IntKind.i64 0), AV.c (Value.int IntKind.i64 0)]]]) (ps := [Con Tryd.prog L0 13 [] [AV.a [AV.c (Value.int IntKind.i64 v), AV.c (Value.int IntKind.i64 i)]] [] (AV.c (Value.bool (Sp.valid v i))), true = true ∨ True ∧ ∀ (o : HObj), o ∈ [] → HObj.nr o]) (by kernel_rfl) (.cons (by exact con13 _ _) (.cons (by simp) (.nil))) ?_
  refine seqK_n ?_
  refine VC.cond (b := !Sp.valid v i) (by kernel_rfl) (fun h1 => ?_) (fun h1 => ?_)
  ·
    simp at h1
    refine VC.seq ?_
    refine VC.region (E := E) (C := C1) E_ok mixed [1, 2, 4, 5, 6, 7, 8, 9, 14, 15, 16, 17, 18, 19, 20, 21, 22, 23, 24, 25, 26, 27, 28, 29, 30, 31, 32, 33, 34, 35, 36] (st' := St.mk [(1, AV.c (Value.int IntKind.i16 x)), (2, AV.p 0 0), (4, AV.c (Value.int IntKind.u8 0)), (5, AV.p 1 0), (6, AV.c (Value.int IntKind.u8 2))] [HObj.oo 23 2 [[AV.c (Value.int IntKind.i64 v), AV.c (Value.int IntKind.i64 i)]], HObj.oo 23 2 [[AV.c (Value.int IntKind.i64 0), AV.c (Value.int IntKind.i64 0)]]]) (ps := [(0 : Nat) < (2 : Nat), (1 : Nat) < (2 : Nat)]) (by kernel_rfl) (.cons (by trivial) (.cons (by trivial) (.nil))) ?_
    refine seqK_n ?_
    refine VC.ret ?_
    refine seqK_r ?_
    exact Fin.all [] (.inr rfl) (l := [AV.c (Value.int IntKind.u8 0), AV.a [AV.c (Value.int IntKind.i64 0), AV.c (Value.int IntKind.i64 0)], AV.c (Value.int IntKind.u8 2)]) (ps := []) (by kernel_rfl) (by kernel_rfl) (.nil) (All.of (l' := []) (by kernel_rfl) (.nil)) (show AV.t [AV.c (Value.int IntKind.u8 0), AV.a [AV.c (Value.int IntKind.i64 0), AV.c (Value.int IntKind.i64 0)], AV.c (Value.int IntKind.u8 2)] = AV.t [AV.c (Value.int IntKind.u8 (Sp.encC v i x)), AV.a [AV.c (Value.int IntKind.i64 (Sp.encV v i x)), AV.c (Value.int IntKind.i64 (Sp.encI v i x))], AV.c (Value.int IntKind.u8 (Sp.encE v i))] by simp [Sp.encC, Sp.encV, Sp.encI, Sp.encE, h1])
  ·
    simp at h1
    refine VC.skip ?_
    refine seqK_n ?_
    refine VC.seq ?_
    refine VC.region (E := E) (C := C1) E_ok mixed [2, 4, 5, 6, 7, 8, 9, 19, 20, 21, 22, 23, 24, 25, 26, 27, 28, 29, 30, 31, 32, 33, 34, 35, 36] (st' := St.mk [(2, AV.p 0 0), (4, AV.c (Value.int IntKind.u8 0)), (5, AV.p 1 0), (6, AV.c (Value.int IntKind.u8 0)), (7, AV.c (Value.int IntKind.i64 (IntKind.wrap IntKind.i64 (IntKind.wrap IntKind.i64 x - v)))), (8, AV.c (Value.int IntKind.u8 0))] [HObj.oo 23 2 [[AV.c (Value.int IntKind.i64 v), AV.c (Value.int IntKind.i64 i)]], HObj.oo 23 2 [[AV.c (Value.int IntKind.i64 0), AV.c (Value.int IntKind.i64 0)]]]) (ps := []) (by kernel_rfl) (.nil) ?_
    refine seqK_n ?_
    refine VC.seq ?_
    refine VC.seq ?_
    refine VC.region (E := E) (C := C1) E_ok mixed [2, 4, 5, 6, 7, 8, 9, 20, 21, 22, 23, 24, 25, 26, 27, 28, 29, 30, 31, 32, 33, 34, 35, 36] (st' := St.mk [(2, AV.p 0 0), (4, AV.c (Value.int IntKind.u8 0)), (5, AV.p 1 0), (6, AV.c (Value.int IntKind.u8 0)), (7, AV.c (Value.int IntKind.i64 (IntKind.wrap IntKind.i64 (IntKind.wrap IntKind.i64 x - v)))), (8, AV.c (Value.int IntKind.u8 0)), (20, AV.c (Value.bool (decide (IntKind.wrap IntKind.i64 (IntKind.wrap IntKind.i64 x - v) < 0))))] [HObj.oo 23 2 [[AV.c (Value.int IntKind.i64 v), AV.c (Value.int IntKind.i64 i)]], HObj.oo 23 2 [[AV.c (Value.int IntKind.i64 0), AV.c (Value.int IntKind.i64 0)]]]) (ps := []) (by kernel_rfl) (.nil) ?_
    refine seqK_n ?_
    refine VC.cond (b := decide (IntKind.wrap IntKind.i64 (IntKind.wrap IntKind.i64 x - v) < 0)) (by kernel_rfl) (fun h2 => ?_) (fun h2 => ?_)
    ·
      simp at h2
      refine VC.region (E := E) (C := C1) E_ok mixed [2, 4, 5, 6, 7, 8, 9, 23, 24, 25, 26, 27, 28, 29, 30, 31, 32, 33, 34, 35, 36] (st' := St.mk [(2, AV.p 0 0), (4, AV.c (Value.int IntKind.u8 0)), (5, AV.p 1 0), (6, AV.c (Value.int IntKind.u8 0)), (7, AV.c (Value.int IntKind.i64 (IntKind.wrap IntKind.i64 (0 - IntKind.wrap IntKind.i64 (IntKind.wrap IntKind.i64 x - v))))), (8, AV.c (Value.int IntKind.u8 8))] [HObj.oo 23 2 [[AV.c (Value.int IntKind.i64 v), AV.c (Value.int IntKind.i64 i)]], HObj.oo 23 2 [[AV.c (Value.int IntKind.i64 0), AV.c (Value.int IntKind.i64 0)]]]) (ps := []) (by kernel_rfl) (.nil) ?_
      refine seqK_n ?_
      refine VC.seq ?_
      refine VC.region (E := E) (C := C1) E_ok mixed [2, 4, 5, 6, 9, 33, 34, 35, 36] (st' := St.mk [(2, AV.p 0 0), (4, AV.c (Value.int IntKind.u8 0)), (5, AV.p 1 0), (6, AV.c (Value.int IntKind.u8 0)), (9, AV.c (Value.int IntKind.u8 (IntKind.wrap IntKind.u8 (IntKind.wrap IntKind.u8 (imin (IntKind.wrap IntKind.i64 (Int.tdiv (IntKind.wrap IntKind.i64 (4 * IntKind.wrap IntKind.i64 (0 - IntKind.wrap IntKind.i64 (IntKind.wrap IntKind.i64 x - v)))) (Sp.size i))) 7) + 8))))] [HObj.oo 23 2 [[AV.c (Value.int IntKind.i64 v), AV.c (Value.int IntKind.i64 i)]], HObj.oo 23 2 [[AV.c (Value.int IntKind.i64 0), AV.c (Value.int IntKind.i64 0)]]]) (ps := [Con Tryd.prog L0 15 [] [AV.c (Value.int IntKind.i64 i)] [] (AV.c (Value.int IntKind.i64 (Sp.size i))), true = true ∨ True ∧ ∀ (o : HObj), o ∈ [] → HObj.nr o, Sp.size i ≠ 0]) (by kernel_rfl) (.cons (by exact con15 _) (.cons (by simp) (.cons (by have := Sp.size_range h1; omega) (.nil)))) ?_
      refine seqK_n ?_
      refine VC.seq ?_
      refine VC.region (E := E) (C := C1) E_ok mixed [4, 5, 6] (st' := St.mk [(4, AV.c (Value.int IntKind.u8 (IntKind.wrap IntKind.u8 (IntKind.wrap IntKind.u8 (imin (IntKind.wrap IntKind.i64 (Int.tdiv (IntKind.wrap IntKind.i64 (4 * IntKind.wrap IntKind.i64 (0 - IntKind.wrap IntKind.i64 (IntKind.wrap IntKind.i64 x - v)))) (Sp.size i))) 7) + 8)))), (5, AV.p 1 0), (6, AV.c (Value.int IntKind.u8 0))] [HObj.oo 23 2 [[AV.c (Value.int IntKind.i64 v), AV.c (Value.int IntKind.i64 i)]], HObj.oo 23 2 [[AV.c (Value.int IntKind.i64 (Sp.dv v i (IntKind.wrap IntKind.u8 (IntKind.wrap IntKind.u8 (imin (IntKind.wrap IntKind.i64 (Int.tdiv (IntKind.wrap IntKind.i64 (4 * IntKind.wrap IntKind.i64 (0 - IntKind.wrap IntKind.i64 (IntKind.wrap IntKind.i64 x - v)))) (Sp.size i))) 7) + 8)))), AV.c (Value.int IntKind.i64 (Sp.di i (IntKind.wrap IntKind.u8 (IntKind.wrap IntKind.u8 (imin (IntKind.wrap IntKind.i64 (Int.tdiv (IntKind.wrap IntKind.i64 (4 * IntKind.wrap IntKind.i64 (0 - IntKind.wrap IntKind.i64 (IntKind.wrap IntKind.i64 x - v)))) (Sp.size i))) 7) + 8))))]]]) (ps := [Con Tryd.prog L0 24 [] [AV.a [AV.c (Value.int IntKind.i64 v), AV.c (Value.int IntKind.i64 i)], AV.c (Value.int IntKind.u8 (IntKind.wrap IntKind.u8 (IntKind.wrap IntKind.u8 (imin (IntKind.wrap IntKind.i64 (Int.tdiv (IntKind.wrap IntKind.i64 (4 * IntKind.wrap IntKind.i64 (0 - IntKind.wrap IntKind.i64 (IntKind.wrap IntKind.i64 x - v)))) (Sp.size i))) 7) + 8)))] [] (AV.a [AV.c (Value.int IntKind.i64 (Sp.dv v i (IntKind.wrap IntKind.u8 (IntKind.wrap IntKind.u8 (imin (IntKind.wrap IntKind.i64 (Int.tdiv (IntKind.wrap IntKind.i64 (4 * IntKind.wrap IntKind.i64 (0 - IntKind.wrap IntKind.i64 (IntKind.wrap IntKind.i64 x - v)))) (Sp.size i))) 7) + 8)))), AV.c (Value.int IntKind.i64 (Sp.di i (IntKind.wrap IntKind.u8 (IntKind.wrap IntKind.u8 (imin (IntKind.wrap IntKind.i64 (Int.tdiv (IntKind.wrap IntKind.i64 (4 * IntKind.wrap IntKind.i64 (0 - IntKind.wrap IntKind.i64 (IntKind.wrap IntKind.i64 x - v)))) (Sp.size i))) 7) + 8))))]), true = true ∨ (True ∧ True ∧ True) ∧ ∀ (o : HObj), o ∈ [] → HObj.nr o, (0 : Nat) < (2 : Nat), (1 : Nat) < (2 : Nat)]) (by kernel_rfl) (.cons (by rw [Sp.code_eq1 h1 hx h2]; exact con24 _ _ _ h1 (by have := Sp.code_range h1 hx; omega)) (.cons (by simp) (.cons (by trivial) (.cons (by trivial) (.nil))))) ?_
      refine seqK_n ?_
      refine VC.ret ?_
      exact Fin.all [] (.inr rfl) (l := [AV.c (Value.int IntKind.u8 (IntKind.wrap IntKind.u8 (IntKind.wrap IntKind.u8 (imin (IntKind.wrap IntKind.i64 (Int.tdiv (IntKind.wrap IntKind.i64 (4 * IntKind.wrap IntKind.i64 (0 - IntKind.wrap IntKind.i64 (IntKind.wrap IntKind.i64 x - v)))) (Sp.size i))) 7) + 8))), AV.a [AV.c (Value.int IntKind.i64 (Sp.dv v i (IntKind.wrap IntKind.u8 (IntKind.wrap IntKind.u8 (imin (IntKind.wrap IntKind.i64 (Int.tdiv (IntKind.wrap IntKind.i64 (4 * IntKind.wrap IntKind.i64 (0 - IntKind.wrap IntKind.i64 (IntKind.wrap IntKind.i64 x - v)))) (Sp.size i))) 7) + 8)))), AV.c (Value.int IntKind.i64 (Sp.di i (IntKind.wrap IntKind.u8 (IntKind.wrap IntKind.u8 (imin (IntKind.wrap IntKind.i64 (Int.tdiv (IntKind.wrap IntKind.i64 (4 * IntKind.wrap IntKind.i64 (0 - IntKind.wrap IntKind.i64 (IntKind.wrap IntKind.i64 x - v)))) (Sp.size i))) 7) + 8))))], AV.c (Value.int IntKind.u8 0)]) (ps := []) (by kernel_rfl) (by kernel_rfl) (.nil) (All.of (l' := []) (by kernel_rfl) (.nil)) (show AV.t [AV.c (Value.int IntKind.u8 (IntKind.wrap IntKind.u8 (IntKind.wrap IntKind.u8 (imin (IntKind.wrap IntKind.i64 (Int.tdiv (IntKind.wrap IntKind.i64 (4 * IntKind.wrap IntKind.i64 (0 - IntKind.wrap IntKind.i64 (IntKind.wrap IntKind.i64 x - v)))) (Sp.size i))) 7) + 8))), AV.a [AV.c (Value.int IntKind.i64 (Sp.dv v i (IntKind.wrap IntKind.u8 (IntKind.wrap IntKind.u8 (imin (IntKind.wrap IntKind.i64 (Int.tdiv (IntKind.wrap IntKind.i64 (4 * IntKind.wrap IntKind.i64 (0 - IntKind.wrap IntKind.i64 (IntKind.wrap IntKind.i64 x - v)))) (Sp.size i))) 7) + 8)))), AV.c (Value.int IntKind.i64 (Sp.di i (IntKind.wrap IntKind.u8 (IntKind.wrap IntKind.u8 (imin (IntKind.wrap IntKind.i64 (Int.tdiv (IntKind.wrap IntKind.i64 (4 * IntKind.wrap IntKind.i64 (0 - IntKind.wrap IntKind.i64 (IntKind.wrap IntKind.i64 x - v)))) (Sp.size i))) 7) + 8))))], AV.c (Value.int IntKind.u8 0)] = AV.t [AV.c (Value.int IntKind.u8 (Sp.encC v i x)), AV.a [AV.c (Value.int IntKind.i64 (Sp.encV v i x)), AV.c (Value.int IntKind.i64 (Sp.encI v i x))], AV.c (Value.int IntKind.u8 (Sp.encE v i))] by simp only [Sp.encC, Sp.encV, Sp.encI, Sp.encE, h1, if_true, Sp.code_eq1 h1 hx h2])
    ·
      simp at h2
      refine VC.skip ?_
      refine seqK_n ?_
      refine VC.seq ?_
      refine VC.region (E := E) (C := C1) E_ok mixed [2, 4, 5, 6, 9, 33, 34, 35, 36] (st' := St.mk [(2, AV.p 0 0), (4, AV.c (Value.int IntKind.u8 0)), (5, AV.p 1 0), (6, AV.c (Value.int IntKind.u8 0)), (9, AV.c (Value.int IntKind.u8 (IntKind.wrap IntKind.u8 (IntKind.wrap IntKind.u8 (imin (IntKind.wrap IntKind.i64 (Int.tdiv (IntKind.wrap IntKind.i64 (4 * IntKind.wrap IntKind.i64 (IntKind.wrap IntKind.i64 x - v))) (Sp.size i))) 7) + 0))))] [HObj.oo 23 2 [[AV.c (Value.int IntKind.i64 v), AV.c (Value.int IntKind.i64 i)]], HObj.oo 23 2 [[AV.c (Value.int IntKind.i64 0), AV.c (Value.int IntKind.i64 0)]]]) (ps := [Con Tryd.prog L0 15 [] [AV.c (Value.int IntKind.i64 i)] [] (AV.c (Value.int IntKind.i64 (Sp.size i))), true = true ∨ True ∧ ∀ (o : HObj), o ∈ [] → HObj.nr o, Sp.size i ≠ 0]) (by kernel_rfl) (.cons (by exact con15 _) (.cons (by simp) (.cons (by have := Sp.size_range h1; omega) (.nil)))) ?_
      refine seqK_n ?_
      refine VC.seq ?_
      refine VC.region (E := E) (C := C1) E_ok mixed [4, 5, 6] (st' := St.mk [(4, AV.c (Value.int IntKind.u8 (IntKind.wrap IntKind.u8 (IntKind.wrap IntKind.u8 (imin (IntKind.wrap IntKind.i64 (Int.tdiv (IntKind.wrap IntKind.i64 (4 * IntKind.wrap IntKind.i64 (IntKind.wrap IntKind.i64 x - v))) (Sp.size i))) 7) + 0)))), (5, AV.p 1 0), (6, AV.c (Value.int IntKind.u8 0))] [HObj.oo 23 2 [[AV.c (Value.int IntKind.i64 v), AV.c (Value.int IntKind.i64 i)]], HObj.oo 23 2 [[AV.c (Value.int IntKind.i64 (Sp.dv v i (IntKind.wrap IntKind.u8 (IntKind.wrap IntKind.u8 (imin (IntKind.wrap IntKind.i64 (Int.tdiv (IntKind.wrap IntKind.i64 (4 * IntKind.wrap IntKind.i64 (IntKind.wrap IntKind.i64 x - v))) (Sp.size i))) 7) + 0)))), AV.c (Value.int IntKind.i64 (Sp.di i (IntKind.wrap IntKind.u8 (IntKind.wrap IntKind.u8 (imin (IntKind.wrap IntKind.i64 (Int.tdiv (IntKind.wrap IntKind.i64 (4 * IntKind.wrap IntKind.i64 (IntKind.wrap IntKind.i64 x - v))) (Sp.size i))) 7) + 0))))]]]) (ps := [Con Tryd.prog L0 24 [] [AV.a [AV.c (Value.int IntKind.i64 v), AV.c (Value.int IntKind.i64 i)], AV.c (Value.int IntKind.u8 (IntKind.wrap IntKind.u8 (IntKind.wrap IntKind.u8 (imin (IntKind.wrap IntKind.i64 (Int.tdiv (IntKind.wrap IntKind.i64 (4 * IntKind.wrap IntKind.i64 (IntKind.wrap IntKind.i64 x - v))) (Sp.size i))) 7) + 0)))] [] (AV.a [AV.c (Value.int IntKind.i64 (Sp.dv v i (IntKind.wrap IntKind.u8 (IntKind.wrap IntKind.u8 (imin (IntKind.wrap IntKind.i64 (Int.tdiv (IntKind.wrap IntKind.i64 (4 * IntKind.wrap IntKind.i64 (IntKind.wrap IntKind.i64 x - v))) (Sp.size i))) 7) + 0)))), AV.c (Value.int IntKind.i64 (Sp.di i (IntKind.wrap IntKind.u8 (IntKind.wrap IntKind.u8 (imin (IntKind.wrap IntKind.i64 (Int.tdiv (IntKind.wrap IntKind.i64 (4 * IntKind.wrap IntKind.i64 (IntKind.wrap IntKind.i64 x - v))) (Sp.size i))) 7) + 0))))]), true = true ∨ (True ∧ True ∧ True) ∧ ∀ (o : HObj), o ∈ [] → HObj.nr o, (0 : Nat) < (2 : Nat), (1 : Nat) < (2 : Nat)]) (by kernel_rfl) (.cons (by rw [Sp.code_eq2 h1 hx h2]; exact con24 _ _ _ h1 (by have := Sp.code_range h1 hx; omega)) (.cons (by simp) (.cons (by trivial) (.cons (by trivial) (.nil))))) ?_
      refine seqK_n ?_
      refine VC.ret ?_
      exact Fin.all [] (.inr rfl) (l := [AV.c (Value.int IntKind.u8 (IntKind.wrap IntKind.u8 (IntKind.wrap IntKind.u8 (imin (IntKind.wrap IntKind.i64 (Int.tdiv (IntKind.wrap IntKind.i64 (4 * IntKind.wrap IntKind.i64 (IntKind.wrap IntKind.i64 x - v))) (Sp.size i))) 7) + 0))), AV.a [AV.c (Value.int IntKind.i64 (Sp.dv v i (IntKind.wrap IntKind.u8 (IntKind.wrap IntKind.u8 (imin (IntKind.wrap IntKind.i64 (Int.tdiv (IntKind.wrap IntKind.i64 (4 * IntKind.wrap IntKind.i64 (IntKind.wrap IntKind.i64 x - v))) (Sp.size i))) 7) + 0)))), AV.c (Value.int IntKind.i64 (Sp.di i (IntKind.wrap IntKind.u8 (IntKind.wrap IntKind.u8 (imin (IntKind.wrap IntKind.i64 (Int.tdiv (IntKind.wrap IntKind.i64 (4 * IntKind.wrap IntKind.i64 (IntKind.wrap IntKind.i64 x - v))) (Sp.size i))) 7) + 0))))], AV.c (Value.int IntKind.u8 0)]) (ps := []) (by kernel_rfl) (by kernel_rfl) (.nil) (All.of (l' := []) (by kernel_rfl) (.nil)) (show AV.t [AV.c (Value.int IntKind.u8 (IntKind.wrap IntKind.u8 (IntKind.wrap IntKind.u8 (imin (IntKind.wrap IntKind.i64 (Int.tdiv (IntKind.wrap IntKind.i64 (4 * IntKind.wrap IntKind.i64 (IntKind.wrap IntKind.i64 x - v))) (Sp.size i))) 7) + 0))), AV.a [AV.c (Value.int IntKind.i64 (Sp.dv v i (IntKind.wrap IntKind.u8 (IntKind.wrap IntKind.u8 (imin (IntKind.wrap IntKind.i64 (Int.tdiv (IntKind.wrap IntKind.i64 (4 * IntKind.wrap IntKind.i64 (IntKind.wrap IntKind.i64 x - v))) (Sp.size i))) 7) + 0)))), AV.c (Value.int IntKind.i64 (Sp.di i (IntKind.wrap IntKind.u8 (IntKind.wrap IntKind.u8 (imin (IntKind.wrap IntKind.i64 (Int.tdiv (IntKind.wrap IntKind.i64 (4 * IntKind.wrap IntKind.i64 (IntKind.wrap IntKind.i64 x - v))) (Sp.size i))) 7) + 0))))], AV.c (Value.int IntKind.u8 0)] = AV.t [AV.c (Value.int IntKind.u8 (Sp.encC v i x)), AV.a [AV.c (Value.int IntKind.i64 (Sp.encV v i x)), AV.c (Value.int IntKind.i64 (Sp.encI v i x))], AV.c (Value.int IntKind.u8 (Sp.encE v i))] by rw [Sp.code_eq2 h1 hx h2]; simp [Sp.encC, Sp.encV, Sp.encI, Sp.encE, h1])

theorem con10 (v i x : Int) (hx : -32768 ≤ x ∧ x ≤ 32767) : Con Tryd.prog L0 10 [] [.a [.c (.int .i64 v), .c (.int .i64 i)], .c (.int .i16 x)] [] (.t [.c (.int .u8 (Sp.encC v i x)), .a [.c (.int .i64 (Sp.encV v i x)), .c (.int .i64 (Sp.encI v i x))], .c (.int .u8 (Sp.encE v i))]) := by
  refine con_of_vc E_ok mixed Tryd.func10 rfl Tryd.call10 (Nat.le_of_ble_eq_true rfl) ?_
  refine VC.seq ?_
  refine VC.region (E := E) (C := C1) E_ok mixed [1, 2, 4, 5, 6, 7, 8, 9, 10, 11, 12, 13, 14, 15, 16, 17, 18] (st' := St.mk [(1, AV.c (Value.int IntKind.i16 x)), (2, AV.p 0 0), (4, AV.c (Value.int IntKind.u8 0)), (5, AV.p 1 0), (6, AV.c (Value.int IntKind.u8 0))] [HObj.oo 23 2 [[AV.c (Value.int IntKind.i64 v), AV.c (Value.int IntKind.i64 i)]], HObj.oo 23 2 [[AV.c (Value.int IntKind.i64 0), AV.c (Value.int IntKind.i64 0)]]]) (ps := []) (by kernel_rfl) (.nil) ?_
  refine seqK_n ?_
  refine VC.seq ?_
  refine VC.seq ?_
  refine VC.region (E := E) (C := C1) E_ok mixed [1, 2, 4, 5, 6, 7, 10, 11, 12, 13, 14, 15, 16, 17, 18] (st' := St.mk [(1, AV.c (Value.int IntKind.i16 x)), (2, AV.p 0 0), (4, AV.c (Value.int IntKind.u8 0)), (5, AV.p 1 0), (6, AV.c (Value.int IntKind.u8 0)), (10, AV.c (Value.bool !Sp.valid v i))] [HObj.oo 23 2 [[AV.c (Value.int IntKind.i64 v), AV.c (Value.int IntKind.i64 i)]], HObj.oo 23 2 [[AV.c (Value.int IntKind.i64 0), AV.c (Value.int IntKind.i64 0)]]]) (ps := [Con Tryd.prog L0 14 [] [AV.a [AV.c (Value.int IntKind.i64 v), AV.c (Value.int IntKind.i64 i)]] [] (AV.c (Value.bool (Sp.valid v i))), true = true ∨ True ∧ ∀ (o : HObj), o ∈ [] → HObj.nr o]) (by kernel_rfl) (.cons (by exact con14 _ _) (.cons (by simp) (.nil))) ?_
  refine seqK_n ?_
  refine VC.cond (b := !Sp.valid v i) (by kernel_rfl) (fun h1 => ?_) (fun h1 => ?_)
  ·
    simp at h1
    refine VC.seq ?_
    refine VC.region (E := E) (C := C1) E_ok mixed [1, 2, 4, 5, 6, 7, 12, 13, 14, 15, 16, 17, 18] (st' := St.mk [(1, AV.c (Value.int IntKind.i16 x)), (2, AV.p 0 0), (4, AV.c (Value.int IntKind.u8 0)), (5, AV.p 1 0), (6, AV.c (Value.int IntKind.u8 2))] [HObj.oo 23 2 [[AV.c (Value.int IntKind.i64 v), AV.c (Value.int IntKind.i64 i)]], HObj.oo 23 2 [[AV.c (Value.int IntKind.i64 0), AV.c (Value.int IntKind.i64 0)]]]) (ps := [(0 : Nat) < (2 : Nat), (1 : Nat) < (2 : Nat)]) (by kernel_rfl) (.cons (by trivial) (.cons (by trivial) (.nil))) ?_
    refine seqK_n ?_
    refine VC.ret ?_
    refine seqK_r ?_
    exact Fin.all [] (.inr rfl) (l := [AV.c (Value.int IntKind.u8 0), AV.a [AV.c (Value.int IntKind.i64 0), AV.c (Value.int IntKind.i64 0)], AV.c (Value.int IntKind.u8 2)]) (ps := []) (by kernel_rfl) (by kernel_rfl) (.nil) (All.of (l' := []) (by kernel_rfl) (.nil)) (show AV.t [AV.c (Value.int IntKind.u8 0), AV.a [AV.c (Value.int IntKind.i64 0), AV.c (Value.int IntKind.i64 0)], AV.c (Value.int IntKind.u8 2)] = AV.t [AV.c (Value.int IntKind.u8 (Sp.encC v i x)), AV.a [AV.c (Value.int IntKind.i64 (Sp.encV v i x)), AV.c (Value.int IntKind.i64 (Sp.encI v i x))], AV.c (Value.int IntKind.u8 (Sp.encE v i))] by simp [Sp.encC, Sp.encV, Sp.encI, Sp.encE, h1])
  ·
    simp at h1
    refine VC.skip ?_
    refine seqK_n ?_
    refine VC.seq ?_
    refine VC.region (E := E) (C := C1) E_ok mixed [2, 4, 5, 6, 7, 15, 16, 17, 18] (st' := St.mk [(2, AV.p 0 0), (4, AV.c (Value.int IntKind.u8 0)), (5, AV.p 1 0), (6, AV.c (Value.int IntKind.u8 0)), (7, AV.c (Value.int IntKind.u8 (Sp.code v i x)))] [HObj.oo 23 2 [[AV.c (Value.int IntKind.i64 v), AV.c (Value.int IntKind.i64 i)]], HObj.oo 23 2 [[AV.c (Value.int IntKind.i64 0), AV.c (Value.int IntKind.i64 0)]]]) (ps := [Con Tryd.prog L0 25 [] [AV.a [AV.c (Value.int IntKind.i64 v), AV.c (Value.int IntKind.i64 i)], AV.c (Value.int IntKind.i16 x)] [] (AV.c (Value.int IntKind.u8 (Sp.code v i x))), true = true ∨ True ∧ ∀ (o : HObj), o ∈ [] → HObj.nr o]) (by kernel_rfl) (.cons (by exact con25 _ _ _ h1 hx) (.cons (by simp) (.nil))) ?_
    refine seqK_n ?_
    refine VC.seq ?_
    refine VC.region (E := E) (C := C1) E_ok mixed [4, 5, 6] (st' := St.mk [(4, AV.c (Value.int IntKind.u8 (Sp.code v i x))), (5, AV.p 1 0), (6, AV.c (Value.int IntKind.u8 0))] [HObj.oo 23 2 [[AV.c (Value.int IntKind.i64 v), AV.c (Value.int IntKind.i64 i)]], HObj.oo 23 2 [[AV.c (Value.int IntKind.i64 (Sp.dv v i (Sp.code v i x))), AV.c (Value.int IntKind.i64 (Sp.di i (Sp.code v i x)))]]]) (ps := [Con Tryd.prog L0 26 [] [AV.a [AV.c (Value.int IntKind.i64 v), AV.c (Value.int IntKind.i64 i)], AV.c (Value.int IntKind.u8 (Sp.code v i x))] [] (AV.a [AV.c (Value.int IntKind.i64 (Sp.dv v i (Sp.code v i x))), AV.c (Value.int IntKind.i64 (Sp.di i (Sp.code v i x)))]), true = true ∨ (True ∧ True ∧ True) ∧ ∀ (o : HObj), o ∈ [] → HObj.nr o, (0 : Nat) < (2 : Nat), (1 : Nat) < (2 : Nat)]) (by kernel_rfl) (.cons (by exact con26 _ _ _ h1 (by have := Sp.code_range h1 hx; omega)) (.cons (by simp) (.cons (by trivial) (.cons (by trivial) (.nil))))) ?_
    refine seqK_n ?_
    refine VC.ret ?_
    exact Fin.all [] (.inr rfl) (l := [AV.c (Value.int IntKind.u8 (Sp.code v i x)), AV.a [AV.c (Value.int IntKind.i64 (Sp.dv v i (Sp.code v i x))), AV.c (Value.int IntKind.i64 (Sp.di i (Sp.code v i x)))], AV.c (Value.int IntKind.u8 0)]) (ps := []) (by kernel_rfl) (by kernel_rfl) (.nil) (All.of (l' := []) (by kernel_rfl) (.nil)) (show AV.t [AV.c (Value.int IntKind.u8 (Sp.code v i x)), AV.a [AV.c (Value.int IntKind.i64 (Sp.dv v i (Sp.code v i x))), AV.c (Value.int IntKind.i64 (Sp.di i (Sp.code v i x)))], AV.c (Value.int IntKind.u8 0)] = AV.t [AV.c (Value.int IntKind.u8 (Sp.encC v i x)), AV.a [AV.c (Value.int IntKind.i64 (Sp.encV v i x)), AV.c (Value.int IntKind.i64 (Sp.encI v i x))], AV.c (Value.int IntKind.u8 (Sp.encE v i))] by simp [Sp.encC, Sp.encV, Sp.encI, Sp.encE, h1])

theorem con11 (v i c : Int) (hc : 0 ≤ c ∧ c ≤ 255) : Con Tryd.prog L0 11 [] [.a [.c (.int .i64 v), .c (.int .i64 i)], .c (.int .u8 c)] [] (.t [.c (.int .i16 (Sp.decX v i c)), .a [.c (.int .i64 (Sp.decX v i c)), .c (.int .i64 (Sp.decI v i c))], .c (.int .u8 (Sp.decE v i c))]) := by
  refine con_of_vc E_ok mixed Tryd.func11 rfl Tryd.call11 (Nat.le_of_ble_eq_true rfl) ?_
  refine VC.seq ?_
  refine VC.region (E := E) (C := C1) E_ok mixed [1, 2, 4, 5, 6, 7, 8, 9, 10, 11, 12, 13, 14, 15, 16, 17, 18, 19, 20] (st' := St.mk [(1, AV.c (Value.int IntKind.u8 c)), (2, AV.p 0 0), (4, AV.c (Value.int IntKind.i16 0)), (5, AV.p 1 0), (6, AV.c (Value.int IntKind.u8 0))] [HObj.oo 23 2 [[AV.c (Value.int IntKind.i64 v), AV.c (Value.int IntKind.i64 i)]], HObj.oo 23 2 [[AV.c (Value.int IntKind.i64 0), AV.c (Value.int IntKind.i64 0)]]]) (ps := []) (by kernel_rfl) (.nil) ?_
  refine seqK_n ?_
  refine VC.seq ?_
  refine VC.seq ?_
  refine VC.region (E := E) (C := C1) E_ok mixed [1, 2, 4, 5, 6, 9, 10, 11, 12, 13, 14, 15, 16, 17, 18, 19, 20] (st' := St.mk [(1, AV.c (Value.int IntKind.u8 c)), (2, AV.p 0 0), (4, AV.c (Value.int IntKind.i16 0)), (5, AV.p 1 0), (6, AV.c (Value.int IntKind.u8 0)), (9, AV.c (Value.bool !Sp.valid v i))] [HObj.oo 23 2 [[AV.c (Value.int IntKind.i64 v), AV.c (Value.int IntKind.i64 i)]], HObj.oo 23 2 [[AV.c (Value.int IntKind.i64 0), AV.c (Value.int IntKind.i64 0)]]]) (ps := [Con Tryd.prog L0 13 [] [AV.a [AV.c (Value.int IntKind.i64 v), AV.c (Value.int IntKind.i64 i)]] [] (AV.c (Value.bool (Sp.valid v i))), true = true ∨ True ∧ ∀ (o : HObj), o ∈ [] → HObj.nr o]) (by kernel_rfl) (.cons (by exact con13 _ _) (.cons (by simp) (.nil))) ?_
  refine seqK_n ?_
  refine VC.cond (b := !Sp.valid v i) (by kernel_rfl) (fun h1 => ?_) (fun h1 => ?_)
  ·
    simp at h1
    refine VC.seq ?_
    refine VC.region (E := E) (C := C1) E_ok mixed [1, 2, 4, 5, 6, 11, 12, 13, 14, 15, 16, 17, 18, 19, 20] (st' := St.mk [(1, AV.c (Value.int IntKind.u8 c)), (2, AV.p 0 0), (4, AV.c (Value.int IntKind.i16 0)), (5, AV.p 1 0), (6, AV.c (Value.int IntKind.u8 2))] [HObj.oo 23 2 [[AV.c (Value.int IntKind.i64 v), AV.c (Value.int IntKind.i64 i)]], HObj.oo 23 2 [[AV.c (Value.int IntKind.i64 0), AV.c (Value.int IntKind.i64 0)]]]) (ps := [(0 : Nat) < (2 : Nat), (1 : Nat) < (2 : Nat)]) (by kernel_rfl) (.cons (by trivial) (.cons (by trivial) (.nil))) ?_
    refine seqK_n ?_
    refine VC.ret ?_
    refine seqK_r ?_
    exact Fin.all [] (.inr rfl) (l := [AV.c (Value.int IntKind.i16 0), AV.a [AV.c (Value.int IntKind.i64 0), AV.c (Value.int IntKind.i64 0)], AV.c (Value.int IntKind.u8 2)]) (ps := []) (by kernel_rfl) (by kernel_rfl) (.nil) (All.of (l' := []) (by kernel_rfl) (.nil)) (show AV.t [AV.c (Value.int IntKind.i16 0), AV.a [AV.c (Value.int IntKind.i64 0), AV.c (Value.int IntKind.i64 0)], AV.c (Value.int IntKind.u8 2)] = AV.t [AV.c (Value.int IntKind.i16 (Sp.decX v i c)), AV.a [AV.c (Value.int IntKind.i64 (Sp.decX v i c)), AV.c (Value.int IntKind.i64 (Sp.decI v i c))], AV.c (Value.int IntKind.u8 (Sp.decE v i c))] by simp [Sp.decX, Sp.decI, Sp.decE, h1])
  ·
    simp at h1
    refine VC.skip ?_
    refine seqK_n ?_
    refine VC.seq ?_
    refine VC.seq ?_
    refine VC.region (E := E) (C := C1) E_ok mixed [1, 2, 4, 5, 6, 12, 13, 14, 15, 16, 17, 18, 19, 20] (st' := St.mk [(1, AV.c (Value.int IntKind.u8 c)), (2, AV.p 0 0), (4, AV.c (Value.int IntKind.i16 0)), (5, AV.p 1 0), (6, AV.c (Value.int IntKind.u8 0)), (12, AV.c (Value.bool (decide (15 < c))))] [HObj.oo 23 2 [[AV.c (Value.int IntKind.i64 v), AV.c (Value.int IntKind.i64 i)]], HObj.oo 23 2 [[AV.c (Value.int IntKind.i64 0), AV.c (Value.int IntKind.i64 0)]]]) (ps := []) (by kernel_rfl) (.nil) ?_
    refine seqK_n ?_
    refine VC.cond (b := decide (15 < c)) (by kernel_rfl) (fun h2 => ?_) (fun h2 => ?_)
    ·
      simp at h2
      refine VC.seq ?_
      refine VC.region (E := E) (C := C1) E_ok mixed [1, 2, 4, 5, 6, 14, 15, 16, 17, 18, 19, 20] (st' := St.mk [(1, AV.c (Value.int IntKind.u8 c)), (2, AV.p 0 0), (4, AV.c (Value.int IntKind.i16 0)), (5, AV.p 1 0), (6, AV.c (Value.int IntKind.u8 3))] [HObj.oo 23 2 [[AV.c (Value.int IntKind.i64 v), AV.c (Value.int IntKind.i64 i)]], HObj.oo 23 2 [[AV.c (Value.int IntKind.i64 0), AV.c (Value.int IntKind.i64 0)]]]) (ps := [(0 : Nat) < (2 : Nat), (1 : Nat) < (2 : Nat)]) (by kernel_rfl) (.cons (by trivial) (.cons (by trivial) (.nil))) ?_
      refine seqK_n ?_
      refine VC.ret ?_
      refine seqK_r ?_
      exact Fin.all [] (.inr rfl) (l := [AV.c (Value.int IntKind.i16 0), AV.a [AV.c (Value.int IntKind.i64 0), AV.c (Value.int IntKind.i64 0)], AV.c (Value.int IntKind.u8 3)]) (ps := []) (by kernel_rfl) (by kernel_rfl) (.nil) (All.of (l' := []) (by kernel_rfl) (.nil)) (show AV.t [AV.c (Value.int IntKind.i16 0), AV.a [AV.c (Value.int IntKind.i64 0), AV.c (Value.int IntKind.i64 0)], AV.c (Value.int IntKind.u8 3)] = AV.t [AV.c (Value.int IntKind.i16 (Sp.decX v i c)), AV.a [AV.c (Value.int IntKind.i64 (Sp.decX v i c)), AV.c (Value.int IntKind.i64 (Sp.decI v i c))], AV.c (Value.int IntKind.u8 (Sp.decE v i c))] by simp [Sp.decX, Sp.decI, Sp.decE, h1, h2])
    ·
      simp at h2
      refine VC.skip ?_
      refine seqK_n ?_
      refine VC.seq ?_
      refine VC.region (E := E) (C := C1) E_ok mixed [2, 4, 5, 6, 17, 18, 19, 20] (st' := St.mk [(2, AV.p 0 0), (4, AV.c (Value.int IntKind.i16 0)), (5, AV.p 1 0), (6, AV.c (Value.int IntKind.u8 0))] [HObj.oo 23 2 [[AV.c (Value.int IntKind.i64 (Sp.dv v i c)), AV.c (Value.int IntKind.i64 (Sp.di i c))]], HObj.oo 23 2 [[AV.c (Value.int IntKind.i64 0), AV.c (Value.int IntKind.i64 0)]]]) (ps := [Con Tryd.prog L0 24 [] [AV.a [AV.c (Value.int IntKind.i64 v), AV.c (Value.int IntKind.i64 i)], AV.c (Value.int IntKind.u8 c)] [] (AV.a [AV.c (Value.int IntKind.i64 (Sp.dv v i c)), AV.c (Value.int IntKind.i64 (Sp.di i c))]), true = true ∨ (True ∧ True ∧ True) ∧ ∀ (o : HObj), o ∈ [] → HObj.nr o, (0 : Nat) < (2 : Nat), (1 : Nat) < (2 : Nat)]) (by kernel_rfl) (.cons (by exact con24 _ _ _ h1 hc) (.cons (by simp) (.cons (by trivial) (.cons (by trivial) (.nil))))) ?_
      refine seqK_n ?_
      refine VC.seq ?_
      refine VC.region (E := E) (C := C1) E_ok mixed [4, 5, 6] (st' := St.mk [(4, AV.c (Value.int IntKind.i16 (IntKind.wrap IntKind.i16 (Sp.dv v i c)))), (5, AV.p 1 0), (6, AV.c (Value.int IntKind.u8 0))] [HObj.oo 23 2 [[AV.c (Value.int IntKind.i64 (Sp.dv v i c)), AV.c (Value.int IntKind.i64 (Sp.di i c))]], HObj.oo 23 2 [[AV.c (Value.int IntKind.i64 (Sp.dv v i c)), AV.c (Value.int IntKind.i64 (Sp.di i c))]]]) (ps := [(0 : Nat) < (2 : Nat), (1 : Nat) < (2 : Nat)]) (by kernel_rfl) (.cons (by trivial) (.cons (by trivial) (.nil))) ?_
      refine seqK_n ?_
      refine VC.ret ?_
      exact Fin.all [] (.inr rfl) (l := [AV.c (Value.int IntKind.i16 (IntKind.wrap IntKind.i16 (Sp.dv v i c))), AV.a [AV.c (Value.int IntKind.i64 (Sp.dv v i c)), AV.c (Value.int IntKind.i64 (Sp.di i c))], AV.c (Value.int IntKind.u8 0)]) (ps := []) (by kernel_rfl) (by kernel_rfl) (.nil) (All.of (l' := []) (by kernel_rfl) (.nil)) (show AV.t [AV.c (Value.int IntKind.i16 (IntKind.wrap IntKind.i16 (Sp.dv v i c))), AV.a [AV.c (Value.int IntKind.i64 (Sp.dv v i c)), AV.c (Value.int IntKind.i64 (Sp.di i c))], AV.c (Value.int IntKind.u8 0)] = AV.t [AV.c (Value.int IntKind.i16 (Sp.decX v i c)), AV.a [AV.c (Value.int IntKind.i64 (Sp.decX v i c)), AV.c (Value.int IntKind.i64 (Sp.decI v i c))], AV.c (Value.int IntKind.u8 (Sp.decE v i c))] by have := Sp.dv_range v i c; rw [wrap_i16 (by omega) (by omega)]; simp [Sp.decX, Sp.decI, Sp.decE, h1, h2, show ¬ 15 < c from by omega])

theorem con12 (v i c : Int) (hc : 0 ≤ c ∧ c ≤ 255) : Con Tryd.prog L0 12 [] [.a [.c (.int .i64 v), .c (.int .i64 i)], .c (.int .u8 c)] [] (.t [.c (.int .i16 (Sp.decX v i c)), .a [.c (.int .i64 (Sp.decX v i c)), .c (.int .i64 (Sp.decI v i c))], .c (.int .u8 (Sp.decE v i c))]) := by
  refine con_of_vc E_ok mixed Tryd.func12 rfl Tryd.call12 (Nat.le_of_ble_eq_true rfl) ?_
  refine VC.seq ?_
  refine VC.region (E := E) (C := C1) E_ok mixed [1, 2, 4, 5, 6, 7, 8, 9, 10, 11, 12, 13, 14, 15, 16, 17, 18, 19, 20, 21] (st' := St.mk [(1, AV.c (Value.int IntKind.u8 c)), (2, AV.p 0 0), (4, AV.c (Value.int IntKind.i16 0)), (5, AV.p 1 0), (6, AV.c (Value.int IntKind.u8 0))] [HObj.oo 23 2 [[AV.c (Value.int IntKind.i64 v), AV.c (Value.int IntKind.i64 i)]], HObj.oo 23 2 [[AV.c (Value.int IntKind.i64 0), AV.c (Value.int IntKind.i64 0)]]]) (ps := []) (by kernel_rfl) (.nil) ?_
  refine seqK_n ?_
  refine VC.seq ?_
  refine VC.seq ?_
  refine VC.region (E := E) (C := C1) E_ok mixed [1, 2, 4, 5, 6, 7, 10, 11, 12, 13, 14, 15, 16, 17, 18, 19, 20, 21] (st' := St.mk [(1, AV.c (Value.int IntKind.u8 c)), (2, AV.p 0 0), (4, AV.c (Value.int IntKind.i16 0)), (5, AV.p 1 0), (6, AV.c (Value.int IntKind.u8 0)), (10, AV.c (Value.bool !Sp.valid v i))] [HObj.oo 23 2 [[AV.c (Value.int IntKind.i64 v), AV.c (Value.int IntKind.i64 i)]], HObj.oo 23 2 [[AV.c (Value.int IntKind.i64 0), AV.c (Value.int IntKind.i64 0)]]]) (ps := [Con Tryd.prog L0 14 [] [AV.a [AV.c (Value.int IntKind.i64 v), AV.c (Value.int IntKind.i64 i)]] [] (AV.c (Value.bool (Sp.valid v i))), true = true ∨ True ∧ ∀ (o : HObj), o ∈ [] → HObj.nr o]) (by kernel_rfl) (.cons (by exact con14 _ _) (.cons (by simp) (.nil))) ?_
  refine seqK_n ?_
  refine VC.cond (b := !Sp.valid v i) (by kernel_rfl) (fun h1 => ?_) (fun h1 => ?_)
  ·
    simp at h1
    refine VC.seq ?_
    refine VC.region (E := E) (C := C1) E_ok mixed [1, 2, 4, 5, 6, 7, 12, 13, 14, 15, 16, 17, 18, 19, 20, 21] (st' := St.mk [(1, AV.c (Value.int IntKind.u8 c)), (2, AV.p 0 0), (4, AV.c (Value.int IntKind.i16 0)), (5, AV.p 1 0), (6, AV.c (Value.int IntKind.u8 2))] [HObj.oo 23 2 [[AV.c (Value.int IntKind.i64 v), AV.c (Value.int IntKind.i64 i)]], HObj.oo 23 2 [[AV.c (Value.int IntKind.i64 0), AV.c (Value.int IntKind.i64 0)]]]) (ps := [(0 : Nat) < (2 : Nat), (1 : Nat) < (2 : Nat)]) (by kernel_rfl) (.cons (by trivial) (.cons (by trivial) (.nil))) ?_
    refine seqK_n ?_
    refine VC.ret ?_
    refine seqK_r ?_
    exact Fin.all [] (.inr rfl) (l := [AV.c (Value.int IntKind.i16 0), AV.a [AV.c (Value.int IntKind.i64 0), AV.c (Value.int IntKind.i64 0)], AV.c (Value.int IntKind.u8 2)]) (ps := []) (by kernel_rfl) (by kernel_rfl) (.nil) (All.of (l' := []) (by kernel_rfl) (.nil)) (show AV.t [AV.c (Value.int IntKind.i16 0), AV.a [AV.c (Value.int IntKind.i64 0), AV.c (Value.int IntKind.i64 0)], AV.c (Value.int IntKind.u8 2)] = AV.t [AV.c (Value.int IntKind.i16 (Sp.decX v i c)), AV.a [AV.c (Value.int IntKind.i64 (Sp.decX v i c)), AV.c (Value.int IntKind.i64 (Sp.decI v i c))], AV.c (Value.int IntKind.u8 (Sp.decE v i c))] by simp [Sp.decX, Sp.decI, Sp.decE, h1])
  ·
    simp at h1
    refine VC.skip ?_
    refine seqK_n ?_
    refine VC.seq ?_
    refine VC.seq ?_
    refine VC.region (E := E) (C := C1) E_ok mixed [1, 2, 4, 5, 6, 7, 13, 14, 15, 16, 17, 18, 19, 20, 21] (st' := St.mk [(1, AV.c (Value.int IntKind.u8 c)), (2, AV.p 0 0), (4, AV.c (Value.int IntKind.i16 0)), (5, AV.p 1 0), (6, AV.c (Value.int IntKind.u8 0)), (13, AV.c (Value.bool (decide (15 < c))))] [HObj.oo 23 2 [[AV.c (Value.int IntKind.i64 v), AV.c (Value.int IntKind.i64 i)]], HObj.oo 23 2 [[AV.c (Value.int IntKind.i64 0), AV.c (Value.int IntKind.i64 0)]]]) (ps := []) (by kernel_rfl) (.nil) ?_
    refine seqK_n ?_
    refine VC.cond (b := decide (15 < c)) (by kernel_rfl) (fun h2 => ?_) (fun h2 => ?_)
    ·
      simp at h2
      refine VC.seq ?_
      refine VC.region (E := E) (C := C1) E_ok mixed [1, 2, 4, 5, 6, 7, 15, 16, 17, 18, 19, 20, 21] (st' := St.mk [(1, AV.c (Value.int IntKind.u8 c)), (2, AV.p 0 0), (4, AV.c (Value.int IntKind.i16 0)), (5, AV.p 1 0), (6, AV.c (Value.int IntKind.u8 3))] [HObj.oo 23 2 [[AV.c (Value.int IntKind.i64 v), AV.c (Value.int IntKind.i64 i)]], HObj.oo 23 2 [[AV.c (Value.int IntKind.i64 0), AV.c (Value.int IntKind.i64 0)]]]) (ps := [(0 : Nat) < (2 : Nat), (1 : Nat) < (2 : Nat)]) (by kernel_rfl) (.cons (by trivial) (.cons (by trivial) (.nil))) ?_
      refine seqK_n ?_
      refine VC.ret ?_
      refine seqK_r ?_
      exact Fin.all [] (.inr rfl) (l := [AV.c (Value.int IntKind.i16 0), AV.a [AV.c (Value.int IntKind.i64 0), AV.c (Value.int IntKind.i64 0)], AV.c (Value.int IntKind.u8 3)]) (ps := []) (by kernel_rfl) (by kernel_rfl) (.nil) (All.of (l' := []) (by kernel_rfl) (.nil)) (show AV.t [AV.c (Value.int IntKind.i16 0), AV.a [AV.c (Value.int IntKind.i64 0), AV.c (Value.int IntKind.i64 0)], AV.c (Value.int IntKind.u8 3)] = AV.t [AV.c (Value.int IntKind.i16 (Sp.decX v i c)), AV.a [AV.c (Value.int IntKind.i64 (Sp.decX v i c)), AV.c (Value.int IntKind.i64 (Sp.decI v i c))], AV.c (Value.int IntKind.u8 (Sp.decE v i c))] by simp [Sp.decX, Sp.decI, Sp.decE, h1, h2])
    ·
      simp at h2
      refine VC.skip ?_
      refine seqK_n ?_
      refine VC.seq ?_
      refine VC.region (E := E) (C := C1) E_ok mixed [4, 5, 6, 7, 18, 19, 20, 21] (st' := St.mk [(4, AV.c (Value.int IntKind.i16 0)), (5, AV.p 1 0), (6, AV.c (Value.int IntKind.u8 0)), (7, AV.p 2 0)] [HObj.oo 23 2 [[AV.c (Value.int IntKind.i64 v), AV.c (Value.int IntKind.i64 i)]], HObj.oo 23 2 [[AV.c (Value.int IntKind.i64 0), AV.c (Value.int IntKind.i64 0)]], HObj.oo 23 2 [[AV.c (Value.int IntKind.i64 (Sp.dv v i c)), AV.c (Value.int IntKind.i64 (Sp.di i c))]]]) (ps := [Con Tryd.prog L0 26 [] [AV.a [AV.c (Value.int IntKind.i64 v), AV.c (Value.int IntKind.i64 i)], AV.c (Value.int IntKind.u8 c)] [] (AV.a [AV.c (Value.int IntKind.i64 (Sp.dv v i c)), AV.c (Value.int IntKind.i64 (Sp.di i c))]), true = true ∨ (True ∧ True ∧ True) ∧ ∀ (o : HObj), o ∈ [] → HObj.nr o, (0 : Nat) < (2 : Nat), (1 : Nat) < (2 : Nat)]) (by kernel_rfl) (.cons (by exact con26 _ _ _ h1 hc) (.cons (by simp) (.cons (by trivial) (.cons (by trivial) (.nil))))) ?_
      refine seqK_n ?_
      refine VC.seq ?_
      refine VC.region (E := E) (C := C1) E_ok mixed [4, 5, 6] (st' := St.mk [(4, AV.c (Value.int IntKind.i16 (IntKind.wrap IntKind.i16 (Sp.dv v i c)))), (5, AV.p 1 0), (6, AV.c (Value.int IntKind.u8 0))] [HObj.oo 23 2 [[AV.c (Value.int IntKind.i64 v), AV.c (Value.int IntKind.i64 i)]], HObj.oo 23 2 [[AV.c (Value.int IntKind.i64 (Sp.dv v i c)), AV.c (Value.int IntKind.i64 (Sp.di i c))]], HObj.oo 23 2 [[AV.c (Value.int IntKind.i64 (Sp.dv v i c)), AV.c (Value.int IntKind.i64 (Sp.di i c))]]]) (ps := [(0 : Nat) < (2 : Nat), (1 : Nat) < (2 : Nat)]) (by kernel_rfl) (.cons (by trivial) (.cons (by trivial) (.nil))) ?_
      refine seqK_n ?_
      refine VC.ret ?_
      exact Fin.all [] (.inr rfl) (l := [AV.c (Value.int IntKind.i16 (IntKind.wrap IntKind.i16 (Sp.dv v i c))), AV.a [AV.c (Value.int IntKind.i64 (Sp.dv v i c)), AV.c (Value.int IntKind.i64 (Sp.di i c))], AV.c (Value.int IntKind.u8 0)]) (ps := []) (by kernel_rfl) (by kernel_rfl) (.nil) (All.of (l' := []) (by kernel_rfl) (.nil)) (show AV.t [AV.c (Value.int IntKind.i16 (IntKind.wrap IntKind.i16 (Sp.dv v i c))), AV.a [AV.c (Value.int IntKind.i64 (Sp.dv v i c)), AV.c (Value.int IntKind.i64 (Sp.di i c))], AV.c (Value.int IntKind.u8 0)] = AV.t [AV.c (Value.int IntKind.i16 (Sp.decX v i c)), AV.a [AV.c (Value.int IntKind.i64 (Sp.decX v i c)), AV.c (Value.int IntKind.i64 (Sp.decI v i c))], AV.c (Value.int IntKind.u8 (Sp.decE v i c))] by have := Sp.dv_range v i c; rw [wrap_i16 (by omega) (by omega)]; simp [Sp.decX, Sp.decI, Sp.decE, h1, h2, show ¬ 15 < c from by omega])
end Go.Proofs.YtphemeddfckijaaDoor
