/-
  A part of the walk: contracts of functions, each proved once.
-/
import Derived.Test.YtphemeddfckijaaDoorEvR
import Derived.Test.YtphemeddfckijaaDoorProg
namespace Go.Proofs.YtphemeddfckijaaDoor
open Go Go.Ev
set_option linter.unusedVariables false
set_option linter.unusedSimpArgs false
def E : Env := envL [
  (3, TyI.mk (TV.int IntKind.i64) 1 8 [Value.int IntKind.i64 0]),
  (4, TyI.mk TV.bool 1 1 [Value.bool false]),
  (5, TyI.mk (TV.int IntKind.u8) 1 1 [Value.int IntKind.u8 0]),
  (9, TyI.mk TV.str 1 16 [Value.string (ByteArray.mk (Array.mk []))]),
  (23, TyI.mk (TV.struct [(false, 3, 0), (false, 3, 1)]) 2 16 [Value.int IntKind.i64 0, Value.int IntKind.i64 0]),
  (24, TyI.mk (TV.int IntKind.i16) 1 2 [Value.int IntKind.i16 0]),
  (25, TyI.mk (TV.int IntKind.u8) 1 1 [Value.int IntKind.u8 0]),
  (36, TyI.mk (TV.slice 24) 1 24 [Value.slice none 0 0]),
  (37, TyI.mk (TV.slice 5) 1 24 [Value.slice none 0 0]),
  (44, TyI.mk (TV.int IntKind.u16) 1 2 [Value.int IntKind.u16 0]),
  (51, TyI.mk (TV.arr 8 3) 8 64 [Value.int IntKind.i64 0, Value.int IntKind.i64 0, Value.int IntKind.i64 0, Value.int IntKind.i64 0, Value.int IntKind.i64 0, Value.int IntKind.i64 0, Value.int IntKind.i64 0, Value.int IntKind.i64 0])]
theorem E_ok : EnvOK Tryd.prog E := (.cons (by kernel_rfl) (.cons (by kernel_rfl) (.cons (by kernel_rfl) (.cons (by kernel_rfl) (.cons (by kernel_rfl) (.cons (by kernel_rfl) (.cons (by kernel_rfl) (.cons (by kernel_rfl) (.cons (by kernel_rfl) (.cons (by kernel_rfl) (.cons (by kernel_rfl) (.nil))))))))))))
def L0 : Lay := [(0, .i64, [-1, -1, -1, -1, 2, 4, 6, 8])]
theorem mixed : Tryd.prog.follows .mixedOrders = true := by kernel_rfl
namespace Sp
def w (x : Int) : Int := IntKind.i64.wrap x
def next (s : Int) : Int := if s = 0 then 7 else imin (w (s + w ((w (s + 5)).tdiv 10))) 32767
def it : Nat → Int
  | 0 => 0
  | n + 1 => next (it n)
def size (i : Int) : Int := if 0 ≤ i ∧ i ≤ 88 then it (i.toNat + 1) else 0
def valid (v i : Int) : Bool := decide (-32768 ≤ v) && decide (v ≤ 32767) && decide (0 ≤ i) && decide (i ≤ 88)
def moves : List Int := [-1, -1, -1, -1, 2, 4, 6, 8]
def dd (i c : Int) : Int := (2 * (c % 8) + 1) * size i / 8
def dv (v i c : Int) : Int := imax (-32768) (imin (if 7 < c then v - dd i c else v + dd i c) 32767)
def di (i c : Int) : Int := imax 0 (imin (i + moves.getD (c % 8).toNat 0) 88)
def code (v i x : Int) : Int := imin (4 * (if x < v then v - x else x - v) / size i) 7 + (if x < v then 8 else 0)

theorem it_range (n : Nat) : 7 ≤ it (n + 1) ∧ it (n + 1) ≤ 32767 := by
  induction n with
  | zero => exact ⟨by decide, by decide⟩
  | succ n ih =>
    show 7 ≤ next (it (n + 1)) ∧ next (it (n + 1)) ≤ 32767
    generalize it (n + 1) = s at ih
    have h1 : w (s + 5) = s + 5 := wrap_i64 (by omega) (by omega)
    have h2 : (s + 5).tdiv 10 = (s + 5) / 10 := Int.tdiv_eq_ediv_of_nonneg (by omega)
    have h3 : w ((s + 5) / 10) = (s + 5) / 10 := wrap_i64 (by omega) (by omega)
    have h4 : w (s + (s + 5) / 10) = s + (s + 5) / 10 := wrap_i64 (by omega) (by omega)
    simp only [next, h1, h2, h3, h4, imin]
    rw [if_neg (by omega)]
    split <;> omega
theorem it_next (n : Nat) : it (n + 2) = imin (it (n + 1) + (it (n + 1) + 5) / 10) 32767 := by
  have ih := it_range n
  show next (it (n + 1)) = _
  generalize it (n + 1) = s at ih
  have h1 : w (s + 5) = s + 5 := wrap_i64 (by omega) (by omega)
  have h2 : (s + 5).tdiv 10 = (s + 5) / 10 := Int.tdiv_eq_ediv_of_nonneg (by omega)
  have h3 : w ((s + 5) / 10) = (s + 5) / 10 := wrap_i64 (by omega) (by omega)
  have h4 : w (s + (s + 5) / 10) = s + (s + 5) / 10 := wrap_i64 (by omega) (by omega)
  simp only [next, h1, h2, h3, h4]
  rw [if_neg (by omega)]
theorem it_step (n : Nat) : imin (w (it (n + 1) + w ((w (it (n + 1) + 5)).tdiv 10))) 32767 = it (n + 2) := by
  show _ = next (it (n + 1))
  have := it_range n
  simp only [next]
  rw [if_neg (by omega)]
theorem size_of {i : Int} {j : Nat} (h : (j : Int) = i) (hi : i ≤ 88) : size i = it (j + 1) := by
  subst h; simp only [size]; rw [if_pos ⟨by omega, hi⟩]; simp
theorem size_out {i : Int} (h : i < 0 ∨ 88 < i) : size i = 0 := by
  simp only [size]; rw [if_neg (by omega)]
theorem wrap_nat {j : Nat} (h : (j : Int) ≤ 1000000000000) : IntKind.i64.wrap ((j : Int) + 1) = ((j + 1 : Nat) : Int) := by
  rw [wrap_i64 (by omega) (by omega)]; omega
theorem valid_iff {v i : Int} : valid v i = true ↔ -32768 ≤ v ∧ v ≤ 32767 ∧ 0 ≤ i ∧ i ≤ 88 := by
  simp only [valid, Bool.and_eq_true, decide_eq_true_eq]; omega
theorem size_range {v i : Int} (hv : valid v i = true) : 7 ≤ size i ∧ size i ≤ 32767 := by
  have h := valid_iff.1 hv
  simp only [size]; rw [if_pos ⟨h.2.2.1, h.2.2.2⟩]; exact it_range _
theorem mul_range {v i c : Int} (hv : valid v i = true) : 0 ≤ (2 * (c % 8) + 1) * size i ∧ (2 * (c % 8) + 1) * size i ≤ 15 * 32767 := by
  have h := size_range hv
  have h1 : 0 ≤ c % 8 := Int.emod_nonneg _ (by omega)
  have h2 : c % 8 < 8 := Int.emod_lt_of_pos _ (by omega)
  exact ⟨Int.mul_nonneg (by omega) (by omega), Int.mul_le_mul (by omega) h.2 (by omega) (by omega)⟩
theorem dd_range {v i c : Int} (hv : valid v i = true) : 0 ≤ dd i c ∧ dd i c ≤ 61439 := by
  have := mul_range (c := c) hv
  simp only [dd]; omega
theorem m_eq {c : Int} (hc : 0 ≤ c ∧ c ≤ 255) : IntKind.i64.wrap (iand .u8 c 7) = c % 8 := by
  rw [show iand .u8 c 7 = c % 8 from iand_u8 3 hc (by omega)]; exact wrap_i64 (by omega) (by omega)
theorem m_eq' {c : Int} (hc : 0 ≤ c ∧ c ≤ 255) : Int.tmod (IntKind.i64.wrap c) 8 = c % 8 := by
  rw [wrap_i64 (by omega) (by omega), Int.tmod_eq_emod_of_nonneg hc.1]
theorem d_eq {v i c : Int} (hv : valid v i = true) : IntKind.i64.wrap (Int.tdiv (IntKind.i64.wrap (IntKind.i64.wrap (IntKind.i64.wrap (2 * (c % 8)) + 1) * size i)) 8) = dd i c := by
  have h := mul_range (c := c) hv
  have hd := dd_range (c := c) hv
  rw [wrap_i64 (x := 2 * (c % 8)) (by omega) (by omega), wrap_i64 (x := 2 * (c % 8) + 1) (by omega) (by omega), wrap_i64 (x := _ * _) (by omega) (by omega), Int.tdiv_eq_ediv_of_nonneg h.1]
  exact wrap_i64 (x := dd i c) (by omega) (by omega)
theorem move_eq {c : Int} : moves.getD (c % 8).toNat 0 = if 4 ≤ c % 8 then 2 * (c % 8 - 3) else -1 := by
  have h1 : 0 ≤ c % 8 := Int.emod_nonneg _ (by omega)
  have h2 : c % 8 < 8 := Int.emod_lt_of_pos _ (by omega)
  generalize c % 8 = m at h1 h2
  have : m = 0 ∨ m = 1 ∨ m = 2 ∨ m = 3 ∨ m = 4 ∨ m = 5 ∨ m = 6 ∨ m = 7 := by omega
  rcases this with h | h | h | h | h | h | h | h <;> subst h <;> rfl
theorem l24v1 {v i c : Int} (hv : valid v i = true) (hc : 0 ≤ c ∧ c ≤ 255) (h1 : 7 < c) : imax (-32768) (imin (IntKind.i64.wrap (v + IntKind.i64.wrap (0 - IntKind.i64.wrap (Int.tdiv (IntKind.i64.wrap (IntKind.i64.wrap (IntKind.i64.wrap (2 * IntKind.i64.wrap (iand .u8 c 7)) + 1) * size i)) 8)))) 32767) = dv v i c := by
  have h := valid_iff.1 hv
  have hd := dd_range (c := c) hv
  rw [m_eq hc, d_eq hv, wrap_i64 (x := 0 - _) (by omega) (by omega), wrap_i64 (by omega) (by omega)]
  simp only [dv]; rw [if_pos h1, show v + (0 - dd i c) = v - dd i c from by omega]
theorem l24v2 {v i c : Int} (hv : valid v i = true) (hc : 0 ≤ c ∧ c ≤ 255) (h1 : c ≤ 7) : imax (-32768) (imin (IntKind.i64.wrap (v + IntKind.i64.wrap (Int.tdiv (IntKind.i64.wrap (IntKind.i64.wrap (IntKind.i64.wrap (2 * IntKind.i64.wrap (iand .u8 c 7)) + 1) * size i)) 8))) 32767) = dv v i c := by
  have h := valid_iff.1 hv
  have hd := dd_range (c := c) hv
  rw [m_eq hc, d_eq hv, wrap_i64 (by omega) (by omega)]
  simp only [dv]; rw [if_neg (by omega)]
theorem l24i {v i c : Int} (hv : valid v i = true) (hc : 0 ≤ c ∧ c ≤ 255) : imax 0 (imin (IntKind.i64.wrap (i + List.getD [-1, -1, -1, -1, 2, 4, 6, 8] (0 + Int.toNat (IntKind.i64.wrap (iand .u8 c 7)) * 1) 0)) 88) = di i c := by
  have h := valid_iff.1 hv
  rw [m_eq hc, Nat.zero_add, Nat.mul_one]
  have := move_eq (c := c)
  have e : List.getD [-1, -1, -1, -1, 2, 4, 6, 8] (c % 8).toNat 0 = moves.getD (c % 8).toNat 0 := rfl
  rw [e, wrap_i64 (by rw [this]; split <;> omega) (by rw [this]; split <;> omega)]
  rfl
theorem l26v1 {v i c : Int} (hv : valid v i = true) (hc : 0 ≤ c ∧ c ≤ 255) (h1 : 8 ≤ c) : imin (imax (IntKind.i64.wrap (v - IntKind.i64.wrap (Int.tdiv (IntKind.i64.wrap (IntKind.i64.wrap (IntKind.i64.wrap (2 * Int.tmod (IntKind.i64.wrap c) 8) + 1) * size i)) 8))) (-32768)) 32767 = dv v i c := by
  have h := valid_iff.1 hv
  have hd := dd_range (c := c) hv
  rw [m_eq' hc, d_eq hv, wrap_i64 (by omega) (by omega), clamp (by omega)]
  simp only [dv]; rw [if_pos (by omega)]
theorem l26v2 {v i c : Int} (hv : valid v i = true) (hc : 0 ≤ c ∧ c ≤ 255) (h1 : c < 8) : imin (imax (IntKind.i64.wrap (v + IntKind.i64.wrap (Int.tdiv (IntKind.i64.wrap (IntKind.i64.wrap (IntKind.i64.wrap (2 * Int.tmod (IntKind.i64.wrap c) 8) + 1) * size i)) 8))) (-32768)) 32767 = dv v i c := by
  have h := valid_iff.1 hv
  have hd := dd_range (c := c) hv
  rw [m_eq' hc, d_eq hv, wrap_i64 (by omega) (by omega), clamp (by omega)]
  simp only [dv]; rw [if_neg (by omega)]
theorem l26i1 {v i c : Int} (hv : valid v i = true) (hc : 0 ≤ c ∧ c ≤ 255) (h1 : 4 ≤ Int.tmod (IntKind.i64.wrap c) 8) : imin (imax (IntKind.i64.wrap (i + IntKind.i64.wrap (2 * IntKind.i64.wrap (Int.tmod (IntKind.i64.wrap c) 8 - 3)))) 0) 88 = di i c := by
  have h := valid_iff.1 hv
  rw [m_eq' hc] at h1 ⊢
  rw [wrap_i64 (x := c % 8 - 3) (by omega) (by omega), wrap_i64 (x := 2 * _) (by omega) (by omega), wrap_i64 (by omega) (by omega), clamp (by omega)]
  simp only [di, move_eq]; rw [if_pos h1]
theorem l26i2 {v i c : Int} (hv : valid v i = true) (hc : 0 ≤ c ∧ c ≤ 255) (h1 : Int.tmod (IntKind.i64.wrap c) 8 < 4) : imin (imax (IntKind.i64.wrap (i - 1)) 0) 88 = di i c := by
  have h := valid_iff.1 hv
  rw [m_eq' hc] at h1
  rw [wrap_i64 (by omega) (by omega), clamp (by omega)]
  simp only [di, move_eq]; rw [if_neg (by omega)]; rfl
theorem div_range {N s : Int} (hN : 0 ≤ N) (hs : 7 ≤ s) : 0 ≤ N / s ∧ N / s ≤ N := ⟨Int.ediv_nonneg hN (by omega), Int.ediv_le_self _ hN⟩
theorem l25a {v i x : Int} (hv : valid v i = true) (hx : -32768 ≤ x ∧ x ≤ 32767) (h1 : IntKind.i64.wrap (IntKind.i64.wrap x - v) < 0) : IntKind.u8.wrap (IntKind.i64.wrap (imin (IntKind.i64.wrap (Int.tdiv (IntKind.i64.wrap (4 * imax (IntKind.i64.wrap (IntKind.i64.wrap x - v)) (IntKind.i64.wrap (0 - IntKind.i64.wrap (IntKind.i64.wrap x - v))))) (size i))) 7 + 8)) = code v i x := by
  have h := valid_iff.1 hv
  have hs := size_range hv
  have e0 : IntKind.i64.wrap x = x := wrap_i64 (by omega) (by omega)
  have e1 : IntKind.i64.wrap (x - v) = x - v := wrap_i64 (by omega) (by omega)
  have e2 : IntKind.i64.wrap (0 - (x - v)) = 0 - (x - v) := wrap_i64 (by omega) (by omega)
  rw [e0, e1] at h1
  rw [e0, e1, e2]
  have e3 : imax (x - v) (0 - (x - v)) = v - x := by simp only [imax]; split <;> omega
  rw [e3, wrap_i64 (x := 4 * _) (by omega) (by omega), Int.tdiv_eq_ediv_of_nonneg (by omega)]
  have hr := div_range (N := 4 * (v - x)) (by omega) hs.1
  rw [wrap_i64 (x := _ / _) (by omega) (by omega)]
  simp only [code]; rw [if_pos (by omega), if_pos (by omega)]
  generalize 4 * (v - x) / size i = q at hr
  have : 0 ≤ imin q 7 ∧ imin q 7 ≤ 7 := by simp only [imin]; split <;> omega
  rw [wrap_i64 (by omega) (by omega)]; exact wrap_u8 (by omega) (by omega)
theorem l25b {v i x : Int} (hv : valid v i = true) (hx : -32768 ≤ x ∧ x ≤ 32767) (h1 : 0 ≤ IntKind.i64.wrap (IntKind.i64.wrap x - v)) : IntKind.u8.wrap (imin (IntKind.i64.wrap (Int.tdiv (IntKind.i64.wrap (4 * imax (IntKind.i64.wrap (IntKind.i64.wrap x - v)) (IntKind.i64.wrap (0 - IntKind.i64.wrap (IntKind.i64.wrap x - v))))) (size i))) 7) = code v i x := by
  have h := valid_iff.1 hv
  have hs := size_range hv
  have e0 : IntKind.i64.wrap x = x := wrap_i64 (by omega) (by omega)
  have e1 : IntKind.i64.wrap (x - v) = x - v := wrap_i64 (by omega) (by omega)
  have e2 : IntKind.i64.wrap (0 - (x - v)) = 0 - (x - v) := wrap_i64 (by omega) (by omega)
  rw [e0, e1] at h1
  rw [e0, e1, e2]
  have e3 : imax (x - v) (0 - (x - v)) = x - v := by simp only [imax]; split <;> omega
  rw [e3, wrap_i64 (x := 4 * _) (by omega) (by omega), Int.tdiv_eq_ediv_of_nonneg (by omega)]
  have hr := div_range (N := 4 * (x - v)) (by omega) hs.1
  rw [wrap_i64 (x := _ / _) (by omega) (by omega)]
  simp only [code]; rw [if_neg (by omega), if_neg (by omega)]
  generalize 4 * (x - v) / size i = q at hr
  have : 0 ≤ imin q 7 ∧ imin q 7 ≤ 7 := by simp only [imin]; split <;> omega
  rw [Int.add_zero]; exact wrap_u8 (by omega) (by omega)
theorem code_range {v i x : Int} (hv : valid v i = true) (hx : -32768 ≤ x ∧ x ≤ 32767) : 0 ≤ code v i x ∧ code v i x ≤ 15 := by
  have h := valid_iff.1 hv
  have hs := size_range hv
  simp only [code]
  have hr := div_range (N := 4 * (if x < v then v - x else x - v)) (by split <;> omega) hs.1
  generalize 4 * (if x < v then v - x else x - v) / size i = q at hr
  have : 0 ≤ imin q 7 ∧ imin q 7 ≤ 7 := by simp only [imin]; split <;> omega
  split <;> omega
theorem dec_valid {v i c : Int} : valid (dv v i c) (di i c) = true := by
  refine valid_iff.2 ?_
  simp only [dv, di, imax, imin]
  generalize (if 7 < c then v - dd i c else v + dd i c) = x
  generalize i + moves.getD (c % 8).toNat 0 = y
  refine ⟨?_, ?_, ?_, ?_⟩ <;> (repeat' split) <;> omega
end Sp
def C0 : Tab where
  own f := f == 28
  run f h a := match f, h, a with
    | 28, [.oo 3 1 [[.c (.int .i64 s)]]], [.p 0 0] => some ([.oo 3 1 [[.c (.int .i64 (Sp.next s))]]], .c (.int .i64 (Sp.next s)))
    | 27, [], [] => some ([.oo 3 1 [[.c (.int .i64 0)]]], .f 28 [.p 0 0])
    | 13, [], [.a [.c (.int .i64 v), .c (.int .i64 i)]] => some ([], .c (.bool (Sp.valid v i)))
    | 14, [], [.a [.c (.int .i64 v), .c (.int .i64 i)]] => some ([], .c (.bool (Sp.valid v i)))
    | 15, [], [.c (.int .i64 i)] => some ([], .c (.int .i64 (Sp.size i)))
    | 16, [], [.c (.int .i64 i)] => some ([], .c (.int .i64 (Sp.size i)))
    | 24, [], [.a [.c (.int .i64 v), .c (.int .i64 i)], .c (.int .u8 c)] => some ([], .a [.c (.int .i64 (Sp.dv v i c)), .c (.int .i64 (Sp.di i c))])
    | 26, [], [.a [.c (.int .i64 v), .c (.int .i64 i)], .c (.int .u8 c)] => some ([], .a [.c (.int .i64 (Sp.dv v i c)), .c (.int .i64 (Sp.di i c))])
    | 25, [], [.a [.c (.int .i64 v), .c (.int .i64 i)], .c (.int .i16 x)] => some ([], .c (.int .u8 (Sp.code v i x)))
    | _, _, _ => none

theorem con28 (s : Int) : Con Tryd.prog L0 28 [.oo 3 1 [[.c (.int .i64 s)]]] [.p 0 0] [.oo 3 1 [[.c (.int .i64 (Sp.next s))]]] (.c (.int .i64 (Sp.next s))) := by
  refine con_of_vc E_ok mixed Tryd.func28 rfl Tryd.call28 (Nat.le_of_ble_eq_true rfl) ?_
  refine VC.seq ?_
  refine VC.region (E := E) (C := C0) E_ok mixed [0, 1, 2, 3, 4, 5, 6, 7, 8, 9, 10] (st' := St.mk [(0, AV.p 0 0), (1, AV.c (Value.int IntKind.i64 0))] [HObj.oo 3 1 [[AV.c (Value.int IntKind.i64 s)]]]) (ps := []) (by kernel_rfl) (.nil) ?_
  refine seqK_n ?_
  refine VC.seq ?_
  refine VC.seq ?_
  refine VC.region (E := E) (C := C0) E_ok mixed [0, 1, 3, 4, 5, 6, 7, 8, 9, 10] (st' := St.mk [(0, AV.p 0 0), (1, AV.c (Value.int IntKind.i64 0)), (3, AV.c (Value.bool (s == 0)))] [HObj.oo 3 1 [[AV.c (Value.int IntKind.i64 s)]]]) (ps := []) (by kernel_rfl) (.nil) ?_
  refine seqK_n ?_
  refine VC.cond (b := s == 0) (by kernel_rfl) (fun h1 => ?_) (fun h1 => ?_)
  ·
    simp at h1
    refine VC.region (E := E) (C := C0) E_ok mixed [0, 1, 10] (st' := St.mk [(0, AV.p 0 0), (1, AV.c (Value.int IntKind.i64 0))] [HObj.oo 3 1 [[AV.c (Value.int IntKind.i64 7)]]]) (ps := [(0 : Nat) < (1 : Nat)]) (by kernel_rfl) (.cons (by trivial) (.nil)) ?_
    refine seqK_n ?_
    refine VC.seq ?_
    refine VC.region (E := E) (C := C0) E_ok mixed [1] (st' := St.mk [(1, AV.c (Value.int IntKind.i64 7))] [HObj.oo 3 1 [[AV.c (Value.int IntKind.i64 7)]]]) (ps := []) (by kernel_rfl) (.nil) ?_
    refine seqK_n ?_
    refine VC.ret ?_
    exact Fin.all [] (.inr rfl) (l := [AV.c (Value.int IntKind.i64 7)]) (ps := []) (by kernel_rfl) (by kernel_rfl) (.nil) (All.of (l' := [HObj.oo 3 1 [[AV.c (Value.int IntKind.i64 (Sp.next s))]] = HObj.dead ∨ HObj.oo 3 1 [[AV.c (Value.int IntKind.i64 7)]] = HObj.oo 3 1 [[AV.c (Value.int IntKind.i64 (Sp.next s))]]]) (by kernel_rfl) (.cons (by simp_all [Sp.next, Sp.w]) (.nil))) (show AV.c (Value.int IntKind.i64 7) = AV.c (Value.int IntKind.i64 (Sp.next s)) by simp_all [Sp.next, Sp.w])
  ·
    simp at h1
    refine VC.region (E := E) (C := C0) E_ok mixed [0, 1, 10] (st' := St.mk [(0, AV.p 0 0), (1, AV.c (Value.int IntKind.i64 0))] [HObj.oo 3 1 [[AV.c (Value.int IntKind.i64 (imin (IntKind.wrap IntKind.i64 (s + IntKind.wrap IntKind.i64 (Int.tdiv (IntKind.wrap IntKind.i64 (s + 5)) 10))) 32767))]]]) (ps := [(10 : Int) ≠ (0 : Int), (0 : Nat) < (1 : Nat)]) (by kernel_rfl) (.cons (by trivial) (.cons (by trivial) (.nil))) ?_
    refine seqK_n ?_
    refine VC.seq ?_
    refine VC.region (E := E) (C := C0) E_ok mixed [1] (st' := St.mk [(1, AV.c (Value.int IntKind.i64 (imin (IntKind.wrap IntKind.i64 (s + IntKind.wrap IntKind.i64 (Int.tdiv (IntKind.wrap IntKind.i64 (s + 5)) 10))) 32767)))] [HObj.oo 3 1 [[AV.c (Value.int IntKind.i64 (imin (IntKind.wrap IntKind.i64 (s + IntKind.wrap IntKind.i64 (Int.tdiv (IntKind.wrap IntKind.i64 (s + 5)) 10))) 32767))]]]) (ps := []) (by kernel_rfl) (.nil) ?_
    refine seqK_n ?_
    refine VC.ret ?_
    exact Fin.all [] (.inr rfl) (l := [AV.c (Value.int IntKind.i64 (imin (IntKind.wrap IntKind.i64 (s + IntKind.wrap IntKind.i64 (Int.tdiv (IntKind.wrap IntKind.i64 (s + 5)) 10))) 32767))]) (ps := []) (by kernel_rfl) (by kernel_rfl) (.nil) (All.of (l' := [HObj.oo 3 1 [[AV.c (Value.int IntKind.i64 (Sp.next s))]] = HObj.dead ∨ HObj.oo 3 1 [[AV.c (Value.int IntKind.i64 (imin (IntKind.wrap IntKind.i64 (s + IntKind.wrap IntKind.i64 (Int.tdiv (IntKind.wrap IntKind.i64 (s + 5)) 10))) 32767))]] = HObj.oo 3 1 [[AV.c (Value.int IntKind.i64 (Sp.next s))]]]) (by kernel_rfl) (.cons (by simp_all [Sp.next, Sp.w]) (.nil))) (show AV.c (Value.int IntKind.i64 (imin (IntKind.wrap IntKind.i64 (s + IntKind.wrap IntKind.i64 (Int.tdiv (IntKind.wrap IntKind.i64 (s + 5)) 10))) 32767)) = AV.c (Value.int IntKind.i64 (Sp.next s)) by simp_all [Sp.next, Sp.w])

theorem con27 : Con Tryd.prog L0 27 [] [] [.oo 3 1 [[.c (.int .i64 0)]]] (.f 28 [.p 0 0]) := by
  refine con_of_vc E_ok mixed Tryd.func27 rfl Tryd.call27 (Nat.le_of_ble_eq_true rfl) ?_
  refine VC.seq ?_
  refine VC.region (E := E) (C := C0) E_ok mixed [0, 1, 2] (st' := St.mk [(0, AV.c Value.nilFunc)] []) (ps := []) (by kernel_rfl) (.nil) ?_
  refine seqK_n ?_
  refine VC.seq ?_
  refine VC.region (E := E) (C := C0) E_ok mixed [0, 1, 2] (st' := St.mk [(0, AV.c Value.nilFunc), (1, AV.p 0 0)] [HObj.oo 3 1 [[AV.c (Value.int IntKind.i64 0)]]]) (ps := [(0 : Nat) < (1 : Nat)]) (by kernel_rfl) (.cons (by trivial) (.nil)) ?_
  refine seqK_n ?_
  refine VC.seq ?_
  refine VC.region (E := E) (C := C0) E_ok mixed [0] (st' := St.mk [(0, AV.f 28 [AV.p 0 0])] [HObj.oo 3 1 [[AV.c (Value.int IntKind.i64 0)]]]) (ps := []) (by kernel_rfl) (.nil) ?_
  refine seqK_n ?_
  refine VC.ret ?_
  exact Fin.all [0] (.inr rfl) (l := [AV.f 28 [AV.p 0 0]]) (ps := []) (by kernel_rfl) (by kernel_rfl) (.nil) (All.of (l' := [HObj.oo (3 : TypeId) (1 : Nat) [[AV.c (Value.int IntKind.i64 (0 : Int))]] = HObj.dead ∨ HObj.oo (3 : TypeId) (1 : Nat) [[AV.c (Value.int IntKind.i64 (0 : Int))]] = HObj.oo (3 : TypeId) (1 : Nat) [[AV.c (Value.int IntKind.i64 (0 : Int))]]]) (by kernel_rfl) (.cons (by exact .inr rfl) (.nil))) (show AV.f 28 [AV.p 0 0] = AV.f 28 [AV.p 0 0] by with_reducible rfl)

theorem con13 (v i : Int) : Con Tryd.prog L0 13 [] [.a [.c (.int .i64 v), .c (.int .i64 i)]] [] (.c (.bool (Sp.valid v i))) := by
  refine con_of_vc E_ok mixed Tryd.func13 rfl Tryd.call13 (Nat.le_of_ble_eq_true rfl) ?_
  refine VC.seq ?_
  refine VC.region (E := E) (C := C0) E_ok mixed [1, 2, 3, 4, 5, 6, 7, 8, 9, 10, 11, 12, 13, 14, 15, 16, 17, 18, 19, 20] (st' := St.mk [(1, AV.p 0 0), (2, AV.c (Value.bool false))] [HObj.oo 23 2 [[AV.c (Value.int IntKind.i64 v), AV.c (Value.int IntKind.i64 i)]]]) (ps := []) (by kernel_rfl) (.nil) ?_
  refine seqK_n ?_
  refine VC.seq ?_
  refine VC.region (E := E) (C := C0) E_ok mixed [2] (st' := St.mk [(2, AV.c (Value.bool (if (if (if decide (-32768 ≤ v) = true then decide (v ≤ 32767) else false) = true then decide (0 ≤ i) else false) = true then decide (i ≤ 88) else false)))] [HObj.oo 23 2 [[AV.c (Value.int IntKind.i64 v), AV.c (Value.int IntKind.i64 i)]]]) (ps := [decide (-32768 ≤ v) = true → True, decide (-32768 ≤ v) = true → decide (-32768 ≤ v) = true ∧ True, decide (-32768 ≤ v) = true → decide (-32768 ≤ v) = true ∧ True, decide (-32768 ≤ v) = true → decide (-32768 ≤ v) = true ∧ True, decide (-32768 ≤ v) = false → True, (if decide (-32768 ≤ v) = true then decide (v ≤ 32767) else false) = true → True, (if decide (-32768 ≤ v) = true then decide (v ≤ 32767) else false) = true → (if decide (-32768 ≤ v) = true then decide (v ≤ 32767) else false) = true ∧ True, (if decide (-32768 ≤ v) = true then decide (v ≤ 32767) else false) = true → (if decide (-32768 ≤ v) = true then decide (v ≤ 32767) else false) = true ∧ True, (if decide (-32768 ≤ v) = true then decide (v ≤ 32767) else false) = true → (if decide (-32768 ≤ v) = true then decide (v ≤ 32767) else false) = true ∧ True, (if decide (-32768 ≤ v) = true then decide (v ≤ 32767) else false) = false → True, (if (if decide (-32768 ≤ v) = true then decide (v ≤ 32767) else false) = true then decide (0 ≤ i) else false) = true → True, (if (if decide (-32768 ≤ v) = true then decide (v ≤ 32767) else false) = true then decide (0 ≤ i) else false) = true → (if (if decide (-32768 ≤ v) = true then decide (v ≤ 32767) else false) = true then decide (0 ≤ i) else false) = true ∧ True, (if (if decide (-32768 ≤ v) = true then decide (v ≤ 32767) else false) = true then decide (0 ≤ i) else false) = true → (if (if decide (-32768 ≤ v) = true then decide (v ≤ 32767) else false) = true then decide (0 ≤ i) else false) = true ∧ True, (if (if decide (-32768 ≤ v) = true then decide (v ≤ 32767) else false) = true then decide (0 ≤ i) else false) = true → (if (if decide (-32768 ≤ v) = true then decide (v ≤ 32767) else false) = true then decide (0 ≤ i) else false) = true ∧ True, (if (if decide (-32768 ≤ v) = true then decide (v ≤ 32767) else false) = true then decide (0 ≤ i) else false) = false → True]) (by kernel_rfl) (.cons (by simp) (.cons (by simp) (.cons (by simp) (.cons (by simp) (.cons (by simp) (.cons (by simp) (.cons (by simp) (.cons (by simp) (.cons (by simp) (.cons (by simp) (.cons (by simp) (.cons (by simp) (.cons (by simp) (.cons (by simp) (.cons (by simp) (.nil)))))))))))))))) ?_
  refine seqK_n ?_
  refine VC.ret ?_
  exact Fin.all [] (.inr rfl) (l := [AV.c (Value.bool (if (if (if decide (-32768 ≤ v) = true then decide (v ≤ 32767) else false) = true then decide (0 ≤ i) else false) = true then decide (i ≤ 88) else false))]) (ps := []) (by kernel_rfl) (by kernel_rfl) (.nil) (All.of (l' := []) (by kernel_rfl) (.nil)) (show AV.c (Value.bool (if (if (if decide (-32768 ≤ v) = true then decide (v ≤ 32767) else false) = true then decide (0 ≤ i) else false) = true then decide (i ≤ 88) else false)) = AV.c (Value.bool (Sp.valid v i)) by simp [Sp.valid])

theorem con14 (v i : Int) : Con Tryd.prog L0 14 [] [.a [.c (.int .i64 v), .c (.int .i64 i)]] [] (.c (.bool (Sp.valid v i))) := by
  refine con_of_vc E_ok mixed Tryd.func14 rfl Tryd.call14 (Nat.le_of_ble_eq_true rfl) ?_
  refine VC.seq ?_
  refine VC.region (E := E) (C := C0) E_ok mixed [1, 2, 3, 4, 5, 6, 7, 8, 9, 10, 11, 12, 13, 14, 15, 16, 17, 18, 19, 20] (st' := St.mk [(1, AV.p 0 0), (2, AV.c (Value.bool false))] [HObj.oo 23 2 [[AV.c (Value.int IntKind.i64 v), AV.c (Value.int IntKind.i64 i)]]]) (ps := []) (by kernel_rfl) (.nil) ?_
  refine seqK_n ?_
  refine VC.seq ?_
  refine VC.region (E := E) (C := C0) E_ok mixed [2] (st' := St.mk [(2, AV.c (Value.bool (if (if (if decide (-32768 ≤ v) = true then decide (v ≤ 32767) else false) = true then decide (0 ≤ i) else false) = true then decide (i ≤ 88) else false)))] [HObj.oo 23 2 [[AV.c (Value.int IntKind.i64 v), AV.c (Value.int IntKind.i64 i)]]]) (ps := [decide (-32768 ≤ v) = true → True, decide (-32768 ≤ v) = true → decide (-32768 ≤ v) = true ∧ True, decide (-32768 ≤ v) = true → decide (-32768 ≤ v) = true ∧ True, decide (-32768 ≤ v) = true → decide (-32768 ≤ v) = true ∧ True, decide (-32768 ≤ v) = false → True, (if decide (-32768 ≤ v) = true then decide (v ≤ 32767) else false) = true → True, (if decide (-32768 ≤ v) = true then decide (v ≤ 32767) else false) = true → (if decide (-32768 ≤ v) = true then decide (v ≤ 32767) else false) = true ∧ True, (if decide (-32768 ≤ v) = true then decide (v ≤ 32767) else false) = true → (if decide (-32768 ≤ v) = true then decide (v ≤ 32767) else false) = true ∧ True, (if decide (-32768 ≤ v) = true then decide (v ≤ 32767) else false) = true → (if decide (-32768 ≤ v) = true then decide (v ≤ 32767) else false) = true ∧ True, (if decide (-32768 ≤ v) = true then decide (v ≤ 32767) else false) = false → True, (if (if decide (-32768 ≤ v) = true then decide (v ≤ 32767) else false) = true then decide (0 ≤ i) else false) = true → True, (if (if decide (-32768 ≤ v) = true then decide (v ≤ 32767) else false) = true then decide (0 ≤ i) else false) = true → (if (if decide (-32768 ≤ v) = true then decide (v ≤ 32767) else false) = true then decide (0 ≤ i) else false) = true ∧ True, (if (if decide (-32768 ≤ v) = true then decide (v ≤ 32767) else false) = true then decide (0 ≤ i) else false) = true → (if (if decide (-32768 ≤ v) = true then decide (v ≤ 32767) else false) = true then decide (0 ≤ i) else false) = true ∧ True, (if (if decide (-32768 ≤ v) = true then decide (v ≤ 32767) else false) = true then decide (0 ≤ i) else false) = true → (if (if decide (-32768 ≤ v) = true then decide (v ≤ 32767) else false) = true then decide (0 ≤ i) else false) = true ∧ True, (if (if decide (-32768 ≤ v) = true then decide (v ≤ 32767) else false) = true then decide (0 ≤ i) else false) = false → True]) (by kernel_rfl) (.cons (by simp) (.cons (by simp) (.cons (by simp) (.cons (by simp) (.cons (by simp) (.cons (by simp) (.cons (by simp) (.cons (by simp) (.cons (by simp) (.cons (by simp) (.cons (by simp) (.cons (by simp) (.cons (by simp) (.cons (by simp) (.cons (by simp) (.nil)))))))))))))))) ?_
  refine seqK_n ?_
  refine VC.ret ?_
  exact Fin.all [] (.inr rfl) (l := [AV.c (Value.bool (if (if (if decide (-32768 ≤ v) = true then decide (v ≤ 32767) else false) = true then decide (0 ≤ i) else false) = true then decide (i ≤ 88) else false))]) (ps := []) (by kernel_rfl) (by kernel_rfl) (.nil) (All.of (l' := []) (by kernel_rfl) (.nil)) (show AV.c (Value.bool (if (if (if decide (-32768 ≤ v) = true then decide (v ≤ 32767) else false) = true then decide (0 ≤ i) else false) = true then decide (i ≤ 88) else false)) = AV.c (Value.bool (Sp.valid v i)) by simp [Sp.valid])

theorem con15 (i : Int) : Con Tryd.prog L0 15 [] [.c (.int .i64 i)] [] (.c (.int .i64 (Sp.size i))) := by
  refine con_of_vc E_ok mixed Tryd.func15 rfl Tryd.call15 (Nat.le_of_ble_eq_true rfl) ?_
  refine VC.seq ?_
  refine VC.region (E := E) (C := C0) E_ok mixed [0, 2, 3, 4, 5, 6, 7, 8, 9, 10, 11, 12, 13, 14, 16, 17, 18] (st' := St.mk [(0, AV.c (Value.int IntKind.i64 i)), (2, AV.c (Value.int IntKind.i64 0))] []) (ps := []) (by kernel_rfl) (.nil) ?_
  refine seqK_n ?_
  refine VC.seq ?_
  refine VC.seq ?_
  refine VC.region (E := E) (C := C0) E_ok mixed [0, 2, 3, 9, 10, 11, 12, 13, 14, 16, 17, 18] (st' := St.mk [(0, AV.c (Value.int IntKind.i64 i)), (2, AV.c (Value.int IntKind.i64 0)), (9, AV.c (Value.bool (if decide (i < 0) = true then true else decide (88 < i))))] []) (ps := [(!decide (i < 0)) = true → True, (!decide (i < 0)) = true → (!decide (i < 0)) = true ∧ True, decide (i < 0) = true → True, decide (i < 0) = false → (!decide (i < 0)) = true ∧ True]) (by kernel_rfl) (.cons (by simp) (.cons (by simp) (.cons (by simp) (.cons (by simp) (.nil))))) ?_
  refine seqK_n ?_
  refine VC.cond (b := if decide (i < 0) = true then true else decide (88 < i)) (by kernel_rfl) (fun h1 => ?_) (fun h1 => ?_)
  ·
    simp at h1
    refine VC.seq ?_
    refine VC.region (E := E) (C := C0) E_ok mixed [0, 2, 3, 10, 11, 12, 13, 14, 16, 17, 18] (st' := St.mk [(0, AV.c (Value.int IntKind.i64 i)), (2, AV.c (Value.int IntKind.i64 0))] []) (ps := []) (by kernel_rfl) (.nil) ?_
    refine seqK_n ?_
    refine VC.ret ?_
    refine seqK_r ?_
    exact Fin.all [] (.inr rfl) (l := [AV.c (Value.int IntKind.i64 0)]) (ps := []) (by kernel_rfl) (by kernel_rfl) (.nil) (All.of (l' := []) (by kernel_rfl) (.nil)) (show AV.c (Value.int IntKind.i64 0) = AV.c (Value.int IntKind.i64 (Sp.size i)) by rw [Sp.size_out (by omega)])
  ·
    simp at h1
    refine VC.skip ?_
    refine seqK_n ?_
    refine VC.seq ?_
    refine VC.region (E := E) (C := C0) E_ok mixed [0, 2, 3, 11, 12, 13, 14, 16, 17, 18] (st' := St.mk [(0, AV.c (Value.int IntKind.i64 i)), (2, AV.c (Value.int IntKind.i64 0)), (3, AV.f 28 [AV.p 0 0])] [HObj.oo 3 1 [[AV.c (Value.int IntKind.i64 0)]]]) (ps := [Con Tryd.prog L0 (27 : Nat) [] [] [HObj.oo (3 : TypeId) (1 : Nat) [[AV.c (Value.int IntKind.i64 (0 : Int))]]] (AV.f (28 : Nat) [AV.p (0 : Nat) (0 : Nat)]), true = true ∨ (True ∧ True) ∧ ∀ (o : HObj), o ∈ [HObj.oo (3 : TypeId) (1 : Nat) [[AV.c (Value.int IntKind.i64 (0 : Int))]]] → HObj.nr o]) (by kernel_rfl) (.cons (by exact con27) (.cons (by simp) (.nil))) ?_
    refine seqK_n ?_
    refine VC.seq ?_
    refine VC.seq ?_
    refine VC.region (E := E) (C := C0) E_ok mixed [2, 3, 11, 12, 13, 14, 16, 17, 18] (st' := St.mk [(2, AV.c (Value.int IntKind.i64 0)), (3, AV.f 28 [AV.p 0 0]), (11, AV.c (Value.int IntKind.i64 i)), (12, AV.c (Value.int IntKind.i64 0))] [HObj.oo 3 1 [[AV.c (Value.int IntKind.i64 0)]]]) (ps := []) (by kernel_rfl) (.nil) ?_
    refine seqK_n ?_
    refine VC.block ?_
    refine VC.loop (Y := {j : Nat // (j : Int) ≤ i}) (fun j => ⟨[(3, .f 28 [.p 0 0]), (11, .c (.int .i64 i)), (12, .c (.int .i64 (j.1 : Nat)))], [.oo 3 1 [[.c (.int .i64 (Sp.it j.1))]]]⟩) (fun j => (i - j.1).toNat) ⟨0, by simp at *; omega⟩ ?_ ?_
    ·
      exact Ent.map [0] (by kernel_rfl) (All.of (l' := [HObj.oo (3 : TypeId) (1 : Nat) [[AV.c (Value.int IntKind.i64 (Sp.it (0 : Nat)))]] = HObj.dead ∨ HObj.oo (3 : TypeId) (1 : Nat) [[AV.c (Value.int IntKind.i64 (0 : Int))]] = HObj.oo (3 : TypeId) (1 : Nat) [[AV.c (Value.int IntKind.i64 (0 : Int))]]]) (by kernel_rfl) (.cons (by exact .inr rfl) (.nil))) (All.of (l' := [some (AV.f (28 : Nat) [AV.p (0 : Nat) (0 : Nat)]) = some (AV.f (28 : Nat) [AV.p (0 : Nat) (0 : Nat)]), some (AV.c (Value.int IntKind.i64 i)) = some (AV.c (Value.int IntKind.i64 i)), some (AV.c (Value.int IntKind.i64 (0 : Int))) = some (AV.c (Value.int IntKind.i64 (0 : Int)))]) (by kernel_rfl) (.cons (by with_reducible rfl) (.cons (by with_reducible rfl) (.cons (by with_reducible rfl) (.nil)))))
    intro ⟨j, hj⟩
    refine VC.seq ?_
    refine VC.region (E := E) (C := C0) E_ok mixed [2, 3, 11, 12, 13, 14, 16, 17, 18] (st' := St.mk [(3, AV.f 28 [AV.p 0 0]), (11, AV.c (Value.int IntKind.i64 i)), (12, AV.c (Value.int IntKind.i64 ↑j)), (13, AV.c (Value.bool (decide (↑j < i))))] [HObj.oo 3 1 [[AV.c (Value.int IntKind.i64 (Sp.it j))]]]) (ps := []) (by kernel_rfl) (.nil) ?_
    refine seqK_n ?_
    refine VC.seq ?_
    refine VC.cond (b := decide (↑j < i)) (by kernel_rfl) (fun h2 => ?_) (fun h2 => ?_)
    ·
      simp at h2
      refine VC.skip ?_
      refine seqK_n ?_
      refine VC.seq ?_
      refine VC.block ?_
      refine VC.region (E := E) (C := C0) E_ok mixed [2, 3, 11, 12, 16, 17, 18] (st' := St.mk [(3, AV.f 28 [AV.p 0 0]), (11, AV.c (Value.int IntKind.i64 i)), (12, AV.c (Value.int IntKind.i64 ↑j))] [HObj.oo 3 1 [[AV.c (Value.int IntKind.i64 (Sp.next (Sp.it j)))]]]) (ps := [Con Tryd.prog L0 28 [HObj.oo 3 1 [[AV.c (Value.int IntKind.i64 (Sp.it j))]]] [AV.p 0 0] [HObj.oo 3 1 [[AV.c (Value.int IntKind.i64 (Sp.next (Sp.it j)))]]] (AV.c (Value.int IntKind.i64 (Sp.next (Sp.it j)))), (1 : Nat) ≤ (1 : Nat), True ∧ (True ∧ True) ∧ True]) (by kernel_rfl) (.cons (by exact con28 _) (.cons (by trivial) (.cons (by trivial) (.nil)))) ?_
      refine blockK_n ?_
      refine seqK_n ?_
      refine VC.region (E := E) (C := C0) E_ok mixed [2, 3, 11, 12, 17, 18] (st' := St.mk [(3, AV.f 28 [AV.p 0 0]), (11, AV.c (Value.int IntKind.i64 i)), (12, AV.c (Value.int IntKind.i64 (IntKind.wrap IntKind.i64 (↑j + 1))))] [HObj.oo 3 1 [[AV.c (Value.int IntKind.i64 (Sp.next (Sp.it j)))]]]) (ps := []) (by kernel_rfl) (.nil) ?_
      refine loopK_n (⟨j + 1, by simp at *; omega⟩) ?_ ?_
      ·
        decreasing_tactic
      ·
        exact Ent.map [0] (by kernel_rfl) (All.of (l' := [HObj.oo 3 1 [[AV.c (Value.int IntKind.i64 (Sp.it (j + 1)))]] = HObj.dead ∨ HObj.oo 3 1 [[AV.c (Value.int IntKind.i64 (Sp.next (Sp.it j)))]] = HObj.oo 3 1 [[AV.c (Value.int IntKind.i64 (Sp.it (j + 1)))]]]) (by kernel_rfl) (.cons (by exact .inr rfl) (.nil))) (All.of (l' := [some (AV.f (28 : Nat) [AV.p (0 : Nat) (0 : Nat)]) = some (AV.f (28 : Nat) [AV.p (0 : Nat) (0 : Nat)]), some (AV.c (Value.int IntKind.i64 i)) = some (AV.c (Value.int IntKind.i64 i)), some (AV.c (Value.int IntKind.i64 (IntKind.wrap IntKind.i64 (↑j + 1)))) = some (AV.c (Value.int IntKind.i64 ↑(j + 1)))]) (by kernel_rfl) (.cons (by with_reducible rfl) (.cons (by with_reducible rfl) (.cons (by rw [Sp.wrap_nat (by omega)]) (.nil)))))
    ·
      simp at h2
      refine VC.exit ?_
      refine seqK_x ?_
      refine loopK_x ?_
      refine blockK_x ?_
      refine seqK_n ?_
      refine VC.seq ?_
      refine VC.region (E := E) (C := C0) E_ok mixed [2] (st' := St.mk [(2, AV.c (Value.int IntKind.i64 (Sp.next (Sp.it j))))] [HObj.oo 3 1 [[AV.c (Value.int IntKind.i64 (Sp.next (Sp.it j)))]]]) (ps := [Con Tryd.prog L0 28 [HObj.oo 3 1 [[AV.c (Value.int IntKind.i64 (Sp.it j))]]] [AV.p 0 0] [HObj.oo 3 1 [[AV.c (Value.int IntKind.i64 (Sp.next (Sp.it j)))]]] (AV.c (Value.int IntKind.i64 (Sp.next (Sp.it j)))), (1 : Nat) ≤ (1 : Nat), True ∧ (True ∧ True) ∧ True]) (by kernel_rfl) (.cons (by exact con28 _) (.cons (by trivial) (.cons (by trivial) (.nil)))) ?_
      refine seqK_n ?_
      refine VC.ret ?_
      exact Fin.all [] (.inr rfl) (l := [AV.c (Value.int IntKind.i64 (Sp.next (Sp.it j)))]) (ps := []) (by kernel_rfl) (by kernel_rfl) (.nil) (All.of (l' := []) (by kernel_rfl) (.nil)) (show AV.c (Value.int IntKind.i64 (Sp.next (Sp.it j))) = AV.c (Value.int IntKind.i64 (Sp.size i)) by rw [Sp.size_of (j := j) (by omega) (by omega)]; rfl)

theorem con16 (i : Int) : Con Tryd.prog L0 16 [] [.c (.int .i64 i)] [] (.c (.int .i64 (Sp.size i))) := by
  refine con_of_vc E_ok mixed Tryd.func16 rfl Tryd.call16 (Nat.le_of_ble_eq_true rfl) ?_
  refine VC.seq ?_
  refine VC.region (E := E) (C := C0) E_ok mixed [0, 2, 3, 4, 5, 6, 7, 8, 9, 10, 11, 12, 13, 14, 15, 16, 17, 18, 19, 20, 21, 22] (st' := St.mk [(0, AV.c (Value.int IntKind.i64 i)), (2, AV.c (Value.int IntKind.i64 0))] []) (ps := []) (by kernel_rfl) (.nil) ?_
  refine seqK_n ?_
  refine VC.seq ?_
  refine VC.seq ?_
  refine VC.region (E := E) (C := C0) E_ok mixed [0, 2, 3, 4, 10, 11, 12, 13, 14, 15, 16, 17, 18, 19, 20, 21, 22] (st' := St.mk [(0, AV.c (Value.int IntKind.i64 i)), (2, AV.c (Value.int IntKind.i64 0)), (10, AV.c (Value.bool (if decide (i < 0) = true then true else decide (88 < i))))] []) (ps := [(!decide (i < 0)) = true → True, (!decide (i < 0)) = true → (!decide (i < 0)) = true ∧ True, decide (i < 0) = true → True, decide (i < 0) = false → (!decide (i < 0)) = true ∧ True]) (by kernel_rfl) (.cons (by simp) (.cons (by simp) (.cons (by simp) (.cons (by simp) (.nil))))) ?_
  refine seqK_n ?_
  refine VC.cond (b := if decide (i < 0) = true then true else decide (88 < i)) (by kernel_rfl) (fun h1 => ?_) (fun h1 => ?_)
  ·
    simp at h1
    refine VC.seq ?_
    refine VC.region (E := E) (C := C0) E_ok mixed [0, 2, 3, 4, 11, 12, 13, 14, 15, 16, 17, 18, 19, 20, 21, 22] (st' := St.mk [(0, AV.c (Value.int IntKind.i64 i)), (2, AV.c (Value.int IntKind.i64 0))] []) (ps := []) (by kernel_rfl) (.nil) ?_
    refine seqK_n ?_
    refine VC.ret ?_
    refine seqK_r ?_
    exact Fin.all [] (.inr rfl) (l := [AV.c (Value.int IntKind.i64 0)]) (ps := []) (by kernel_rfl) (by kernel_rfl) (.nil) (All.of (l' := []) (by kernel_rfl) (.nil)) (show AV.c (Value.int IntKind.i64 0) = AV.c (Value.int IntKind.i64 (Sp.size i)) by rw [Sp.size_out (by omega)])
  ·
    simp at h1
    refine VC.skip ?_
    refine seqK_n ?_
    refine VC.seq ?_
    refine VC.region (E := E) (C := C0) E_ok mixed [0, 2, 3, 4, 11, 12, 13, 14, 15, 16, 17, 18, 19, 20, 21, 22] (st' := St.mk [(0, AV.c (Value.int IntKind.i64 i)), (2, AV.c (Value.int IntKind.i64 0)), (3, AV.c (Value.int IntKind.i64 7))] []) (ps := []) (by kernel_rfl) (.nil) ?_
    refine seqK_n ?_
    refine VC.seq ?_
    refine VC.seq ?_
    refine VC.region (E := E) (C := C0) E_ok mixed [0, 2, 3, 4, 11, 12, 13, 14, 15, 16, 17, 18, 19, 20, 21, 22] (st' := St.mk [(0, AV.c (Value.int IntKind.i64 i)), (2, AV.c (Value.int IntKind.i64 0)), (3, AV.c (Value.int IntKind.i64 7)), (4, AV.c (Value.int IntKind.i64 0))] []) (ps := []) (by kernel_rfl) (.nil) ?_
    refine seqK_n ?_
    refine VC.block ?_
    refine VC.loop (Y := {j : Nat // (j : Int) ≤ i}) (fun j => ⟨[(0, .c (.int .i64 i)), (3, .c (.int .i64 (Sp.it (j.1 + 1)))), (4, .c (.int .i64 (j.1 : Nat)))], []⟩) (fun j => (i - j.1).toNat) ⟨0, by simp at *; omega⟩ ?_ ?_
    ·
      exact Ent.map [] (by kernel_rfl) (All.of (l' := []) (by kernel_rfl) (.nil)) (All.of (l' := [some (AV.c (Value.int IntKind.i64 i)) = some (AV.c (Value.int IntKind.i64 i)), some (AV.c (Value.int IntKind.i64 (7 : Int))) = some (AV.c (Value.int IntKind.i64 (7 : Int))), some (AV.c (Value.int IntKind.i64 (0 : Int))) = some (AV.c (Value.int IntKind.i64 (0 : Int)))]) (by kernel_rfl) (.cons (by with_reducible rfl) (.cons (by with_reducible rfl) (.cons (by with_reducible rfl) (.nil)))))
    intro ⟨j, hj⟩
    refine VC.seq ?_
    refine VC.seq ?_
    refine VC.region (E := E) (C := C0) E_ok mixed [0, 2, 3, 4, 13, 14, 15, 16, 17, 18, 19, 20, 21, 22] (st' := St.mk [(0, AV.c (Value.int IntKind.i64 i)), (3, AV.c (Value.int IntKind.i64 (Sp.it (j + 1)))), (4, AV.c (Value.int IntKind.i64 ↑j)), (13, AV.c (Value.bool (decide (↑j < i))))] []) (ps := []) (by kernel_rfl) (.nil) ?_
    refine seqK_n ?_
    refine VC.cond (b := decide (↑j < i)) (by kernel_rfl) (fun h2 => ?_) (fun h2 => ?_)
    ·
      simp at h2
      refine VC.skip ?_
      refine seqK_n ?_
      refine VC.seq ?_
      refine VC.block ?_
      refine VC.region (E := E) (C := C0) E_ok mixed [0, 2, 3, 4, 14, 15, 22] (st' := St.mk [(0, AV.c (Value.int IntKind.i64 i)), (3, AV.c (Value.int IntKind.i64 (imin (IntKind.wrap IntKind.i64 (Sp.it (j + 1) + IntKind.wrap IntKind.i64 (Int.tdiv (IntKind.wrap IntKind.i64 (Sp.it (j + 1) + 5)) 10))) 32767))), (4, AV.c (Value.int IntKind.i64 ↑j))] []) (ps := [(10 : Int) ≠ (0 : Int)]) (by kernel_rfl) (.cons (by trivial) (.nil)) ?_
      refine blockK_n ?_
      refine seqK_n ?_
      refine VC.region (E := E) (C := C0) E_ok mixed [0, 2, 3, 4, 22] (st' := St.mk [(0, AV.c (Value.int IntKind.i64 i)), (3, AV.c (Value.int IntKind.i64 (imin (IntKind.wrap IntKind.i64 (Sp.it (j + 1) + IntKind.wrap IntKind.i64 (Int.tdiv (IntKind.wrap IntKind.i64 (Sp.it (j + 1) + 5)) 10))) 32767))), (4, AV.c (Value.int IntKind.i64 (IntKind.wrap IntKind.i64 (↑j + 1))))] []) (ps := []) (by kernel_rfl) (.nil) ?_
      refine loopK_n (⟨j + 1, by simp at *; omega⟩) ?_ ?_
      ·
        decreasing_tactic
      ·
        exact Ent.map [] (by kernel_rfl) (All.of (l' := []) (by kernel_rfl) (.nil)) (All.of (l' := [some (AV.c (Value.int IntKind.i64 i)) = some (AV.c (Value.int IntKind.i64 i)), some (AV.c (Value.int IntKind.i64 (imin (IntKind.wrap IntKind.i64 (Sp.it (j + 1) + IntKind.wrap IntKind.i64 (Int.tdiv (IntKind.wrap IntKind.i64 (Sp.it (j + 1) + 5)) 10))) 32767))) = some (AV.c (Value.int IntKind.i64 (Sp.it (j + 1 + 1)))), some (AV.c (Value.int IntKind.i64 (IntKind.wrap IntKind.i64 (↑j + 1)))) = some (AV.c (Value.int IntKind.i64 ↑(j + 1)))]) (by kernel_rfl) (.cons (by with_reducible rfl) (.cons (by exact congrArg (fun x => some (AV.c (Value.int .i64 x))) (Sp.it_step j)) (.cons (by rw [Sp.wrap_nat (by omega)]) (.nil)))))
    ·
      simp at h2
      refine VC.exit ?_
      refine seqK_x ?_
      refine loopK_x ?_
      refine blockK_x ?_
      refine seqK_n ?_
      refine VC.seq ?_
      refine VC.region (E := E) (C := C0) E_ok mixed [2] (st' := St.mk [(2, AV.c (Value.int IntKind.i64 (Sp.it (j + 1))))] []) (ps := []) (by kernel_rfl) (.nil) ?_
      refine seqK_n ?_
      refine VC.ret ?_
      exact Fin.all [] (.inr rfl) (l := [AV.c (Value.int IntKind.i64 (Sp.it (j + 1)))]) (ps := []) (by kernel_rfl) (by kernel_rfl) (.nil) (All.of (l' := []) (by kernel_rfl) (.nil)) (show AV.c (Value.int IntKind.i64 (Sp.it (j + 1))) = AV.c (Value.int IntKind.i64 (Sp.size i)) by rw [Sp.size_of (j := j) (by omega) (by omega)])
theorem con24 (v i c : Int) (hv : Sp.valid v i = true) (hc : 0 ≤ c ∧ c ≤ 255) : Con Tryd.prog L0 24 [] [.a [.c (.int .i64 v), .c (.int .i64 i)], .c (.int .u8 c)] [] (.a [.c (.int .i64 (Sp.dv v i c)), .c (.int .i64 (Sp.di i c))]) := by
  refine con_of_vc E_ok mixed Tryd.func24 rfl Tryd.call24 (Nat.le_of_ble_eq_true rfl) ?_
  refine VC.seq ?_
  refine VC.region (E := E) (C := C0) E_ok mixed [1, 2, 4, 5, 6, 7, 8, 9, 10, 11, 12, 13, 14, 15, 16, 17, 18, 19, 20, 21, 22, 23, 24, 25, 26, 27, 28, 29, 30, 31, 32, 33, 34, 35, 36] (st' := St.mk [(1, AV.c (Value.int IntKind.u8 c)), (2, AV.p 0 0), (4, AV.p 1 0)] [HObj.oo 23 2 [[AV.c (Value.int IntKind.i64 v), AV.c (Value.int IntKind.i64 i)]], HObj.oo 23 2 [[AV.c (Value.int IntKind.i64 0), AV.c (Value.int IntKind.i64 0)]]]) (ps := []) (by kernel_rfl) (.nil) ?_
  refine seqK_n ?_
  refine VC.seq ?_
  refine VC.region (E := E) (C := C0) E_ok mixed [1, 2, 4, 5, 6, 10, 11, 12, 13, 14, 15, 16, 17, 18, 19, 20, 21, 22, 23, 24, 25, 26, 27, 28, 29, 30, 31, 32, 33, 34, 35, 36] (st' := St.mk [(1, AV.c (Value.int IntKind.u8 c)), (2, AV.p 0 0), (4, AV.p 1 0), (5, AV.c (Value.int IntKind.i64 (IntKind.wrap IntKind.i64 (iand IntKind.u8 c 7))))] [HObj.oo 23 2 [[AV.c (Value.int IntKind.i64 v), AV.c (Value.int IntKind.i64 i)]], HObj.oo 23 2 [[AV.c (Value.int IntKind.i64 0), AV.c (Value.int IntKind.i64 0)]]]) (ps := []) (by kernel_rfl) (.nil) ?_
  refine seqK_n ?_
  refine VC.seq ?_
  refine VC.region (E := E) (C := C0) E_ok mixed [1, 2, 4, 5, 6, 18, 19, 20, 21, 22, 23, 24, 25, 26, 27, 28, 29, 30, 31, 32, 33, 34, 35, 36] (st' := St.mk [(1, AV.c (Value.int IntKind.u8 c)), (2, AV.p 0 0), (4, AV.p 1 0), (5, AV.c (Value.int IntKind.i64 (IntKind.wrap IntKind.i64 (iand IntKind.u8 c 7)))), (6, AV.c (Value.int IntKind.i64 (IntKind.wrap IntKind.i64 (Int.tdiv (IntKind.wrap IntKind.i64 (IntKind.wrap IntKind.i64 (IntKind.wrap IntKind.i64 (2 * IntKind.wrap IntKind.i64 (iand IntKind.u8 c 7)) + 1) * Sp.size i)) 8))))] [HObj.oo 23 2 [[AV.c (Value.int IntKind.i64 v), AV.c (Value.int IntKind.i64 i)]], HObj.oo 23 2 [[AV.c (Value.int IntKind.i64 0), AV.c (Value.int IntKind.i64 0)]]]) (ps := [Con Tryd.prog L0 15 [] [AV.c (Value.int IntKind.i64 i)] [] (AV.c (Value.int IntKind.i64 (Sp.size i))), true = true ∨ True ∧ ∀ (o : HObj), o ∈ [] → HObj.nr o, (8 : Int) ≠ (0 : Int)]) (by kernel_rfl) (.cons (by exact con15 _) (.cons (by simp) (.cons (by trivial) (.nil)))) ?_
  refine seqK_n ?_
  refine VC.seq ?_
  refine VC.seq ?_
  refine VC.region (E := E) (C := C0) E_ok mixed [2, 4, 5, 6, 19, 20, 21, 22, 23, 24, 25, 26, 27, 28, 29, 30, 31, 32, 33, 34, 35, 36] (st' := St.mk [(2, AV.p 0 0), (4, AV.p 1 0), (5, AV.c (Value.int IntKind.i64 (IntKind.wrap IntKind.i64 (iand IntKind.u8 c 7)))), (6, AV.c (Value.int IntKind.i64 (IntKind.wrap IntKind.i64 (Int.tdiv (IntKind.wrap IntKind.i64 (IntKind.wrap IntKind.i64 (IntKind.wrap IntKind.i64 (2 * IntKind.wrap IntKind.i64 (iand IntKind.u8 c 7)) + 1) * Sp.size i)) 8)))), (19, AV.c (Value.bool (decide (7 < c))))] [HObj.oo 23 2 [[AV.c (Value.int IntKind.i64 v), AV.c (Value.int IntKind.i64 i)]], HObj.oo 23 2 [[AV.c (Value.int IntKind.i64 0), AV.c (Value.int IntKind.i64 0)]]]) (ps := []) (by kernel_rfl) (.nil) ?_
  refine seqK_n ?_
  refine VC.cond (b := decide (7 < c)) (by kernel_rfl) (fun h1 => ?_) (fun h1 => ?_)
  ·
    simp at h1
    refine VC.region (E := E) (C := C0) E_ok mixed [2, 4, 5, 6, 22, 23, 24, 25, 26, 27, 28, 29, 30, 31, 32, 33, 34, 35, 36] (st' := St.mk [(2, AV.p 0 0), (4, AV.p 1 0), (5, AV.c (Value.int IntKind.i64 (IntKind.wrap IntKind.i64 (iand IntKind.u8 c 7)))), (6, AV.c (Value.int IntKind.i64 (IntKind.wrap IntKind.i64 (0 - IntKind.wrap IntKind.i64 (Int.tdiv (IntKind.wrap IntKind.i64 (IntKind.wrap IntKind.i64 (IntKind.wrap IntKind.i64 (2 * IntKind.wrap IntKind.i64 (iand IntKind.u8 c 7)) + 1) * Sp.size i)) 8)))))] [HObj.oo 23 2 [[AV.c (Value.int IntKind.i64 v), AV.c (Value.int IntKind.i64 i)]], HObj.oo 23 2 [[AV.c (Value.int IntKind.i64 0), AV.c (Value.int IntKind.i64 0)]]]) (ps := []) (by kernel_rfl) (.nil) ?_
    refine seqK_n ?_
    refine VC.seq ?_
    refine VC.region (E := E) (C := C0) E_ok mixed [4] (st' := St.mk [(4, AV.p 1 0)] [HObj.oo 23 2 [[AV.c (Value.int IntKind.i64 v), AV.c (Value.int IntKind.i64 i)]], HObj.oo 23 2 [[AV.c (Value.int IntKind.i64 (imax (-32768) (imin (IntKind.wrap IntKind.i64 (v + IntKind.wrap IntKind.i64 (0 - IntKind.wrap IntKind.i64 (Int.tdiv (IntKind.wrap IntKind.i64 (IntKind.wrap IntKind.i64 (IntKind.wrap IntKind.i64 (2 * IntKind.wrap IntKind.i64 (iand IntKind.u8 c 7)) + 1) * Sp.size i)) 8)))) 32767))), AV.c (Value.int IntKind.i64 (imax 0 (imin (IntKind.wrap IntKind.i64 (i + List.getD [-1, -1, -1, -1, 2, 4, 6, 8] (0 + Int.toNat (IntKind.wrap IntKind.i64 (iand IntKind.u8 c 7)) * 1) 0)) 88)))]]]) (ps := [0 ≤ IntKind.wrap IntKind.i64 (iand IntKind.u8 c 7), IntKind.wrap IntKind.i64 (iand IntKind.u8 c 7) < 8, 0 + Int.toNat (IntKind.wrap IntKind.i64 (iand IntKind.u8 c 7)) * 1 < 8, (0 : Nat) < (2 : Nat), (1 : Nat) < (2 : Nat)]) (by kernel_rfl) (.cons (by rw [Sp.m_eq hc]; omega) (.cons (by rw [Sp.m_eq hc]; omega) (.cons (by rw [Sp.m_eq hc]; omega) (.cons (by trivial) (.cons (by trivial) (.nil)))))) ?_
    refine seqK_n ?_
    refine VC.ret ?_
    exact Fin.all [] (.inr rfl) (l := [AV.a [AV.c (Value.int IntKind.i64 (imax (-32768) (imin (IntKind.wrap IntKind.i64 (v + IntKind.wrap IntKind.i64 (0 - IntKind.wrap IntKind.i64 (Int.tdiv (IntKind.wrap IntKind.i64 (IntKind.wrap IntKind.i64 (IntKind.wrap IntKind.i64 (2 * IntKind.wrap IntKind.i64 (iand IntKind.u8 c 7)) + 1) * Sp.size i)) 8)))) 32767))), AV.c (Value.int IntKind.i64 (imax 0 (imin (IntKind.wrap IntKind.i64 (i + List.getD [-1, -1, -1, -1, 2, 4, 6, 8] (0 + Int.toNat (IntKind.wrap IntKind.i64 (iand IntKind.u8 c 7)) * 1) 0)) 88)))]]) (ps := []) (by kernel_rfl) (by kernel_rfl) (.nil) (All.of (l' := []) (by kernel_rfl) (.nil)) (show AV.a [AV.c (Value.int IntKind.i64 (imax (-32768) (imin (IntKind.wrap IntKind.i64 (v + IntKind.wrap IntKind.i64 (0 - IntKind.wrap IntKind.i64 (Int.tdiv (IntKind.wrap IntKind.i64 (IntKind.wrap IntKind.i64 (IntKind.wrap IntKind.i64 (2 * IntKind.wrap IntKind.i64 (iand IntKind.u8 c 7)) + 1) * Sp.size i)) 8)))) 32767))), AV.c (Value.int IntKind.i64 (imax 0 (imin (IntKind.wrap IntKind.i64 (i + List.getD [-1, -1, -1, -1, 2, 4, 6, 8] (0 + Int.toNat (IntKind.wrap IntKind.i64 (iand IntKind.u8 c 7)) * 1) 0)) 88)))] = AV.a [AV.c (Value.int IntKind.i64 (Sp.dv v i c)), AV.c (Value.int IntKind.i64 (Sp.di i c))] by exact cong2 (Sp.l24v1 hv hc h1) (Sp.l24i hv hc))
  ·
    simp at h1
    refine VC.skip ?_
    refine seqK_n ?_
    refine VC.seq ?_
    refine VC.region (E := E) (C := C0) E_ok mixed [4] (st' := St.mk [(4, AV.p 1 0)] [HObj.oo 23 2 [[AV.c (Value.int IntKind.i64 v), AV.c (Value.int IntKind.i64 i)]], HObj.oo 23 2 [[AV.c (Value.int IntKind.i64 (imax (-32768) (imin (IntKind.wrap IntKind.i64 (v + IntKind.wrap IntKind.i64 (Int.tdiv (IntKind.wrap IntKind.i64 (IntKind.wrap IntKind.i64 (IntKind.wrap IntKind.i64 (2 * IntKind.wrap IntKind.i64 (iand IntKind.u8 c 7)) + 1) * Sp.size i)) 8))) 32767))), AV.c (Value.int IntKind.i64 (imax 0 (imin (IntKind.wrap IntKind.i64 (i + List.getD [-1, -1, -1, -1, 2, 4, 6, 8] (0 + Int.toNat (IntKind.wrap IntKind.i64 (iand IntKind.u8 c 7)) * 1) 0)) 88)))]]]) (ps := [0 ≤ IntKind.wrap IntKind.i64 (iand IntKind.u8 c 7), IntKind.wrap IntKind.i64 (iand IntKind.u8 c 7) < 8, 0 + Int.toNat (IntKind.wrap IntKind.i64 (iand IntKind.u8 c 7)) * 1 < 8, (0 : Nat) < (2 : Nat), (1 : Nat) < (2 : Nat)]) (by kernel_rfl) (.cons (by rw [Sp.m_eq hc]; omega) (.cons (by rw [Sp.m_eq hc]; omega) (.cons (by rw [Sp.m_eq hc]; omega) (.cons (by trivial) (.cons (by trivial) (.nil)))))) ?_
    refine seqK_n ?_
    refine VC.ret ?_
    exact Fin.all [] (.inr rfl) (l := [AV.a [AV.c (Value.int IntKind.i64 (imax (-32768) (imin (IntKind.wrap IntKind.i64 (v + IntKind.wrap IntKind.i64 (Int.tdiv (IntKind.wrap IntKind.i64 (IntKind.wrap IntKind.i64 (IntKind.wrap IntKind.i64 (2 * IntKind.wrap IntKind.i64 (iand IntKind.u8 c 7)) + 1) * Sp.size i)) 8))) 32767))), AV.c (Value.int IntKind.i64 (imax 0 (imin (IntKind.wrap IntKind.i64 (i + List.getD [-1, -1, -1, -1, 2, 4, 6, 8] (0 + Int.toNat (IntKind.wrap IntKind.i64 (iand IntKind.u8 c 7)) * 1) 0)) 88)))]]) (ps := []) (by kernel_rfl) (by kernel_rfl) (.nil) (All.of (l' := []) (by kernel_rfl) (.nil)) (show AV.a [AV.c (Value.int IntKind.i64 (imax (-32768) (imin (IntKind.wrap IntKind.i64 (v + IntKind.wrap IntKind.i64 (Int.tdiv (IntKind.wrap IntKind.i64 (IntKind.wrap IntKind.i64 (IntKind.wrap IntKind.i64 (2 * IntKind.wrap IntKind.i64 (iand IntKind.u8 c 7)) + 1) * Sp.size i)) 8))) 32767))), AV.c (Value.int IntKind.i64 (imax 0 (imin (IntKind.wrap IntKind.i64 (i + List.getD [-1, -1, -1, -1, 2, 4, 6, 8] (0 + Int.toNat (IntKind.wrap IntKind.i64 (iand IntKind.u8 c 7)) * 1) 0)) 88)))] = AV.a [AV.c (Value.int IntKind.i64 (Sp.dv v i c)), AV.c (Value.int IntKind.i64 (Sp.di i c))] by exact cong2 (Sp.l24v2 hv hc h1) (Sp.l24i hv hc))

theorem con26 (v i c : Int) (hv : Sp.valid v i = true) (hc : 0 ≤ c ∧ c ≤ 255) : Con Tryd.prog L0 26 [] [.a [.c (.int .i64 v), .c (.int .i64 i)], .c (.int .u8 c)] [] (.a [.c (.int .i64 (Sp.dv v i c)), .c (.int .i64 (Sp.di i c))]) := by
  refine con_of_vc E_ok mixed Tryd.func26 rfl Tryd.call26 (Nat.le_of_ble_eq_true rfl) ?_
  refine VC.seq ?_
  refine VC.region (E := E) (C := C0) E_ok mixed [1, 2, 4, 5, 6, 7, 8, 9, 10, 11, 12, 13, 14, 15, 16, 17, 18, 19, 20, 21, 22, 23, 24, 25, 26, 27, 28, 29, 30, 31, 32, 33, 34, 35, 36, 37, 38, 39, 40, 41, 42, 43, 44, 45, 46, 47] (st' := St.mk [(1, AV.c (Value.int IntKind.u8 c)), (2, AV.p 0 0), (4, AV.p 1 0)] [HObj.oo 23 2 [[AV.c (Value.int IntKind.i64 v), AV.c (Value.int IntKind.i64 i)]], HObj.oo 23 2 [[AV.c (Value.int IntKind.i64 0), AV.c (Value.int IntKind.i64 0)]]]) (ps := []) (by kernel_rfl) (.nil) ?_
  refine seqK_n ?_
  refine VC.seq ?_
  refine VC.region (E := E) (C := C0) E_ok mixed [1, 2, 4, 5, 6, 7, 8, 12, 13, 14, 15, 16, 17, 18, 19, 20, 21, 22, 23, 24, 25, 26, 27, 28, 29, 30, 31, 32, 33, 34, 35, 36, 37, 38, 39, 40, 41, 42, 43, 44, 45, 46, 47] (st' := St.mk [(1, AV.c (Value.int IntKind.u8 c)), (2, AV.p 0 0), (4, AV.p 1 0), (5, AV.c (Value.int IntKind.i64 (Int.tmod (IntKind.wrap IntKind.i64 c) 8)))] [HObj.oo 23 2 [[AV.c (Value.int IntKind.i64 v), AV.c (Value.int IntKind.i64 i)]], HObj.oo 23 2 [[AV.c (Value.int IntKind.i64 0), AV.c (Value.int IntKind.i64 0)]]]) (ps := [(8 : Int) ≠ (0 : Int)]) (by kernel_rfl) (.cons (by trivial) (.nil)) ?_
  refine seqK_n ?_
  refine VC.seq ?_
  refine VC.region (E := E) (C := C0) E_ok mixed [1, 2, 4, 5, 6, 7, 8, 20, 21, 22, 23, 24, 25, 26, 27, 28, 29, 30, 31, 32, 33, 34, 35, 36, 37, 38, 39, 40, 41, 42, 43, 44, 45, 46, 47] (st' := St.mk [(1, AV.c (Value.int IntKind.u8 c)), (2, AV.p 0 0), (4, AV.p 1 0), (5, AV.c (Value.int IntKind.i64 (Int.tmod (IntKind.wrap IntKind.i64 c) 8))), (6, AV.c (Value.int IntKind.i64 (IntKind.wrap IntKind.i64 (Int.tdiv (IntKind.wrap IntKind.i64 (IntKind.wrap IntKind.i64 (IntKind.wrap IntKind.i64 (2 * Int.tmod (IntKind.wrap IntKind.i64 c) 8) + 1) * Sp.size i)) 8))))] [HObj.oo 23 2 [[AV.c (Value.int IntKind.i64 v), AV.c (Value.int IntKind.i64 i)]], HObj.oo 23 2 [[AV.c (Value.int IntKind.i64 0), AV.c (Value.int IntKind.i64 0)]]]) (ps := [Con Tryd.prog L0 16 [] [AV.c (Value.int IntKind.i64 i)] [] (AV.c (Value.int IntKind.i64 (Sp.size i))), true = true ∨ True ∧ ∀ (o : HObj), o ∈ [] → HObj.nr o, (8 : Int) ≠ (0 : Int)]) (by kernel_rfl) (.cons (by exact con16 _) (.cons (by simp) (.cons (by trivial) (.nil)))) ?_
  refine seqK_n ?_
  refine VC.seq ?_
  refine VC.region (E := E) (C := C0) E_ok mixed [1, 2, 4, 5, 6, 7, 8, 24, 25, 26, 27, 28, 29, 30, 31, 32, 33, 34, 35, 36, 37, 38, 39, 40, 41, 42, 43, 44, 45, 46, 47] (st' := St.mk [(1, AV.c (Value.int IntKind.u8 c)), (2, AV.p 0 0), (4, AV.p 1 0), (5, AV.c (Value.int IntKind.i64 (Int.tmod (IntKind.wrap IntKind.i64 c) 8))), (6, AV.c (Value.int IntKind.i64 (IntKind.wrap IntKind.i64 (Int.tdiv (IntKind.wrap IntKind.i64 (IntKind.wrap IntKind.i64 (IntKind.wrap IntKind.i64 (2 * Int.tmod (IntKind.wrap IntKind.i64 c) 8) + 1) * Sp.size i)) 8)))), (7, AV.c (Value.int IntKind.i64 (IntKind.wrap IntKind.i64 (v + IntKind.wrap IntKind.i64 (Int.tdiv (IntKind.wrap IntKind.i64 (IntKind.wrap IntKind.i64 (IntKind.wrap IntKind.i64 (2 * Int.tmod (IntKind.wrap IntKind.i64 c) 8) + 1) * Sp.size i)) 8)))))] [HObj.oo 23 2 [[AV.c (Value.int IntKind.i64 v), AV.c (Value.int IntKind.i64 i)]], HObj.oo 23 2 [[AV.c (Value.int IntKind.i64 0), AV.c (Value.int IntKind.i64 0)]]]) (ps := []) (by kernel_rfl) (.nil) ?_
  refine seqK_n ?_
  refine VC.seq ?_
  refine VC.seq ?_
  refine VC.region (E := E) (C := C0) E_ok mixed [2, 4, 5, 6, 7, 8, 25, 26, 27, 28, 29, 30, 31, 32, 33, 34, 35, 36, 37, 38, 39, 40, 41, 42, 43, 44, 45, 46, 47] (st' := St.mk [(2, AV.p 0 0), (4, AV.p 1 0), (5, AV.c (Value.int IntKind.i64 (Int.tmod (IntKind.wrap IntKind.i64 c) 8))), (6, AV.c (Value.int IntKind.i64 (IntKind.wrap IntKind.i64 (Int.tdiv (IntKind.wrap IntKind.i64 (IntKind.wrap IntKind.i64 (IntKind.wrap IntKind.i64 (2 * Int.tmod (IntKind.wrap IntKind.i64 c) 8) + 1) * Sp.size i)) 8)))), (7, AV.c (Value.int IntKind.i64 (IntKind.wrap IntKind.i64 (v + IntKind.wrap IntKind.i64 (Int.tdiv (IntKind.wrap IntKind.i64 (IntKind.wrap IntKind.i64 (IntKind.wrap IntKind.i64 (2 * Int.tmod (IntKind.wrap IntKind.i64 c) 8) + 1) * Sp.size i)) 8))))), (25, AV.c (Value.bool (decide (8 ≤ c))))] [HObj.oo 23 2 [[AV.c (Value.int IntKind.i64 v), AV.c (Value.int IntKind.i64 i)]], HObj.oo 23 2 [[AV.c (Value.int IntKind.i64 0), AV.c (Value.int IntKind.i64 0)]]]) (ps := []) (by kernel_rfl) (.nil) ?_
  refine seqK_n ?_
  refine VC.cond (b := decide (8 ≤ c)) (by kernel_rfl) (fun h1 => ?_) (fun h1 => ?_)
  ·
    simp at h1
    refine VC.region (E := E) (C := C0) E_ok mixed [2, 4, 5, 7, 8, 30, 31, 32, 33, 34, 35, 36, 37, 38, 39, 40, 41, 42, 43, 44, 45, 46, 47] (st' := St.mk [(2, AV.p 0 0), (4, AV.p 1 0), (5, AV.c (Value.int IntKind.i64 (Int.tmod (IntKind.wrap IntKind.i64 c) 8))), (7, AV.c (Value.int IntKind.i64 (IntKind.wrap IntKind.i64 (v - IntKind.wrap IntKind.i64 (Int.tdiv (IntKind.wrap IntKind.i64 (IntKind.wrap IntKind.i64 (IntKind.wrap IntKind.i64 (2 * Int.tmod (IntKind.wrap IntKind.i64 c) 8) + 1) * Sp.size i)) 8)))))] [HObj.oo 23 2 [[AV.c (Value.int IntKind.i64 v), AV.c (Value.int IntKind.i64 i)]], HObj.oo 23 2 [[AV.c (Value.int IntKind.i64 0), AV.c (Value.int IntKind.i64 0)]]]) (ps := []) (by kernel_rfl) (.nil) ?_
    refine seqK_n ?_
    refine VC.seq ?_
    refine VC.region (E := E) (C := C0) E_ok mixed [2, 4, 5, 7, 8, 33, 34, 35, 36, 37, 38, 39, 40, 41, 42, 43, 44, 45, 46, 47] (st' := St.mk [(2, AV.p 0 0), (4, AV.p 1 0), (5, AV.c (Value.int IntKind.i64 (Int.tmod (IntKind.wrap IntKind.i64 c) 8))), (7, AV.c (Value.int IntKind.i64 (IntKind.wrap IntKind.i64 (v - IntKind.wrap IntKind.i64 (Int.tdiv (IntKind.wrap IntKind.i64 (IntKind.wrap IntKind.i64 (IntKind.wrap IntKind.i64 (2 * Int.tmod (IntKind.wrap IntKind.i64 c) 8) + 1) * Sp.size i)) 8))))), (8, AV.c (Value.int IntKind.i64 (IntKind.wrap IntKind.i64 (i - 1))))] [HObj.oo 23 2 [[AV.c (Value.int IntKind.i64 v), AV.c (Value.int IntKind.i64 i)]], HObj.oo 23 2 [[AV.c (Value.int IntKind.i64 0), AV.c (Value.int IntKind.i64 0)]]]) (ps := []) (by kernel_rfl) (.nil) ?_
    refine seqK_n ?_
    refine VC.seq ?_
    refine VC.seq ?_
    refine VC.region (E := E) (C := C0) E_ok mixed [2, 4, 5, 7, 8, 34, 35, 36, 37, 38, 39, 40, 41, 42, 43, 44, 45, 46, 47] (st' := St.mk [(2, AV.p 0 0), (4, AV.p 1 0), (5, AV.c (Value.int IntKind.i64 (Int.tmod (IntKind.wrap IntKind.i64 c) 8))), (7, AV.c (Value.int IntKind.i64 (IntKind.wrap IntKind.i64 (v - IntKind.wrap IntKind.i64 (Int.tdiv (IntKind.wrap IntKind.i64 (IntKind.wrap IntKind.i64 (IntKind.wrap IntKind.i64 (2 * Int.tmod (IntKind.wrap IntKind.i64 c) 8) + 1) * Sp.size i)) 8))))), (8, AV.c (Value.int IntKind.i64 (IntKind.wrap IntKind.i64 (i - 1)))), (34, AV.c (Value.bool (decide (4 ≤ Int.tmod (IntKind.wrap IntKind.i64 c) 8))))] [HObj.oo 23 2 [[AV.c (Value.int IntKind.i64 v), AV.c (Value.int IntKind.i64 i)]], HObj.oo 23 2 [[AV.c (Value.int IntKind.i64 0), AV.c (Value.int IntKind.i64 0)]]]) (ps := []) (by kernel_rfl) (.nil) ?_
    refine seqK_n ?_
    refine VC.cond (b := decide (4 ≤ Int.tmod (IntKind.wrap IntKind.i64 c) 8)) (by kernel_rfl) (fun h2 => ?_) (fun h2 => ?_)
    ·
      simp at h2
      refine VC.region (E := E) (C := C0) E_ok mixed [4, 7, 8, 41, 42, 43, 44, 45, 46, 47] (st' := St.mk [(4, AV.p 1 0), (7, AV.c (Value.int IntKind.i64 (IntKind.wrap IntKind.i64 (v - IntKind.wrap IntKind.i64 (Int.tdiv (IntKind.wrap IntKind.i64 (IntKind.wrap IntKind.i64 (IntKind.wrap IntKind.i64 (2 * Int.tmod (IntKind.wrap IntKind.i64 c) 8) + 1) * Sp.size i)) 8))))), (8, AV.c (Value.int IntKind.i64 (IntKind.wrap IntKind.i64 (i + IntKind.wrap IntKind.i64 (2 * IntKind.wrap IntKind.i64 (Int.tmod (IntKind.wrap IntKind.i64 c) 8 - 3))))))] [HObj.oo 23 2 [[AV.c (Value.int IntKind.i64 v), AV.c (Value.int IntKind.i64 i)]], HObj.oo 23 2 [[AV.c (Value.int IntKind.i64 0), AV.c (Value.int IntKind.i64 0)]]]) (ps := []) (by kernel_rfl) (.nil) ?_
      refine seqK_n ?_
      refine VC.seq ?_
      refine VC.region (E := E) (C := C0) E_ok mixed [4] (st' := St.mk [(4, AV.p 1 0)] [HObj.oo 23 2 [[AV.c (Value.int IntKind.i64 v), AV.c (Value.int IntKind.i64 i)]], HObj.oo 23 2 [[AV.c (Value.int IntKind.i64 (imin (imax (IntKind.wrap IntKind.i64 (v - IntKind.wrap IntKind.i64 (Int.tdiv (IntKind.wrap IntKind.i64 (IntKind.wrap IntKind.i64 (IntKind.wrap IntKind.i64 (2 * Int.tmod (IntKind.wrap IntKind.i64 c) 8) + 1) * Sp.size i)) 8))) (-32768)) 32767)), AV.c (Value.int IntKind.i64 (imin (imax (IntKind.wrap IntKind.i64 (i + IntKind.wrap IntKind.i64 (2 * IntKind.wrap IntKind.i64 (Int.tmod (IntKind.wrap IntKind.i64 c) 8 - 3)))) 0) 88))]]]) (ps := [(0 : Nat) < (2 : Nat), (1 : Nat) < (2 : Nat)]) (by kernel_rfl) (.cons (by trivial) (.cons (by trivial) (.nil))) ?_
      refine seqK_n ?_
      refine VC.ret ?_
      exact Fin.all [] (.inr rfl) (l := [AV.a [AV.c (Value.int IntKind.i64 (imin (imax (IntKind.wrap IntKind.i64 (v - IntKind.wrap IntKind.i64 (Int.tdiv (IntKind.wrap IntKind.i64 (IntKind.wrap IntKind.i64 (IntKind.wrap IntKind.i64 (2 * Int.tmod (IntKind.wrap IntKind.i64 c) 8) + 1) * Sp.size i)) 8))) (-32768)) 32767)), AV.c (Value.int IntKind.i64 (imin (imax (IntKind.wrap IntKind.i64 (i + IntKind.wrap IntKind.i64 (2 * IntKind.wrap IntKind.i64 (Int.tmod (IntKind.wrap IntKind.i64 c) 8 - 3)))) 0) 88))]]) (ps := []) (by kernel_rfl) (by kernel_rfl) (.nil) (All.of (l' := []) (by kernel_rfl) (.nil)) (show AV.a [AV.c (Value.int IntKind.i64 (imin (imax (IntKind.wrap IntKind.i64 (v - IntKind.wrap IntKind.i64 (Int.tdiv (IntKind.wrap IntKind.i64 (IntKind.wrap IntKind.i64 (IntKind.wrap IntKind.i64 (2 * Int.tmod (IntKind.wrap IntKind.i64 c) 8) + 1) * Sp.size i)) 8))) (-32768)) 32767)), AV.c (Value.int IntKind.i64 (imin (imax (IntKind.wrap IntKind.i64 (i + IntKind.wrap IntKind.i64 (2 * IntKind.wrap IntKind.i64 (Int.tmod (IntKind.wrap IntKind.i64 c) 8 - 3)))) 0) 88))] = AV.a [AV.c (Value.int IntKind.i64 (Sp.dv v i c)), AV.c (Value.int IntKind.i64 (Sp.di i c))] by exact cong2 (Sp.l26v1 hv hc h1) (Sp.l26i1 hv hc h2))
    ·
      simp at h2
      refine VC.skip ?_
      refine seqK_n ?_
      refine VC.seq ?_
      refine VC.region (E := E) (C := C0) E_ok mixed [4] (st' := St.mk [(4, AV.p 1 0)] [HObj.oo 23 2 [[AV.c (Value.int IntKind.i64 v), AV.c (Value.int IntKind.i64 i)]], HObj.oo 23 2 [[AV.c (Value.int IntKind.i64 (imin (imax (IntKind.wrap IntKind.i64 (v - IntKind.wrap IntKind.i64 (Int.tdiv (IntKind.wrap IntKind.i64 (IntKind.wrap IntKind.i64 (IntKind.wrap IntKind.i64 (2 * Int.tmod (IntKind.wrap IntKind.i64 c) 8) + 1) * Sp.size i)) 8))) (-32768)) 32767)), AV.c (Value.int IntKind.i64 (imin (imax (IntKind.wrap IntKind.i64 (i - 1)) 0) 88))]]]) (ps := [(0 : Nat) < (2 : Nat), (1 : Nat) < (2 : Nat)]) (by kernel_rfl) (.cons (by trivial) (.cons (by trivial) (.nil))) ?_
      refine seqK_n ?_
      refine VC.ret ?_
      exact Fin.all [] (.inr rfl) (l := [AV.a [AV.c (Value.int IntKind.i64 (imin (imax (IntKind.wrap IntKind.i64 (v - IntKind.wrap IntKind.i64 (Int.tdiv (IntKind.wrap IntKind.i64 (IntKind.wrap IntKind.i64 (IntKind.wrap IntKind.i64 (2 * Int.tmod (IntKind.wrap IntKind.i64 c) 8) + 1) * Sp.size i)) 8))) (-32768)) 32767)), AV.c (Value.int IntKind.i64 (imin (imax (IntKind.wrap IntKind.i64 (i - 1)) 0) 88))]]) (ps := []) (by kernel_rfl) (by kernel_rfl) (.nil) (All.of (l' := []) (by kernel_rfl) (.nil)) (show AV.a [AV.c (Value.int IntKind.i64 (imin (imax (IntKind.wrap IntKind.i64 (v - IntKind.wrap IntKind.i64 (Int.tdiv (IntKind.wrap IntKind.i64 (IntKind.wrap IntKind.i64 (IntKind.wrap IntKind.i64 (2 * Int.tmod (IntKind.wrap IntKind.i64 c) 8) + 1) * Sp.size i)) 8))) (-32768)) 32767)), AV.c (Value.int IntKind.i64 (imin (imax (IntKind.wrap IntKind.i64 (i - 1)) 0) 88))] = AV.a [AV.c (Value.int IntKind.i64 (Sp.dv v i c)), AV.c (Value.int IntKind.i64 (Sp.di i c))] by exact cong2 (Sp.l26v1 hv hc h1) (Sp.l26i2 hv hc h2))
  ·
    simp at h1
    refine VC.skip ?_
    refine seqK_n ?_
    refine VC.seq ?_
    refine VC.region (E := E) (C := C0) E_ok mixed [2, 4, 5, 7, 8, 33, 34, 35, 36, 37, 38, 39, 40, 41, 42, 43, 44, 45, 46, 47] (st' := St.mk [(2, AV.p 0 0), (4, AV.p 1 0), (5, AV.c (Value.int IntKind.i64 (Int.tmod (IntKind.wrap IntKind.i64 c) 8))), (7, AV.c (Value.int IntKind.i64 (IntKind.wrap IntKind.i64 (v + IntKind.wrap IntKind.i64 (Int.tdiv (IntKind.wrap IntKind.i64 (IntKind.wrap IntKind.i64 (IntKind.wrap IntKind.i64 (2 * Int.tmod (IntKind.wrap IntKind.i64 c) 8) + 1) * Sp.size i)) 8))))), (8, AV.c (Value.int IntKind.i64 (IntKind.wrap IntKind.i64 (i - 1))))] [HObj.oo 23 2 [[AV.c (Value.int IntKind.i64 v), AV.c (Value.int IntKind.i64 i)]], HObj.oo 23 2 [[AV.c (Value.int IntKind.i64 0), AV.c (Value.int IntKind.i64 0)]]]) (ps := []) (by kernel_rfl) (.nil) ?_
    refine seqK_n ?_
    refine VC.seq ?_
    refine VC.seq ?_
    refine VC.region (E := E) (C := C0) E_ok mixed [2, 4, 5, 7, 8, 34, 35, 36, 37, 38, 39, 40, 41, 42, 43, 44, 45, 46, 47] (st' := St.mk [(2, AV.p 0 0), (4, AV.p 1 0), (5, AV.c (Value.int IntKind.i64 (Int.tmod (IntKind.wrap IntKind.i64 c) 8))), (7, AV.c (Value.int IntKind.i64 (IntKind.wrap IntKind.i64 (v + IntKind.wrap IntKind.i64 (Int.tdiv (IntKind.wrap IntKind.i64 (IntKind.wrap IntKind.i64 (IntKind.wrap IntKind.i64 (2 * Int.tmod (IntKind.wrap IntKind.i64 c) 8) + 1) * Sp.size i)) 8))))), (8, AV.c (Value.int IntKind.i64 (IntKind.wrap IntKind.i64 (i - 1)))), (34, AV.c (Value.bool (decide (4 ≤ Int.tmod (IntKind.wrap IntKind.i64 c) 8))))] [HObj.oo 23 2 [[AV.c (Value.int IntKind.i64 v), AV.c (Value.int IntKind.i64 i)]], HObj.oo 23 2 [[AV.c (Value.int IntKind.i64 0), AV.c (Value.int IntKind.i64 0)]]]) (ps := []) (by kernel_rfl) (.nil) ?_
    refine seqK_n ?_
    refine VC.cond (b := decide (4 ≤ Int.tmod (IntKind.wrap IntKind.i64 c) 8)) (by kernel_rfl) (fun h3 => ?_) (fun h3 => ?_)
    ·
      simp at h3
      refine VC.region (E := E) (C := C0) E_ok mixed [4, 7, 8, 41, 42, 43, 44, 45, 46, 47] (st' := St.mk [(4, AV.p 1 0), (7, AV.c (Value.int IntKind.i64 (IntKind.wrap IntKind.i64 (v + IntKind.wrap IntKind.i64 (Int.tdiv (IntKind.wrap IntKind.i64 (IntKind.wrap IntKind.i64 (IntKind.wrap IntKind.i64 (2 * Int.tmod (IntKind.wrap IntKind.i64 c) 8) + 1) * Sp.size i)) 8))))), (8, AV.c (Value.int IntKind.i64 (IntKind.wrap IntKind.i64 (i + IntKind.wrap IntKind.i64 (2 * IntKind.wrap IntKind.i64 (Int.tmod (IntKind.wrap IntKind.i64 c) 8 - 3))))))] [HObj.oo 23 2 [[AV.c (Value.int IntKind.i64 v), AV.c (Value.int IntKind.i64 i)]], HObj.oo 23 2 [[AV.c (Value.int IntKind.i64 0), AV.c (Value.int IntKind.i64 0)]]]) (ps := []) (by kernel_rfl) (.nil) ?_
      refine seqK_n ?_
      refine VC.seq ?_
      refine VC.region (E := E) (C := C0) E_ok mixed [4] (st' := St.mk [(4, AV.p 1 0)] [HObj.oo 23 2 [[AV.c (Value.int IntKind.i64 v), AV.c (Value.int IntKind.i64 i)]], HObj.oo 23 2 [[AV.c (Value.int IntKind.i64 (imin (imax (IntKind.wrap IntKind.i64 (v + IntKind.wrap IntKind.i64 (Int.tdiv (IntKind.wrap IntKind.i64 (IntKind.wrap IntKind.i64 (IntKind.wrap IntKind.i64 (2 * Int.tmod (IntKind.wrap IntKind.i64 c) 8) + 1) * Sp.size i)) 8))) (-32768)) 32767)), AV.c (Value.int IntKind.i64 (imin (imax (IntKind.wrap IntKind.i64 (i + IntKind.wrap IntKind.i64 (2 * IntKind.wrap IntKind.i64 (Int.tmod (IntKind.wrap IntKind.i64 c) 8 - 3)))) 0) 88))]]]) (ps := [(0 : Nat) < (2 : Nat), (1 : Nat) < (2 : Nat)]) (by kernel_rfl) (.cons (by trivial) (.cons (by trivial) (.nil))) ?_
      refine seqK_n ?_
      refine VC.ret ?_
      exact Fin.all [] (.inr rfl) (l := [AV.a [AV.c (Value.int IntKind.i64 (imin (imax (IntKind.wrap IntKind.i64 (v + IntKind.wrap IntKind.i64 (Int.tdiv (IntKind.wrap IntKind.i64 (IntKind.wrap IntKind.i64 (IntKind.wrap IntKind.i64 (2 * Int.tmod (IntKind.wrap IntKind.i64 c) 8) + 1) * Sp.size i)) 8))) (-32768)) 32767)), AV.c (Value.int IntKind.i64 (imin (imax (IntKind.wrap IntKind.i64 (i + IntKind.wrap IntKind.i64 (2 * IntKind.wrap IntKind.i64 (Int.tmod (IntKind.wrap IntKind.i64 c) 8 - 3)))) 0) 88))]]) (ps := []) (by kernel_rfl) (by kernel_rfl) (.nil) (All.of (l' := []) (by kernel_rfl) (.nil)) (show AV.a [AV.c (Value.int IntKind.i64 (imin (imax (IntKind.wrap IntKind.i64 (v + IntKind.wrap IntKind.i64 (Int.tdiv (IntKind.wrap IntKind.i64 (IntKind.wrap IntKind.i64 (IntKind.wrap IntKind.i64 (2 * Int.tmod (IntKind.wrap IntKind.i64 c) 8) + 1) * Sp.size i)) 8))) (-32768)) 32767)), AV.c (Value.int IntKind.i64 (imin (imax (IntKind.wrap IntKind.i64 (i + IntKind.wrap IntKind.i64 (2 * IntKind.wrap IntKind.i64 (Int.tmod (IntKind.wrap IntKind.i64 c) 8 - 3)))) 0) 88))] = AV.a [AV.c (Value.int IntKind.i64 (Sp.dv v i c)), AV.c (Value.int IntKind.i64 (Sp.di i c))] by exact cong2 (Sp.l26v2 hv hc h1) (Sp.l26i1 hv hc h3))
    ·
      simp at h3
      refine VC.skip ?_
      refine seqK_n ?_
      refine VC.seq ?_
      refine VC.region (E := E) (C := C0) E_ok mixed [4] (st' := St.mk [(4, AV.p 1 0)] [HObj.oo 23 2 [[AV.c (Value.int IntKind.i64 v), AV.c (Value.int IntKind.i64 i)]], HObj.oo 23 2 [[AV.c (Value.int IntKind.i64 (imin (imax (IntKind.wrap IntKind.i64 (v + IntKind.wrap IntKind.i64 (Int.tdiv (IntKind.wrap IntKind.i64 (IntKind.wrap IntKind.i64 (IntKind.wrap IntKind.i64 (2 * Int.tmod (IntKind.wrap IntKind.i64 c) 8) + 1) * Sp.size i)) 8))) (-32768)) 32767)), AV.c (Value.int IntKind.i64 (imin (imax (IntKind.wrap IntKind.i64 (i - 1)) 0) 88))]]]) (ps := [(0 : Nat) < (2 : Nat), (1 : Nat) < (2 : Nat)]) (by kernel_rfl) (.cons (by trivial) (.cons (by trivial) (.nil))) ?_
      refine seqK_n ?_
      refine VC.ret ?_
      exact Fin.all [] (.inr rfl) (l := [AV.a [AV.c (Value.int IntKind.i64 (imin (imax (IntKind.wrap IntKind.i64 (v + IntKind.wrap IntKind.i64 (Int.tdiv (IntKind.wrap IntKind.i64 (IntKind.wrap IntKind.i64 (IntKind.wrap IntKind.i64 (2 * Int.tmod (IntKind.wrap IntKind.i64 c) 8) + 1) * Sp.size i)) 8))) (-32768)) 32767)), AV.c (Value.int IntKind.i64 (imin (imax (IntKind.wrap IntKind.i64 (i - 1)) 0) 88))]]) (ps := []) (by kernel_rfl) (by kernel_rfl) (.nil) (All.of (l' := []) (by kernel_rfl) (.nil)) (show AV.a [AV.c (Value.int IntKind.i64 (imin (imax (IntKind.wrap IntKind.i64 (v + IntKind.wrap IntKind.i64 (Int.tdiv (IntKind.wrap IntKind.i64 (IntKind.wrap IntKind.i64 (IntKind.wrap IntKind.i64 (2 * Int.tmod (IntKind.wrap IntKind.i64 c) 8) + 1) * Sp.size i)) 8))) (-32768)) 32767)), AV.c (Value.int IntKind.i64 (imin (imax (IntKind.wrap IntKind.i64 (i - 1)) 0) 88))] = AV.a [AV.c (Value.int IntKind.i64 (Sp.dv v i c)), AV.c (Value.int IntKind.i64 (Sp.di i c))] by exact cong2 (Sp.l26v2 hv hc h1) (Sp.l26i2 hv hc h3))

theorem con25 (v i x : Int) (hv : Sp.valid v i = true) (hx : -32768 ≤ x ∧ x ≤ 32767) : Con Tryd.prog L0 25 [] [.a [.c (.int .i64 v), .c (.int .i64 i)], .c (.int .i16 x)] [] (.c (.int .u8 (Sp.code v i x))) := by
  refine con_of_vc E_ok mixed Tryd.func25 rfl Tryd.call25 (Nat.le_of_ble_eq_true rfl) ?_
  refine VC.seq ?_
  refine VC.region (E := E) (C := C0) E_ok mixed [1, 2, 4, 5, 6, 7, 8, 9, 10, 11, 12, 13, 14, 15, 16, 17, 18, 19, 20, 21, 22, 23, 24, 25, 26, 27] (st' := St.mk [(1, AV.c (Value.int IntKind.i16 x)), (2, AV.p 0 0), (4, AV.c (Value.int IntKind.u8 0))] [HObj.oo 23 2 [[AV.c (Value.int IntKind.i64 v), AV.c (Value.int IntKind.i64 i)]]]) (ps := []) (by kernel_rfl) (.nil) ?_
  refine seqK_n ?_
  refine VC.seq ?_
  refine VC.region (E := E) (C := C0) E_ok mixed [2, 4, 5, 6, 12, 13, 14, 15, 16, 17, 18, 19, 20, 21, 22, 23, 24, 25, 26, 27] (st' := St.mk [(2, AV.p 0 0), (4, AV.c (Value.int IntKind.u8 0)), (5, AV.c (Value.int IntKind.i64 (IntKind.wrap IntKind.i64 (IntKind.wrap IntKind.i64 x - v))))] [HObj.oo 23 2 [[AV.c (Value.int IntKind.i64 v), AV.c (Value.int IntKind.i64 i)]]]) (ps := []) (by kernel_rfl) (.nil) ?_
  refine seqK_n ?_
  refine VC.seq ?_
  refine VC.region (E := E) (C := C0) E_ok mixed [4, 5, 6, 22, 23, 24, 25, 26, 27] (st' := St.mk [(4, AV.c (Value.int IntKind.u8 0)), (5, AV.c (Value.int IntKind.i64 (IntKind.wrap IntKind.i64 (IntKind.wrap IntKind.i64 x - v)))), (6, AV.c (Value.int IntKind.i64 (imin (IntKind.wrap IntKind.i64 (Int.tdiv (IntKind.wrap IntKind.i64 (4 * imax (IntKind.wrap IntKind.i64 (IntKind.wrap IntKind.i64 x - v)) (IntKind.wrap IntKind.i64 (0 - IntKind.wrap IntKind.i64 (IntKind.wrap IntKind.i64 x - v))))) (Sp.size i))) 7)))] [HObj.oo 23 2 [[AV.c (Value.int IntKind.i64 v), AV.c (Value.int IntKind.i64 i)]]]) (ps := [Con Tryd.prog L0 16 [] [AV.c (Value.int IntKind.i64 i)] [] (AV.c (Value.int IntKind.i64 (Sp.size i))), true = true ∨ True ∧ ∀ (o : HObj), o ∈ [] → HObj.nr o, Sp.size i ≠ 0]) (by kernel_rfl) (.cons (by exact con16 _) (.cons (by simp) (.cons (by have := Sp.size_range hv; omega) (.nil)))) ?_
  refine seqK_n ?_
  refine VC.seq ?_
  refine VC.seq ?_
  refine VC.region (E := E) (C := C0) E_ok mixed [4, 6, 23, 24, 25, 26, 27] (st' := St.mk [(4, AV.c (Value.int IntKind.u8 0)), (6, AV.c (Value.int IntKind.i64 (imin (IntKind.wrap IntKind.i64 (Int.tdiv (IntKind.wrap IntKind.i64 (4 * imax (IntKind.wrap IntKind.i64 (IntKind.wrap IntKind.i64 x - v)) (IntKind.wrap IntKind.i64 (0 - IntKind.wrap IntKind.i64 (IntKind.wrap IntKind.i64 x - v))))) (Sp.size i))) 7))), (23, AV.c (Value.bool (decide (IntKind.wrap IntKind.i64 (IntKind.wrap IntKind.i64 x - v) < 0))))] [HObj.oo 23 2 [[AV.c (Value.int IntKind.i64 v), AV.c (Value.int IntKind.i64 i)]]]) (ps := []) (by kernel_rfl) (.nil) ?_
  refine seqK_n ?_
  refine VC.cond (b := decide (IntKind.wrap IntKind.i64 (IntKind.wrap IntKind.i64 x - v) < 0)) (by kernel_rfl) (fun h1 => ?_) (fun h1 => ?_)
  ·
    simp at h1
    refine VC.region (E := E) (C := C0) E_ok mixed [4, 6, 26, 27] (st' := St.mk [(4, AV.c (Value.int IntKind.u8 0)), (6, AV.c (Value.int IntKind.i64 (IntKind.wrap IntKind.i64 (imin (IntKind.wrap IntKind.i64 (Int.tdiv (IntKind.wrap IntKind.i64 (4 * imax (IntKind.wrap IntKind.i64 (IntKind.wrap IntKind.i64 x - v)) (IntKind.wrap IntKind.i64 (0 - IntKind.wrap IntKind.i64 (IntKind.wrap IntKind.i64 x - v))))) (Sp.size i))) 7 + 8))))] [HObj.oo 23 2 [[AV.c (Value.int IntKind.i64 v), AV.c (Value.int IntKind.i64 i)]]]) (ps := []) (by kernel_rfl) (.nil) ?_
    refine seqK_n ?_
    refine VC.seq ?_
    refine VC.region (E := E) (C := C0) E_ok mixed [4] (st' := St.mk [(4, AV.c (Value.int IntKind.u8 (IntKind.wrap IntKind.u8 (IntKind.wrap IntKind.i64 (imin (IntKind.wrap IntKind.i64 (Int.tdiv (IntKind.wrap IntKind.i64 (4 * imax (IntKind.wrap IntKind.i64 (IntKind.wrap IntKind.i64 x - v)) (IntKind.wrap IntKind.i64 (0 - IntKind.wrap IntKind.i64 (IntKind.wrap IntKind.i64 x - v))))) (Sp.size i))) 7 + 8)))))] [HObj.oo 23 2 [[AV.c (Value.int IntKind.i64 v), AV.c (Value.int IntKind.i64 i)]]]) (ps := []) (by kernel_rfl) (.nil) ?_
    refine seqK_n ?_
    refine VC.ret ?_
    exact Fin.all [] (.inr rfl) (l := [AV.c (Value.int IntKind.u8 (IntKind.wrap IntKind.u8 (IntKind.wrap IntKind.i64 (imin (IntKind.wrap IntKind.i64 (Int.tdiv (IntKind.wrap IntKind.i64 (4 * imax (IntKind.wrap IntKind.i64 (IntKind.wrap IntKind.i64 x - v)) (IntKind.wrap IntKind.i64 (0 - IntKind.wrap IntKind.i64 (IntKind.wrap IntKind.i64 x - v))))) (Sp.size i))) 7 + 8))))]) (ps := []) (by kernel_rfl) (by kernel_rfl) (.nil) (All.of (l' := []) (by kernel_rfl) (.nil)) (show AV.c (Value.int IntKind.u8 (IntKind.wrap IntKind.u8 (IntKind.wrap IntKind.i64 (imin (IntKind.wrap IntKind.i64 (Int.tdiv (IntKind.wrap IntKind.i64 (4 * imax (IntKind.wrap IntKind.i64 (IntKind.wrap IntKind.i64 x - v)) (IntKind.wrap IntKind.i64 (0 - IntKind.wrap IntKind.i64 (IntKind.wrap IntKind.i64 x - v))))) (Sp.size i))) 7 + 8)))) = AV.c (Value.int IntKind.u8 (Sp.code v i x)) by exact cong1 (Sp.l25a hv hx h1))
  ·
    simp at h1
    refine VC.skip ?_
    refine seqK_n ?_
    refine VC.seq ?_
    refine VC.region (E := E) (C := C0) E_ok mixed [4] (st' := St.mk [(4, AV.c (Value.int IntKind.u8 (IntKind.wrap IntKind.u8 (imin (IntKind.wrap IntKind.i64 (Int.tdiv (IntKind.wrap IntKind.i64 (4 * imax (IntKind.wrap IntKind.i64 (IntKind.wrap IntKind.i64 x - v)) (IntKind.wrap IntKind.i64 (0 - IntKind.wrap IntKind.i64 (IntKind.wrap IntKind.i64 x - v))))) (Sp.size i))) 7))))] [HObj.oo 23 2 [[AV.c (Value.int IntKind.i64 v), AV.c (Value.int IntKind.i64 i)]]]) (ps := []) (by kernel_rfl) (.nil) ?_
    refine seqK_n ?_
    refine VC.ret ?_
    exact Fin.all [] (.inr rfl) (l := [AV.c (Value.int IntKind.u8 (IntKind.wrap IntKind.u8 (imin (IntKind.wrap IntKind.i64 (Int.tdiv (IntKind.wrap IntKind.i64 (4 * imax (IntKind.wrap IntKind.i64 (IntKind.wrap IntKind.i64 x - v)) (IntKind.wrap IntKind.i64 (0 - IntKind.wrap IntKind.i64 (IntKind.wrap IntKind.i64 x - v))))) (Sp.size i))) 7)))]) (ps := []) (by kernel_rfl) (by kernel_rfl) (.nil) (All.of (l' := []) (by kernel_rfl) (.nil)) (show AV.c (Value.int IntKind.u8 (IntKind.wrap IntKind.u8 (imin (IntKind.wrap IntKind.i64 (Int.tdiv (IntKind.wrap IntKind.i64 (4 * imax (IntKind.wrap IntKind.i64 (IntKind.wrap IntKind.i64 x - v)) (IntKind.wrap IntKind.i64 (0 - IntKind.wrap IntKind.i64 (IntKind.wrap IntKind.i64 x - v))))) (Sp.size i))) 7))) = AV.c (Value.int IntKind.u8 (Sp.code v i x)) by exact cong1 (Sp.l25b hv hx h1))
end Go.Proofs.YtphemeddfckijaaDoor
