/-
  A part of the walk: contracts of functions, each proved once.
-/
import Derived.Test.YtgkeopjnfkgpbaaEvRun
import Derived.Test.YtgkeopjnfkgpbaaK26A0
namespace Go.Proofs.Ytgkeopjnfkgpbaa
open Go Go.Ev
set_option linter.unusedVariables false
set_option linter.unusedSimpArgs false
set_option maxRecDepth 20000
def L0 : Lay := []
namespace Sp
structure Stats where
  on : Bool
  b : Int
  h : Int
  r : Int
  we : Int
  wr : Int
  t : Int
  j : Int
  deriving Inhabited
structure Blk where
  s : Int
  f : Int
  l : Int
  h : Int
  j : Int
  la : Int
  d : Int
  deriving Inhabited, DecidableEq
def wi (m n : Int) : Bool := decide (-m ≤ n) && decide (n ≤ m)
def okP (s : Stats) : Prop := (-1125899906842624 ≤ s.b ∧ s.b ≤ 1125899906842624) ∧ (-1125899906842624 ≤ s.h ∧ s.h ≤ 1125899906842624) ∧ (-1125899906842624 ≤ s.t ∧ s.t ≤ 1125899906842624) ∧ (0 ≤ s.r ∧ s.r ≤ 1125899906842624) ∧ (0 ≤ s.we ∧ s.we ≤ 1125899906842624) ∧ (0 ≤ s.wr ∧ s.wr ≤ 1125899906842624) ∧ s.b ≤ s.h ∧ 0 ≤ s.j ∧ s.j ≤ 72057594037927936
instance (s : Stats) : Decidable (okP s) := by unfold okP; infer_instance
def ok (s : Stats) : Bool := decide (okP s)
def z0 : Stats := ⟨false, 0, 0, 0, 0, 0, 0, 0⟩
def in48 (n : Int) : Prop := -281474976710656 ≤ n ∧ n ≤ 281474976710656
def arrP (s : Stats) (q a t : Int) : Prop := okP s ∧ in48 q ∧ in48 a ∧ in48 t
instance (s : Stats) (q a t : Int) : Decidable (arrP s q a t) := by unfold arrP in48; infer_instance
def dd (s : Stats) (a t : Int) : Int := imax (a - t - s.t) (s.t - (a - t))
def arr (s : Stats) (q a t : Int) : Stats := if arrP s q a t then (if s.on = true then ⟨true, imin s.b q, imax s.h q, s.r + 1, s.we, s.wr, a - t, s.j + dd s a t - (s.j + 8) / 16⟩ else ⟨true, q, q, 1, 0, 0, a - t, 0⟩) else z0
def exd (s : Stats) : Int := s.h - s.b + 1
def lst (s : Stats) : Int := imax (-8388608) (imin (exd s - s.r) 8388607)
def fx (s : Stats) : Int := exd s - s.we
def fy (s : Stats) : Int := fx s - (s.r - s.wr)
def frac (s : Stats) : Int := if 0 < fx s ∧ 0 < fy s then imin (256 * fy s / fx s) 255 else 0
def k0 : Blk := ⟨0, 0, 0, 0, 0, 0, 0⟩
def sumB (s : Stats) (src la d : Int) : Blk := if okP s then (if s.on = true then ⟨src, frac s, lst s, s.h % 4294967296, imin (s.j / 16) 4294967295, la, d⟩ else ⟨src, 0, 0, 0, 0, la, d⟩) else k0
def sumS (s : Stats) : Stats := if okP s then (if s.on = true then ⟨s.on, s.b, s.h, s.r, exd s, s.r, s.t, s.j⟩ else s) else z0
def trip (n l d : Int) : Int := if (n - l - d) % 4294967296 < 2147483648 then (n - l - d) % 4294967296 else 0
theorem wi_iff {m n : Int} : wi m n = true ↔ -m ≤ n ∧ n ≤ m := by simp [wi]
theorem wi_f {m n : Int} (h : n < -m ∨ m < n) : wi m n = false := by simp only [wi, Bool.and_eq_false_iff, decide_eq_false_iff_not]; omega
theorem all_take_step {m : Int} {l : List Int} {j : Nat} (hj : j < l.length) (h : (l.take j).all (wi m) = true) (h2 : -m ≤ l.getD j 0 ∧ l.getD j 0 ≤ m) : (l.take (j + 1)).all (wi m) = true := by
  rw [take_succ_getD (d := 0) hj, List.all_append, h]; simp [wi_iff, -List.getD_eq_getElem?_getD, h2]
theorem all_f {m : Int} {l : List Int} {j : Nat} (hj : j < l.length) (h2 : l.getD j 0 < -m ∨ m < l.getD j 0) : l.all (wi m) = false := by
  rw [List.all_eq_false]
  refine ⟨l.getD j 0, ?_, by rw [wi_f h2]; simp⟩
  rw [List.getD_eq_getElem?_getD, List.getElem?_eq_getElem hj]; exact List.getElem_mem hj
theorem all_w {m : Int} {l : List Int} {j : Nat} (hj : j ≤ l.length) (h2 : l.length ≤ j) (h : (l.take j).all (wi m) = true) : l.all (wi m) = true := by
  rwa [List.take_of_length_le h2] at h
theorem ok_t {s : Stats} (h : okP s) : ok s = true := decide_eq_true h
theorem ok_f {s : Stats} (h : ¬ okP s) : ok s = false := decide_eq_false h
theorem ok_iff {s : Stats} : ok s = true ↔ okP s := decide_eq_true_iff
theorem arr_bad {s : Stats} {q a t : Int} (h : ¬ arrP s q a t) : arr s q a t = z0 := if_neg h
theorem arr_new {s : Stats} {q a t : Int} (h : arrP s q a t) (h2 : s.on = false) : arr s q a t = ⟨true, q, q, 1, 0, 0, a - t, 0⟩ := by rw [arr, if_pos h, if_neg (by simp [h2])]
theorem arr_on {s : Stats} {q a t : Int} (h : arrP s q a t) (h2 : s.on = true) : arr s q a t = ⟨true, imin s.b q, imax s.h q, s.r + 1, s.we, s.wr, a - t, s.j + dd s a t - (s.j + 8) / 16⟩ := by rw [arr, if_pos h, if_pos h2]
theorem dd_rng {s : Stats} {q a t : Int} (h : arrP s q a t) : 0 ≤ dd s a t ∧ dd s a t ≤ 2251799813685248 := by
  simp only [arrP, okP, in48] at h; simp only [dd, imax]; split <;> omega
theorem dd_1 {s : Stats} {q a t : Int} (h : arrP s q a t) : imax (IntKind.i64.wrap (IntKind.i64.wrap (a - t) - s.t)) (IntKind.i64.wrap (-IntKind.i64.wrap (IntKind.i64.wrap (a - t) - s.t))) = dd s a t := by
  simp only [arrP, okP, in48] at h
  rw [wrap_i64 (x := a - t) (by omega) (by omega), wrap_i64 (x := a - t - s.t) (by omega) (by omega), wrap_i64 (by omega) (by omega), dd]
  congr 1; omega
theorem jit {s : Stats} {q a t : Int} (h : arrP s q a t) : IntKind.i64.wrap (s.j + IntKind.i64.wrap (dd s a t - Int.tdiv (IntKind.i64.wrap (s.j + 8)) 16)) = s.j + dd s a t - (s.j + 8) / 16 := by
  have h1 := dd_rng h
  simp only [arrP, okP, in48] at h
  rw [wrap_i64 (x := s.j + 8) (by omega) (by omega), Int.tdiv_eq_ediv_of_nonneg (by omega), wrap_i64 (x := dd s a t - _) (by omega) (by omega), wrap_i64 (by omega) (by omega)]; omega
theorem dd1 (s : Stats) (a t : Int) : imax (a - t - s.t) (-(a - t - s.t)) = dd s a t := by simp only [dd]; congr 1; omega
theorem dd2 (s : Stats) (a t : Int) : imax (a - t - s.t) (s.t - (a - t)) = dd s a t := rfl
theorem arrP_of {s : Stats} {q a t : Int} (h : ok s = true) (h1 : wi 281474976710656 q = true) (h2 : wi 281474976710656 a = true) (h3 : wi 281474976710656 t = true) : arrP s q a t := ⟨ok_iff.1 h, wi_iff.1 h1, wi_iff.1 h2, wi_iff.1 h3⟩
theorem arr_no {s : Stats} {q a t : Int} (h : (ok s && (wi 281474976710656 q && (wi 281474976710656 a && wi 281474976710656 t))) = false) : arr s q a t = z0 := arr_bad fun hp => by
  have : ok s = true ∧ wi 281474976710656 q = true ∧ wi 281474976710656 a = true ∧ wi 281474976710656 t = true := ⟨ok_t hp.1, wi_iff.2 hp.2.1, wi_iff.2 hp.2.2.1, wi_iff.2 hp.2.2.2⟩
  simp [this] at h
theorem sum_no {s : Stats} (src la d : Int) (h : ok s = false) : sumB s src la d = k0 ∧ sumS s = z0 := by
  have : ¬ okP s := fun hp => by rw [ok_t hp] at h; cases h
  exact ⟨if_neg this, if_neg this⟩
theorem sum_off {s : Stats} (src la d : Int) (h : ok s = true) (h2 : s.on = false) : sumB s src la d = ⟨src, 0, 0, 0, 0, la, d⟩ ∧ sumS s = s := by
  simp only [sumB, sumS]; rw [if_pos (ok_iff.1 h), if_pos (ok_iff.1 h), if_neg (by simp [h2]), if_neg (by simp [h2])]; exact ⟨rfl, rfl⟩
theorem sum_on {s : Stats} (src la d : Int) (h : ok s = true) (h2 : s.on = true) : sumB s src la d = ⟨src, frac s, lst s, s.h % 4294967296, imin (s.j / 16) 4294967295, la, d⟩ ∧ sumS s = ⟨s.on, s.b, s.h, s.r, exd s, s.r, s.t, s.j⟩ := by
  simp only [sumB, sumS]; rw [if_pos (ok_iff.1 h), if_pos (ok_iff.1 h), if_pos h2, if_pos h2]; exact ⟨rfl, rfl⟩
theorem e_ex {s : Stats} (h : okP s) : IntKind.i64.wrap (IntKind.i64.wrap (s.h - s.b) + 1) = exd s ∧ 0 ≤ exd s ∧ exd s ≤ 2251799813685249 := by
  simp only [okP] at h; rw [wrap_i64 (x := s.h - s.b) (by omega) (by omega), wrap_i64 (by omega) (by omega)]; refine ⟨rfl, ?_, ?_⟩ <;> simp only [exd] <;> omega
theorem e_fx {s : Stats} (h : okP s) : IntKind.i64.wrap (exd s - s.we) = fx s ∧ -1125899906842624 ≤ fx s ∧ fx s ≤ 2251799813685249 := by
  have h2 := e_ex h
  simp only [okP] at h; rw [wrap_i64 (by omega) (by omega)]; refine ⟨rfl, ?_, ?_⟩ <;> simp only [fx] <;> omega
theorem e_fy {s : Stats} (h : okP s) : IntKind.i64.wrap (fx s - IntKind.i64.wrap (s.r - s.wr)) = fy s ∧ -2251799813685248 ≤ fy s ∧ fy s ≤ 3377699720527873 := by
  have h2 := e_fx h
  simp only [okP] at h; rw [wrap_i64 (x := s.r - s.wr) (by omega) (by omega), wrap_i64 (by omega) (by omega)]; refine ⟨rfl, ?_, ?_⟩ <;> simp only [fy] <;> omega
theorem frac_rng {s : Stats} (h : okP s) : 0 ≤ frac s ∧ frac s ≤ 255 := by
  simp only [frac]; split
  · rename_i hx
    have := Int.ediv_nonneg (a := 256 * fy s) (b := fx s) (by omega) (by omega)
    simp only [imin]; split <;> omega
  · omega
theorem e_fr {s : Stats} (h : okP s) (h1 : 0 < fx s) (h2 : 0 < fy s) : IntKind.u8.wrap (imin (IntKind.i64.wrap (Int.tdiv (IntKind.i64.wrap (256 * fy s)) (fx s))) 255) = frac s := by
  have a := (e_fy h).2
  have b := frac_rng h
  have c := Int.ediv_nonneg (a := 256 * fy s) (b := fx s) (by omega) (by omega)
  have d : 256 * fy s / fx s ≤ 256 * fy s := Int.ediv_le_self _ (by omega)
  rw [wrap_i64 (x := 256 * fy s) (by omega) (by omega), Int.tdiv_eq_ediv_of_nonneg (by omega), wrap_i64 (by omega) (by omega)]
  have e : imin (256 * fy s / fx s) 255 = frac s := by simp only [frac]; rw [if_pos ⟨h1, h2⟩]
  rw [e, wrap_u8 (by omega) (by omega)]
theorem e_f0 {s : Stats} (h : ¬ (0 < fx s ∧ 0 < fy s)) : frac s = 0 := if_neg h
theorem e_ls {s : Stats} (h : okP s) : IntKind.i64.wrap (exd s - s.r) = exd s - s.r := by
  have h2 := e_ex h
  simp only [okP] at h; exact wrap_i64 (by omega) (by omega)
theorem e_lst (s : Stats) : imax (-8388608) (imin (exd s - s.r) 8388607) = lst s := rfl
theorem e_lo {s : Stats} (h : exd s - s.r < -8388608) : lst s = -8388608 := by simp only [lst, imax, imin]; (repeat' split) <;> omega
theorem e_hi {s : Stats} (h : 8388607 < exd s - s.r) : lst s = 8388607 := by simp only [lst, imax, imin]; (repeat' split) <;> omega
theorem e_mid {s : Stats} (h : -8388608 ≤ exd s - s.r) (h2 : exd s - s.r ≤ 8388607) : lst s = exd s - s.r := by simp only [lst, imax, imin]; (repeat' split) <;> omega
theorem e_h (h : Int) : IntKind.u32.wrap h = h % 4294967296 := mod_u32 h
theorem e_hr {s : Stats} (h : okP s) : IntKind.u32.wrap (Int.tmod (IntKind.i64.wrap (Int.tmod s.h 4294967296 + 4294967296)) 4294967296) = s.h % 4294967296 := by
  have a1 := Int.tmod_lt_of_pos s.h (show (0 : Int) < 4294967296 by decide)
  have a2 := Int.lt_tmod_of_pos s.h (show (0 : Int) < 4294967296 by decide)
  have a3 : Int.tmod s.h 4294967296 % 4294967296 = s.h % 4294967296 := by
    have := Int.mul_tdiv_add_tmod s.h 4294967296
    omega
  rw [wrap_i64 (by omega) (by omega), Int.tmod_eq_emod_of_nonneg (by omega), wrap_u32 (by omega) (by omega)]; omega
theorem e_j {s : Stats} (h : okP s) : IntKind.u32.wrap (imin (IntKind.i64.wrap (Int.tdiv s.j 16)) 4294967295) = imin (s.j / 16) 4294967295 := by
  simp only [okP] at h
  rw [Int.tdiv_eq_ediv_of_nonneg (by omega), wrap_i64 (by omega) (by omega)]
  refine wrap_u32 ?_ ?_ <;> (simp only [imin]; split <;> omega)
theorem lst_rng (s : Stats) : -8388608 ≤ lst s ∧ lst s ≤ 8388607 := by simp only [lst, imax, imin]; (repeat' split) <;> omega
end Sp
def aS (s : Sp.Stats) : List AV := [.c (.bool s.on), .c (.int .i64 s.b), .c (.int .i64 s.h), .c (.int .i64 s.r), .c (.int .i64 s.we), .c (.int .i64 s.wr), .c (.int .i64 s.t), .c (.int .i64 s.j)]
def aK (x : Sp.Blk) : List AV := [.c (.int .u32 x.s), .c (.int .u8 x.f), .c (.int .i64 x.l), .c (.int .u32 x.h), .c (.int .u32 x.j), .c (.int .u32 x.la), .c (.int .u32 x.d)]
def C0 : Tab where
  own f := false
  run f h a := match f, h, a with
    | 29, [], [.c (.int .i64 m), .ri .i64 l] => some ([], .c (.bool (l.all (Sp.wi m))))
    | 30, [], [.c (.int .i64 n), .c (.int .i64 m)] => some ([], .c (.bool (Sp.wi m n)))
    | 27, [], [.a [.c (.bool on), .c (.int .i64 b), .c (.int .i64 h), .c (.int .i64 r), .c (.int .i64 we), .c (.int .i64 wr), .c (.int .i64 t), .c (.int .i64 j)]] => some ([], .c (.bool (Sp.ok ⟨on, b, h, r, we, wr, t, j⟩)))
    | 28, [], [.a [.c (.bool on), .c (.int .i64 b), .c (.int .i64 h), .c (.int .i64 r), .c (.int .i64 we), .c (.int .i64 wr), .c (.int .i64 t), .c (.int .i64 j)]] => some ([], .c (.bool (Sp.ok ⟨on, b, h, r, we, wr, t, j⟩)))
    | 12, [], [.a [.c (.bool on), .c (.int .i64 b), .c (.int .i64 h), .c (.int .i64 r), .c (.int .i64 we), .c (.int .i64 wr), .c (.int .i64 t), .c (.int .i64 j)], .c (.int .i64 q), .c (.int .i64 ar), .c (.int .i64 ti)] => some ([], .a (aS (Sp.arr ⟨on, b, h, r, we, wr, t, j⟩ q ar ti)))
    | 13, [], [.a [.c (.bool on), .c (.int .i64 b), .c (.int .i64 h), .c (.int .i64 r), .c (.int .i64 we), .c (.int .i64 wr), .c (.int .i64 t), .c (.int .i64 j)], .c (.int .i64 q), .c (.int .i64 ar), .c (.int .i64 ti)] => some ([], .a (aS (Sp.arr ⟨on, b, h, r, we, wr, t, j⟩ q ar ti)))
    | 10, [], [.a [.c (.bool on), .c (.int .i64 b), .c (.int .i64 h), .c (.int .i64 r), .c (.int .i64 we), .c (.int .i64 wr), .c (.int .i64 t), .c (.int .i64 j)], .c (.int .u32 src), .c (.int .u32 la), .c (.int .u32 d)] => some ([], .t [.a (aK (Sp.sumB ⟨on, b, h, r, we, wr, t, j⟩ src la d)), .a (aS (Sp.sumS ⟨on, b, h, r, we, wr, t, j⟩))])
    | 11, [], [.a [.c (.bool on), .c (.int .i64 b), .c (.int .i64 h), .c (.int .i64 r), .c (.int .i64 we), .c (.int .i64 wr), .c (.int .i64 t), .c (.int .i64 j)], .c (.int .u32 src), .c (.int .u32 la), .c (.int .u32 d)] => some ([], .t [.a (aK (Sp.sumB ⟨on, b, h, r, we, wr, t, j⟩ src la d)), .a (aS (Sp.sumS ⟨on, b, h, r, we, wr, t, j⟩))])
    | 15, [], [.c (.int .u32 n), .c (.int .u32 l), .c (.int .u32 d)] => some ([], .c (.int .u32 (Sp.trip n l d)))
    | 16, [], [.c (.int .u32 n), .c (.int .u32 l), .c (.int .u32 d)] => some ([], .c (.int .u32 (Sp.trip n l d)))
    | _, _, _ => none
def C1t : Tab where
  own f := false
  run f h a := match f, h, a with
    | 27, [], [_] => some ([], .c (.bool true))
    | f, h, a => C0.run f h a
def C1f : Tab where
  own f := false
  run f h a := match f, h, a with
    | 27, [], [_] => some ([], .c (.bool false))
    | f, h, a => C0.run f h a

end Go.Proofs.Ytgkeopjnfkgpbaa
