/-
  A part of the walk: contracts of functions, each proved once.
-/
import Derived.Test.YtphemeddfckijaaDoorEvR
import Derived.Test.YtphemeddfckijaaDoorK28D
namespace Go.Proofs.YtphemeddfckijaaDoor
open Go Go.Ev
set_option linter.unusedVariables false
set_option linter.unusedSimpArgs false
namespace Sp
def bt (b : List Int) (n : Nat) : Int := b.getD n 0
def v0 (b : List Int) : Int := if 127 < bt b 0 then 256 * bt b 0 + bt b 1 - 65536 else 256 * bt b 0 + bt b 1
def nib (b : List Int) (j : Nat) : Int := if j % 2 = 0 then bt b (4 + j / 2) / 16 else bt b (4 + j / 2) % 16
def U (b : List Int) : Nat → Int × Int
  | 0 => (v0 b, bt b 2)
  | j + 1 => (dv (U b j).1 (U b j).2 (nib b j), di (U b j).2 (nib b j))
def out (b : List Int) (j m : Nat) : List Int := (List.range m).map fun q => if q < j then (U b (q + 1)).1 else 0
def usz (n : Int) : Int := 4 + (n + 1) / 2
def bad (b : List Int) (n : Int) : Prop := usz n < b.length ∨ 88 < bt b 2 ∨ bt b 3 ≠ 0 ∨ (n % 2 = 1 ∧ bt b (usz n - 1).toNat % 16 ≠ 0)
instance (b : List Int) (n : Int) : Decidable (bad b n) := by unfold bad; infer_instance
def uE (b : List Int) (n : Int) : Int := if n < 0 ∨ 8000 < n then 3 else if (b.length : Int) < usz n then 6 else if bad b n then 5 else 0
def up (b : List Int) (n : Int) : List Int := if uE b n = 0 then out b n.toNat n.toNat else []
def upV (b : List Int) (n : Int) : Int := if uE b n = 0 then (U b n.toNat).1 else 0
def upI (b : List Int) (n : Int) : Int := if uE b n = 0 then (U b n.toNat).2 else 0

theorem uE_3 {b : List Int} {n : Int} (h : n < 0 ∨ 8000 < n) : uE b n = 3 := by simp only [uE]; rw [if_pos h]
theorem uE_6 {b : List Int} {n : Int} (h : 0 ≤ n ∧ n ≤ 8000) (h2 : (b.length : Int) < 4 + (n + 1) / 2) : uE b n = 6 := by simp only [uE]; rw [if_neg (by omega), if_pos (by simp only [usz]; omega)]
theorem uE_5 {b : List Int} {n : Int} (h : 0 ≤ n ∧ n ≤ 8000) (h2 : 4 + (n + 1) / 2 ≤ (b.length : Int)) (h3 : bad b n) : uE b n = 5 := by simp only [uE]; rw [if_neg (by omega), if_neg (by simp only [usz]; omega), if_pos h3]
theorem uE_0 {b : List Int} {n : Int} (h : 0 ≤ n ∧ n ≤ 8000) (h2 : 4 + (n + 1) / 2 ≤ (b.length : Int)) (h3 : ¬ bad b n) : uE b n = 0 := by simp only [uE]; rw [if_neg (by omega), if_neg (by simp only [usz]; omega), if_neg h3]
theorem up_err {b : List Int} {n : Int} (h : uE b n ≠ 0) : up b n = [] ∧ upV b n = 0 ∧ upI b n = 0 := by simp [up, upV, upI, h]
theorem up_nil {b : List Int} {n e : Int} (h : uE b n = e) (he : e ≠ 0) : HObj.oi 24 .i16 [] = HObj.oi 24 .i16 (up b n) := by rw [(up_err (by omega)).1]
theorem up_res {b : List Int} {n e : Int} {m : Nat} (h : uE b n = e) (he : e ≠ 0) : AV.t [AV.s m 0 0 0, AV.a [AV.c (Value.int .i64 0), AV.c (Value.int .i64 0)], AV.c (Value.int .u8 e)] = AV.t [AV.s m 0 (up b n).length (up b n).length, AV.a [AV.c (Value.int .i64 (upV b n)), AV.c (Value.int .i64 (upI b n))], AV.c (Value.int .u8 (uE b n))] := by
  obtain ⟨h1, h2, h3⟩ := up_err (b := b) (n := n) (by omega)
  rw [h1, h2, h3, h]; rfl
theorem bt_range {b : List Int} (hb : ∀ x ∈ b, 0 ≤ x ∧ x ≤ 255) (j : Nat) : 0 ≤ bt b j ∧ bt b j ≤ 255 := by
  rcases Nat.lt_or_ge j b.length with h | h
  · exact getD_mem (P := fun x => 0 ≤ x ∧ x ≤ 255) hb h
  · simp only [bt]; rw [List.getD_eq_getElem?_getD, List.getElem?_eq_none h]; simp
theorem nib_range {b : List Int} (hb : ∀ x ∈ b, 0 ≤ x ∧ x ≤ 255) (j : Nat) : 0 ≤ nib b j ∧ nib b j ≤ 15 := by
  have := bt_range hb (4 + j / 2)
  simp only [nib]; split <;> omega
theorem U_valid {b : List Int} (hb : ∀ x ∈ b, 0 ≤ x ∧ x ≤ 255) (h2 : bt b 2 ≤ 88) : ∀ j, valid (U b j).1 (U b j).2 = true
  | 0 => by
    have h0 := bt_range hb 0
    have h1 := bt_range hb 1
    have h3 := bt_range hb 2
    refine valid_iff.2 ?_
    simp only [U, v0]; split <;> omega
  | _ + 1 => dec_valid
theorem out_len (b : List Int) (j m : Nat) : (out b j m).length = m := by simp [out]
theorem out_zero (b : List Int) (m : Nat) : out b 0 m = List.replicate m 0 := by
  refine List.ext_getElem (by simp [out]) fun n h1 h2 => ?_
  simp [out]
theorem out_set (b : List Int) {j m : Nat} (h : j < m) : (out b j m).set j (U b (j + 1)).1 = out b (j + 1) m := by
  refine List.ext_getElem (by simp [out]) fun n h1 h2 => ?_
  rw [List.getElem_set]
  simp only [out, List.getElem_map, List.getElem_range]
  split
  · rename_i e; subst e; rw [if_pos (by omega)]
  · rename_i e
    by_cases h3 : n < j
    · rw [if_pos h3, if_pos (by omega)]
    · rw [if_neg h3, if_neg (by omega)]
theorem out_app (b : List Int) (j : Nat) : out b j j ++ [(U b (j + 1)).1] = out b (j + 1) (j + 1) := by
  simp only [out, List.range_succ, List.map_append, List.map_cons, List.map_nil]
  congr 1
  · refine List.map_congr_left fun q hq => ?_
    simp only [List.mem_range] at hq
    rw [if_pos hq, if_pos (by omega)]
  · rw [if_pos (by omega)]
theorem up_end {b : List Int} {n : Int} {j : Nat} (h : uE b n = 0) (h1 : (j : Int) ≤ n) (h2 : n ≤ j) : out b j n.toNat = up b n ∧ out b j j = up b n ∧ n.toNat = (up b n).length ∧ j = (up b n).length ∧ (U b j).1 = upV b n ∧ (U b j).2 = upI b n := by
  have e : n.toNat = j := by omega
  simp only [up, upV, upI, h, if_true, e, out_len]
  exact ⟨trivial, trivial, trivial, trivial, trivial, trivial⟩
theorem iand15 {x : Int} (h : 0 ≤ x ∧ x ≤ 255) : iand .u8 x 15 = x % 16 := iand_u8 4 h (by omega)
theorem ishr_u8 {x : Int} (n : Nat) (hn : n ≤ 8) : ishr .u8 x n = x / ((2 ^ n : Nat) : Int) := by
  have e : min ((n : Int)).toNat IntKind.u8.bits = n := by rw [Int.toNat_natCast]; exact Nat.min_eq_left hn
  simp only [ishr, e]
  rw [Int.fdiv_eq_ediv_of_nonneg _ (Int.le_of_lt (Int.pow_pos (by omega)))]
  congr 1
theorem nib_eq {b : List Int} (hb : ∀ x ∈ b, 0 ≤ x ∧ x ≤ 255) (j : Nat) : iand .u8 (ishr .u8 (b.getD (Int.toNat (4 + (j : Int) / 2)) 0) (4 - 4 * ((j : Int) % 2))) 15 = nib b j := by
  have e : Int.toNat (4 + (j : Int) / 2) = 4 + j / 2 := by omega
  have hr := bt_range hb (4 + j / 2)
  rw [e]
  show iand .u8 (ishr .u8 (bt b (4 + j / 2)) _) 15 = _
  rcases Nat.mod_two_eq_zero_or_one j with h | h
  · have e2 : (4 - 4 * ((j : Int) % 2)) = ((4 : Nat) : Int) := by omega
    rw [e2, ishr_u8 4 (by omega), show ((2 ^ 4 : Nat) : Int) = 16 from rfl, iand15 (by omega)]
    simp only [nib]; rw [if_pos h]; omega
  · have e2 : (4 - 4 * ((j : Int) % 2)) = ((0 : Nat) : Int) := by omega
    rw [e2, ishr_u8 0 (by omega), show ((2 ^ 0 : Nat) : Int) = 1 from rfl, Int.ediv_one, iand15 hr]
    simp only [nib]; rw [if_neg (by omega)]
theorem nib_eq' {b : List Int} (hb : ∀ x ∈ b, 0 ≤ x ∧ x ≤ 255) (j : Nat) (hj : j ≤ 8000) : iand .u8 (ishr .u8 (b.getD (Int.toNat (IntKind.i64.wrap (4 + IntKind.i64.wrap (Int.tdiv (j : Int) 2))) * 1) 0) (IntKind.i64.wrap (4 - IntKind.i64.wrap (4 * Int.tmod (j : Int) 2)))) 15 = nib b j := by
  rw [Int.tdiv_eq_ediv_of_nonneg (by omega), Int.tmod_eq_emod_of_nonneg (by omega), wrap_i64 (x := (j : Int) / 2) (by omega) (by omega), wrap_i64 (x := 4 + _) (by omega) (by omega), wrap_i64 (x := 4 * _) (by omega) (by omega), wrap_i64 (by omega) (by omega), Nat.mul_one]
  exact nib_eq hb j
theorem dec_nib {b : List Int} (hb : ∀ x ∈ b, 0 ≤ x ∧ x ≤ 255) (h2 : bt b 2 ≤ 88) (j : Nat) : decX (U b j).1 (U b j).2 (nib b j) = (U b (j + 1)).1 ∧ decI (U b j).1 (U b j).2 (nib b j) = (U b (j + 1)).2 := by
  have := nib_range hb j
  simp only [decX, decI, U_valid hb h2 j, if_true, U]
  rw [if_neg (by omega), if_neg (by omega)]; exact ⟨rfl, rfl⟩
theorem bad_iff {b : List Int} {n : Int} (hb : ∀ x ∈ b, 0 ≤ x ∧ x ≤ 255) (h : 0 ≤ n ∧ n ≤ 8000) : (((4 + (n + 1) / 2 < (b.length : Int) ∨ 88 < (b[2]?).getD (0 : Int)) ∨ ¬(b[3]?).getD (0 : Int) = 0) ∨ n % 2 = 1 ∧ ¬iand .u8 ((b[Int.toNat (4 + (n + 1) / 2) - 1]?).getD (0 : Int)) 15 = 0) ↔ bad b n := by
  have e : Int.toNat (4 + (n + 1) / 2) - 1 = (usz n - 1).toNat := by simp only [usz]; omega
  have hr := bt_range hb (usz n - 1).toNat
  rw [e]
  have e2 : (b[(usz n - 1).toNat]?).getD (0 : Int) = bt b (usz n - 1).toNat := by simp only [bt, List.getD_eq_getElem?_getD]
  rw [e2, iand15 hr]
  simp only [bad, bt, List.getD_eq_getElem?_getD, usz, or_assoc, ne_eq]
theorem not_bad {b : List Int} {n : Int} (hb : ∀ x ∈ b, 0 ≤ x ∧ x ≤ 255) (h : 0 ≤ n ∧ n ≤ 8000) (h3 : (((b.length : Int) ≤ 4 + (n + 1) / 2 ∧ (b[2]?).getD (0 : Int) ≤ 88) ∧ (b[3]?).getD (0 : Int) = 0) ∧ (n % 2 = 1 → iand .u8 ((b[Int.toNat (4 + (n + 1) / 2) - 1]?).getD (0 : Int)) 15 = 0)) : ¬ bad b n := by
  rw [← bad_iff hb h]
  intro hh
  obtain ⟨⟨⟨h4, h5⟩, h6⟩, h7⟩ := h3
  rcases hh with ((hh | hh) | hh) | ⟨hh, hh2⟩
  · omega
  · omega
  · exact hh h6
  · exact hh2 (h7 hh)
theorem nb2 {b : List Int} {n : Int} (h : ¬ bad b n) : bt b 2 ≤ 88 := by
  simp only [bad, not_or] at h; omega
theorem l21s {b : List Int} (hb : ∀ x ∈ b, 0 ≤ x ∧ x ≤ 255) (h2 : bt b 2 ≤ 88) {j m : Nat} (h : j < m) : (out b j m).set j (decX (U b j).1 (U b j).2 (iand .u8 (ishr .u8 (b.getD (Int.toNat (4 + (j : Int) / 2)) 0) (4 - 4 * ((j : Int) % 2))) 15)) = out b (j + 1) m := by
  rw [nib_eq hb, (dec_nib hb h2 j).1, out_set b h]
/-- The first value, as the program makes it. -/
theorem v0_eq {b : List Int} (hb : ∀ x ∈ b, 0 ≤ x ∧ x ≤ 255) : IntKind.i64.wrap (ior .i16 (ishl .i16 (IntKind.i16.wrap (b.getD 0 0)) 8) (IntKind.i16.wrap (b.getD 1 0))) = v0 b := by
  have h0 := bt_range hb 0
  have h1 := bt_range hb 1
  show IntKind.i64.wrap (ior .i16 (ishl .i16 (IntKind.i16.wrap (bt b 0)) 8) (IntKind.i16.wrap (bt b 1))) = v0 b
  simp only [v0]
  generalize bt b 0 = x at h0
  generalize bt b 1 = y at h1
  rw [wrap_i16 (x := x) (by omega) (by omega), wrap_i16 (x := y) (by omega) (by omega)]
  have e : ishl .i16 x 8 = IntKind.i16.wrap (x * 256) := rfl
  have hw : IntKind.i16.wrap (x * 256) = if 127 < x then x * 256 - 65536 else x * 256 := by
    show (if (true && decide (x * 256 % (2 ^ 16 : Int) ≥ (2 ^ 15 : Int))) = true then x * 256 % (2 ^ 16 : Int) - (2 ^ 16 : Int) else x * 256 % (2 ^ 16 : Int)) = _
    simp only [Bool.true_and, decide_eq_true_eq]
    split <;> split <;> omega
  rw [e, hw]
  have hx : (BitVec.ofInt 16 (if 127 < x then x * 256 - 65536 else x * 256)).toNat = 2 ^ 8 * x.toNat := by
    rw [BitVec.toNat_ofInt]; split <;> omega
  have hy : (BitVec.ofInt 16 y).toNat = y.toNat := by rw [BitVec.toNat_ofInt]; omega
  have hor : ior .i16 (if 127 < x then x * 256 - 65536 else x * 256) y = IntKind.i16.wrap ((2 ^ 8 * x.toNat ||| y.toNat : Nat) : Int) := by
    show IntKind.i16.wrap ((BitVec.ofInt 16 _ ||| BitVec.ofInt 16 y).toNat) = _
    rw [BitVec.toNat_or, hx, hy]
  rw [hor, ← Nat.two_pow_add_eq_or_of_lt (by omega)]
  have hz : IntKind.i16.wrap ((2 ^ 8 * x.toNat + y.toNat : Nat) : Int) = if 127 < x then 256 * x + y - 65536 else 256 * x + y := by
    show (if (true && decide (((2 ^ 8 * x.toNat + y.toNat : Nat) : Int) % (2 ^ 16 : Int) ≥ (2 ^ 15 : Int))) = true then ((2 ^ 8 * x.toNat + y.toNat : Nat) : Int) % (2 ^ 16 : Int) - (2 ^ 16 : Int) else ((2 ^ 8 * x.toNat + y.toNat : Nat) : Int) % (2 ^ 16 : Int)) = _
    simp only [Bool.true_and, decide_eq_true_eq]
    split <;> split <;> omega
  rw [hz]
  exact wrap_i64 (by split <;> omega) (by split <;> omega)
theorem i0_eq {b : List Int} (hb : ∀ x ∈ b, 0 ≤ x ∧ x ≤ 255) : IntKind.i64.wrap (b.getD 2 0) = bt b 2 := by
  have := bt_range hb 2
  exact wrap_i64 (x := bt b 2) (by omega) (by omega)
end Sp
def C3 : Tab where
  own f := f == 28
  run f h a := match f, h, a with
    | 21, [], [.ri .u8 b, .c (.int .i64 n)] => some ([.oi 24 .i16 (Sp.up b n)], .t [.s 0 0 (Sp.up b n).length (Sp.up b n).length, .a [.c (.int .i64 (Sp.upV b n)), .c (.int .i64 (Sp.upI b n))], .c (.int .u8 (Sp.uE b n))])
    | 22, [], [.ri .u8 b, .c (.int .i64 n)] => some ([.oi 24 .i16 (Sp.up b n)], .t [.s 0 0 (Sp.up b n).length (Sp.up b n).length, .a [.c (.int .i64 (Sp.upV b n)), .c (.int .i64 (Sp.upI b n))], .c (.int .u8 (Sp.uE b n))])
    | 23, [], [.ri .i16 x, .ri .i16 y] => some ([], .c (.bool (x == y)))
    | f, h, a => C2.run f h a
theorem con21 (b : List Int) (n : Int) (hb : ∀ x ∈ b, 0 ≤ x ∧ x ≤ 255) : Con Tryd.prog L0 21 [] [.ri .u8 b, .c (.int .i64 n)] [.oi 24 .i16 (Sp.up b n)] (.t [.s 0 0 (Sp.up b n).length (Sp.up b n).length, .a [.c (.int .i64 (Sp.upV b n)), .c (.int .i64 (Sp.upI b n))], .c (.int .u8 (Sp.uE b n))]) := by
  refine con_of_vc E_ok mixed Tryd.func21 rfl Tryd.call21 (Nat.le_of_ble_eq_true rfl) ?_
  refine VC.seq ?_
  refine VC.region (E := E) (C := C3) E_ok mixed [0, 1, 4, 5, 6, 7, 8, 9, 10, 11, 12, 13, 14, 15, 16, 17, 18, 19, 20, 21, 22, 23, 24, 25, 26, 27, 28, 29, 30, 31, 32, 33, 34, 35, 36, 37, 38, 39, 40, 41, 42, 43, 44, 45, 46, 47, 48, 49, 50, 51, 52, 53, 54, 55, 56, 57, 58, 59, 60, 61, 62, 63, 64, 65, 66, 67, 68, 69, 70, 71, 72, 73, 74, 75, 76, 77, 78, 79, 80, 81, 82, 83, 84, 85, 86, 87, 88, 89, 90, 91, 92, 93, 94, 95, 96, 97, 98, 100, 101, 102, 103] (st' := St.mk [(0, AV.ri IntKind.u8 b), (1, AV.c (Value.int IntKind.i64 n)), (4, AV.c (Value.slice none 0 0)), (5, AV.p 0 0), (6, AV.c (Value.int IntKind.u8 0))] [HObj.oo 23 2 [[AV.c (Value.int IntKind.i64 0), AV.c (Value.int IntKind.i64 0)]]]) (ps := []) (by kernel_rfl) (.nil) ?_
  refine seqK_n ?_
  refine VC.seq ?_
  refine VC.seq ?_
  refine VC.region (E := E) (C := C3) E_ok mixed [0, 1, 4, 5, 6, 7, 8, 9, 10, 16, 17, 18, 19, 20, 21, 22, 23, 24, 25, 26, 27, 28, 29, 30, 31, 32, 33, 34, 35, 36, 37, 38, 39, 40, 41, 42, 43, 44, 45, 46, 47, 48, 49, 50, 51, 52, 53, 54, 55, 56, 57, 58, 59, 60, 61, 62, 63, 64, 65, 66, 67, 68, 69, 70, 71, 72, 73, 74, 75, 76, 77, 78, 79, 80, 81, 82, 83, 84, 85, 86, 87, 88, 89, 90, 91, 92, 93, 94, 95, 96, 97, 98, 100, 101, 102, 103] (st' := St.mk [(0, AV.ri IntKind.u8 b), (1, AV.c (Value.int IntKind.i64 n)), (4, AV.c (Value.slice none 0 0)), (5, AV.p 0 0), (6, AV.c (Value.int IntKind.u8 0)), (16, AV.c (Value.bool (if decide (n < 0) = true then true else decide (8000 < n))))] [HObj.oo 23 2 [[AV.c (Value.int IntKind.i64 0), AV.c (Value.int IntKind.i64 0)]]]) (ps := [(!decide (n < (0 : Int))) = true → True, (!decide (n < (0 : Int))) = true → (!decide (n < (0 : Int))) = true ∧ True, decide (n < (0 : Int)) = true → True, decide (n < (0 : Int)) = false → (!decide (n < (0 : Int))) = true ∧ True]) (by kernel_rfl) (.cons (by exact fun _ => trivial) (.cons (by exact fun h => ⟨h, trivial⟩) (.cons (by exact fun _ => trivial) (.cons (by simp) (.nil))))) ?_
  refine seqK_n ?_
  refine VC.cond (b := if decide (n < 0) = true then true else decide (8000 < n)) (by kernel_rfl) (fun h1 => ?_) (fun h1 => ?_)
  ·
    simp at h1
    refine VC.seq ?_
    refine VC.region (E := E) (C := C3) E_ok mixed [0, 1, 4, 5, 6, 7, 8, 9, 10, 18, 19, 20, 21, 22, 23, 24, 25, 26, 27, 28, 29, 30, 31, 32, 33, 34, 35, 36, 37, 38, 39, 40, 41, 42, 43, 44, 45, 46, 47, 48, 49, 50, 51, 52, 53, 54, 55, 56, 57, 58, 59, 60, 61, 62, 63, 64, 65, 66, 67, 68, 69, 70, 71, 72, 73, 74, 75, 76, 77, 78, 79, 80, 81, 82, 83, 84, 85, 86, 87, 88, 89, 90, 91, 92, 93, 94, 95, 96, 97, 98, 100, 101, 102, 103] (st' := St.mk [(0, AV.ri IntKind.u8 b), (1, AV.c (Value.int IntKind.i64 n)), (4, AV.c (Value.slice none 0 0)), (5, AV.p 0 0), (6, AV.c (Value.int IntKind.u8 3))] [HObj.oo 23 2 [[AV.c (Value.int IntKind.i64 0), AV.c (Value.int IntKind.i64 0)]]]) (ps := [(0 : Nat) < (2 : Nat), (1 : Nat) < (2 : Nat)]) (by kernel_rfl) (.cons (by trivial) (.cons (by trivial) (.nil))) ?_
    refine seqK_n ?_
    refine VC.ent (Ent.nil 4 (HObj.oi 24 .i16 []) (by first | exact .inl ⟨_, _, rfl⟩ | exact .inr ⟨_, _, rfl⟩) (by kernel_rfl)) ?_
    refine VC.ret ?_
    refine seqK_r ?_
    exact Fin.all [1] (.inr rfl) (l := [AV.s 1 0 0 0, AV.a [AV.c (Value.int IntKind.i64 0), AV.c (Value.int IntKind.i64 0)], AV.c (Value.int IntKind.u8 3)]) (ps := []) (by kernel_rfl) (by kernel_rfl) (.nil) (All.of (l' := [HObj.oi (24 : TypeId) IntKind.i16 (Sp.up b n) = HObj.dead ∨ HObj.oi (24 : TypeId) IntKind.i16 [] = HObj.oi (24 : TypeId) IntKind.i16 (Sp.up b n)]) (by kernel_rfl) (.cons (by exact .inr (Sp.up_nil (Sp.uE_3 h1) (by decide))) (.nil))) (show AV.t [AV.s 1 0 0 0, AV.a [AV.c (Value.int IntKind.i64 0), AV.c (Value.int IntKind.i64 0)], AV.c (Value.int IntKind.u8 3)] = AV.t [AV.s 1 0 (List.length (Sp.up b n)) (List.length (Sp.up b n)), AV.a [AV.c (Value.int IntKind.i64 (Sp.upV b n)), AV.c (Value.int IntKind.i64 (Sp.upI b n))], AV.c (Value.int IntKind.u8 (Sp.uE b n))] by exact Sp.up_res (Sp.uE_3 h1) (by decide))
  ·
    simp at h1
    refine VC.skip ?_
    refine seqK_n ?_
    refine VC.seq ?_
    refine VC.regionE (E := E) (C := C3) E_ok mixed [0, 1, 4, 5, 6, 7, 8, 9, 10, 22, 23, 24, 25, 26, 27, 28, 29, 30, 31, 32, 33, 34, 35, 36, 37, 38, 39, 40, 41, 42, 43, 44, 45, 46, 47, 48, 49, 50, 51, 52, 53, 54, 55, 56, 57, 58, 59, 60, 61, 62, 63, 64, 65, 66, 67, 68, 69, 70, 71, 72, 73, 74, 75, 76, 77, 78, 79, 80, 81, 82, 83, 84, 85, 86, 87, 88, 89, 90, 91, 92, 93, 94, 95, 96, 97, 98, 100, 101, 102, 103] (st' := St.mk [(0, AV.ri IntKind.u8 b), (1, AV.c (Value.int IntKind.i64 n)), (4, AV.c (Value.slice none 0 0)), (5, AV.p 0 0), (6, AV.c (Value.int IntKind.u8 0)), (7, AV.c (Value.int IntKind.i64 (IntKind.wrap IntKind.i64 (4 + IntKind.wrap IntKind.i64 (Int.tdiv (IntKind.wrap IntKind.i64 (n + 1)) 2)))))] [HObj.oo 23 2 [[AV.c (Value.int IntKind.i64 0), AV.c (Value.int IntKind.i64 0)]]]) (ps := [(2 : Int) ≠ (0 : Int)]) (by kernel_rfl) (.cons (by trivial) (.nil)) (st'' := St.mk [(0, AV.ri IntKind.u8 b), (1, AV.c (Value.int IntKind.i64 n)), (4, AV.c (Value.slice none 0 0)), (5, AV.p 0 0), (6, AV.c (Value.int IntKind.u8 0)), (7, AV.c (Value.int IntKind.i64 (4 + (n + 1) / 2)))] [HObj.oo 23 2 [[AV.c (Value.int IntKind.i64 0), AV.c (Value.int IntKind.i64 0)]]]) (by simp (disch := omega) only [wrap_i8, wrap_i16, wrap_i32, wrap_i64, wrap_u8, wrap_u16, wrap_u32, wrap_u64, Int.tdiv_eq_ediv_of_nonneg, Int.tmod_eq_emod_of_nonneg, Int.toNat_natCast, Int.reduceToNat, Nat.mul_one, Nat.zero_add, Nat.add_zero, Nat.one_mul, Int.one_mul, Int.zero_add, Int.add_zero, Int.mul_one]) ?_
    refine seqK_n ?_
    refine VC.seq ?_
    refine VC.seq ?_
    refine VC.region (E := E) (C := C3) E_ok mixed [0, 1, 4, 5, 6, 7, 8, 9, 10, 25, 26, 27, 28, 29, 30, 31, 32, 33, 34, 35, 36, 37, 38, 39, 40, 41, 42, 43, 44, 45, 46, 47, 48, 49, 50, 51, 52, 53, 54, 55, 56, 57, 58, 59, 60, 61, 62, 63, 64, 65, 66, 67, 68, 69, 70, 71, 72, 73, 74, 75, 76, 77, 78, 79, 80, 81, 82, 83, 84, 85, 86, 87, 88, 89, 90, 91, 92, 93, 94, 95, 96, 97, 98, 100, 101, 102, 103] (st' := St.mk [(0, AV.ri IntKind.u8 b), (1, AV.c (Value.int IntKind.i64 n)), (4, AV.c (Value.slice none 0 0)), (5, AV.p 0 0), (6, AV.c (Value.int IntKind.u8 0)), (7, AV.c (Value.int IntKind.i64 (4 + (n + 1) / 2))), (25, AV.c (Value.bool (decide ((↑(List.length b) : Int) < 4 + (n + 1) / 2))))] [HObj.oo 23 2 [[AV.c (Value.int IntKind.i64 0), AV.c (Value.int IntKind.i64 0)]]]) (ps := []) (by kernel_rfl) (.nil) ?_
    refine seqK_n ?_
    refine VC.cond (b := decide ((↑(List.length b) : Int) < 4 + (n + 1) / 2)) (by kernel_rfl) (fun h2 => ?_) (fun h2 => ?_)
    ·
      simp at h2
      refine VC.seq ?_
      refine VC.region (E := E) (C := C3) E_ok mixed [0, 1, 4, 5, 6, 7, 8, 9, 10, 27, 28, 29, 30, 31, 32, 33, 34, 35, 36, 37, 38, 39, 40, 41, 42, 43, 44, 45, 46, 47, 48, 49, 50, 51, 52, 53, 54, 55, 56, 57, 58, 59, 60, 61, 62, 63, 64, 65, 66, 67, 68, 69, 70, 71, 72, 73, 74, 75, 76, 77, 78, 79, 80, 81, 82, 83, 84, 85, 86, 87, 88, 89, 90, 91, 92, 93, 94, 95, 96, 97, 98, 100, 101, 102, 103] (st' := St.mk [(0, AV.ri IntKind.u8 b), (1, AV.c (Value.int IntKind.i64 n)), (4, AV.c (Value.slice none 0 0)), (5, AV.p 0 0), (6, AV.c (Value.int IntKind.u8 6)), (7, AV.c (Value.int IntKind.i64 (4 + (n + 1) / 2)))] [HObj.oo 23 2 [[AV.c (Value.int IntKind.i64 0), AV.c (Value.int IntKind.i64 0)]]]) (ps := [(0 : Nat) < (2 : Nat), (1 : Nat) < (2 : Nat)]) (by kernel_rfl) (.cons (by trivial) (.cons (by trivial) (.nil))) ?_
      refine seqK_n ?_
      refine VC.ent (Ent.nil 4 (HObj.oi 24 .i16 []) (by first | exact .inl ⟨_, _, rfl⟩ | exact .inr ⟨_, _, rfl⟩) (by kernel_rfl)) ?_
      refine VC.ret ?_
      refine seqK_r ?_
      exact Fin.all [1] (.inr rfl) (l := [AV.s 1 0 0 0, AV.a [AV.c (Value.int IntKind.i64 0), AV.c (Value.int IntKind.i64 0)], AV.c (Value.int IntKind.u8 6)]) (ps := []) (by kernel_rfl) (by kernel_rfl) (.nil) (All.of (l' := [HObj.oi (24 : TypeId) IntKind.i16 (Sp.up b n) = HObj.dead ∨ HObj.oi (24 : TypeId) IntKind.i16 [] = HObj.oi (24 : TypeId) IntKind.i16 (Sp.up b n)]) (by kernel_rfl) (.cons (by exact .inr (Sp.up_nil (Sp.uE_6 h1 h2) (by decide))) (.nil))) (show AV.t [AV.s 1 0 0 0, AV.a [AV.c (Value.int IntKind.i64 0), AV.c (Value.int IntKind.i64 0)], AV.c (Value.int IntKind.u8 6)] = AV.t [AV.s 1 0 (List.length (Sp.up b n)) (List.length (Sp.up b n)), AV.a [AV.c (Value.int IntKind.i64 (Sp.upV b n)), AV.c (Value.int IntKind.i64 (Sp.upI b n))], AV.c (Value.int IntKind.u8 (Sp.uE b n))] by exact Sp.up_res (Sp.uE_6 h1 h2) (by decide))
    ·
      simp at h2
      refine VC.skip ?_
      refine seqK_n ?_
      refine VC.seq ?_
      refine VC.seq ?_
      refine VC.regionE (E := E) (C := C3) E_ok mixed [0, 1, 4, 5, 6, 8, 9, 10, 56, 57, 58, 59, 60, 61, 62, 63, 64, 65, 66, 67, 68, 69, 70, 71, 72, 73, 74, 75, 76, 77, 78, 79, 80, 81, 82, 83, 84, 85, 86, 87, 88, 89, 90, 91, 92, 93, 94, 95, 96, 97, 98, 100, 101, 102, 103] (st' := St.mk [(0, AV.ri IntKind.u8 b), (1, AV.c (Value.int IntKind.i64 n)), (4, AV.c (Value.slice none 0 0)), (5, AV.p 0 0), (6, AV.c (Value.int IntKind.u8 0)), (56, AV.c (Value.bool (if (if (if decide (4 + (n + 1) / 2 < (↑(List.length b) : Int)) = true then true else decide (88 < List.getD b 2 0)) = true then true else List.getD b 3 0 != 0) = true then true else if (Int.tmod n 2 == 1) = true then iand IntKind.u8 (List.getD b (Int.toNat (IntKind.wrap IntKind.i64 (4 + (n + 1) / 2 - 1)) * 1) 0) 15 != 0 else false)))] [HObj.oo 23 2 [[AV.c (Value.int IntKind.i64 0), AV.c (Value.int IntKind.i64 0)]]]) (ps := [(!decide ((4 : Int) + (n + (1 : Int)) / (2 : Int) < (↑(List.length b) : Int))) = true → True, (!decide ((4 : Int) + (n + (1 : Int)) / (2 : Int) < (↑(List.length b) : Int))) = true → (!decide ((4 : Int) + (n + (1 : Int)) / (2 : Int) < (↑(List.length b) : Int))) = true ∧ (0 : Int) ≤ (2 : Int) ∧ (2 : Int) < (↑(List.length b) : Int) ∧ True, (!decide ((4 : Int) + (n + (1 : Int)) / (2 : Int) < (↑(List.length b) : Int))) = true → (!decide ((4 : Int) + (n + (1 : Int)) / (2 : Int) < (↑(List.length b) : Int))) = true ∧ (2 : Nat) < List.length b ∧ True, (!decide ((4 : Int) + (n + (1 : Int)) / (2 : Int) < (↑(List.length b) : Int))) = true → (!decide ((4 : Int) + (n + (1 : Int)) / (2 : Int) < (↑(List.length b) : Int))) = true ∧ True, decide ((4 : Int) + (n + (1 : Int)) / (2 : Int) < (↑(List.length b) : Int)) = true → True, decide ((4 : Int) + (n + (1 : Int)) / (2 : Int) < (↑(List.length b) : Int)) = false → (!decide ((4 : Int) + (n + (1 : Int)) / (2 : Int) < (↑(List.length b) : Int))) = true ∧ True, (!if decide ((4 : Int) + (n + (1 : Int)) / (2 : Int) < (↑(List.length b) : Int)) = true then true else decide ((88 : Int) < List.getD b (2 : Nat) (0 : Int))) = true → True, (!if decide ((4 : Int) + (n + (1 : Int)) / (2 : Int) < (↑(List.length b) : Int)) = true then true else decide ((88 : Int) < List.getD b (2 : Nat) (0 : Int))) = true → (!if decide ((4 : Int) + (n + (1 : Int)) / (2 : Int) < (↑(List.length b) : Int)) = true then true else decide ((88 : Int) < List.getD b (2 : Nat) (0 : Int))) = true ∧ (0 : Int) ≤ (3 : Int) ∧ (3 : Int) < (↑(List.length b) : Int) ∧ True, (!if decide ((4 : Int) + (n + (1 : Int)) / (2 : Int) < (↑(List.length b) : Int)) = true then true else decide ((88 : Int) < List.getD b (2 : Nat) (0 : Int))) = true → (!if decide ((4 : Int) + (n + (1 : Int)) / (2 : Int) < (↑(List.length b) : Int)) = true then true else decide ((88 : Int) < List.getD b (2 : Nat) (0 : Int))) = true ∧ (3 : Nat) < List.length b ∧ True, (!if decide ((4 : Int) + (n + (1 : Int)) / (2 : Int) < (↑(List.length b) : Int)) = true then true else decide ((88 : Int) < List.getD b (2 : Nat) (0 : Int))) = true → (!if decide ((4 : Int) + (n + (1 : Int)) / (2 : Int) < (↑(List.length b) : Int)) = true then true else decide ((88 : Int) < List.getD b (2 : Nat) (0 : Int))) = true ∧ True, (if decide ((4 : Int) + (n + (1 : Int)) / (2 : Int) < (↑(List.length b) : Int)) = true then true else decide ((88 : Int) < List.getD b (2 : Nat) (0 : Int))) = true → True, (if decide ((4 : Int) + (n + (1 : Int)) / (2 : Int) < (↑(List.length b) : Int)) = true then true else decide ((88 : Int) < List.getD b (2 : Nat) (0 : Int))) = false → (!if decide ((4 : Int) + (n + (1 : Int)) / (2 : Int) < (↑(List.length b) : Int)) = true then true else decide ((88 : Int) < List.getD b (2 : Nat) (0 : Int))) = true ∧ True, (!if (if decide ((4 : Int) + (n + (1 : Int)) / (2 : Int) < (↑(List.length b) : Int)) = true then true else decide ((88 : Int) < List.getD b (2 : Nat) (0 : Int))) = true then true else List.getD b (3 : Nat) (0 : Int) != (0 : Int)) = true → True, (!if (if decide ((4 : Int) + (n + (1 : Int)) / (2 : Int) < (↑(List.length b) : Int)) = true then true else decide ((88 : Int) < List.getD b (2 : Nat) (0 : Int))) = true then true else List.getD b (3 : Nat) (0 : Int) != (0 : Int)) = true → (!if (if decide ((4 : Int) + (n + (1 : Int)) / (2 : Int) < (↑(List.length b) : Int)) = true then true else decide ((88 : Int) < List.getD b (2 : Nat) (0 : Int))) = true then true else List.getD b (3 : Nat) (0 : Int) != (0 : Int)) = true ∧ (2 : Int) ≠ (0 : Int) ∧ True, (!if (if decide ((4 : Int) + (n + (1 : Int)) / (2 : Int) < (↑(List.length b) : Int)) = true then true else decide ((88 : Int) < List.getD b (2 : Nat) (0 : Int))) = true then true else List.getD b (3 : Nat) (0 : Int) != (0 : Int)) = true → (!if (if decide ((4 : Int) + (n + (1 : Int)) / (2 : Int) < (↑(List.length b) : Int)) = true then true else decide ((88 : Int) < List.getD b (2 : Nat) (0 : Int))) = true then true else List.getD b (3 : Nat) (0 : Int) != (0 : Int)) = true ∧ True, (!if (if decide ((4 : Int) + (n + (1 : Int)) / (2 : Int) < (↑(List.length b) : Int)) = true then true else decide ((88 : Int) < List.getD b (2 : Nat) (0 : Int))) = true then true else List.getD b (3 : Nat) (0 : Int) != (0 : Int)) = true → (!if (if decide ((4 : Int) + (n + (1 : Int)) / (2 : Int) < (↑(List.length b) : Int)) = true then true else decide ((88 : Int) < List.getD b (2 : Nat) (0 : Int))) = true then true else List.getD b (3 : Nat) (0 : Int) != (0 : Int)) = true ∧ True, ((!if (if decide ((4 : Int) + (n + (1 : Int)) / (2 : Int) < (↑(List.length b) : Int)) = true then true else decide ((88 : Int) < List.getD b (2 : Nat) (0 : Int))) = true then true else List.getD b (3 : Nat) (0 : Int) != (0 : Int)) && Int.tmod n (2 : Int) == (1 : Int)) = true → True, ((!if (if decide ((4 : Int) + (n + (1 : Int)) / (2 : Int) < (↑(List.length b) : Int)) = true then true else decide ((88 : Int) < List.getD b (2 : Nat) (0 : Int))) = true then true else List.getD b (3 : Nat) (0 : Int) != (0 : Int)) && Int.tmod n (2 : Int) == (1 : Int)) = true → True, ((!if (if decide ((4 : Int) + (n + (1 : Int)) / (2 : Int) < (↑(List.length b) : Int)) = true then true else decide ((88 : Int) < List.getD b (2 : Nat) (0 : Int))) = true then true else List.getD b (3 : Nat) (0 : Int) != (0 : Int)) && Int.tmod n (2 : Int) == (1 : Int)) = true → ((!if (if decide ((4 : Int) + (n + (1 : Int)) / (2 : Int) < (↑(List.length b) : Int)) = true then true else decide ((88 : Int) < List.getD b (2 : Nat) (0 : Int))) = true then true else List.getD b (3 : Nat) (0 : Int) != (0 : Int)) && Int.tmod n (2 : Int) == (1 : Int)) = true ∧ True, ((!if (if decide ((4 : Int) + (n + (1 : Int)) / (2 : Int) < (↑(List.length b) : Int)) = true then true else decide ((88 : Int) < List.getD b (2 : Nat) (0 : Int))) = true then true else List.getD b (3 : Nat) (0 : Int) != (0 : Int)) && Int.tmod n (2 : Int) == (1 : Int)) = true → ((!if (if decide ((4 : Int) + (n + (1 : Int)) / (2 : Int) < (↑(List.length b) : Int)) = true then true else decide ((88 : Int) < List.getD b (2 : Nat) (0 : Int))) = true then true else List.getD b (3 : Nat) (0 : Int) != (0 : Int)) && Int.tmod n (2 : Int) == (1 : Int)) = true ∧ ((!if (if decide ((4 : Int) + (n + (1 : Int)) / (2 : Int) < (↑(List.length b) : Int)) = true then true else decide ((88 : Int) < List.getD b (2 : Nat) (0 : Int))) = true then true else List.getD b (3 : Nat) (0 : Int) != (0 : Int)) && Int.tmod n (2 : Int) == (1 : Int)) = true ∧ (0 : Int) ≤ IntKind.wrap IntKind.i64 ((4 : Int) + (n + (1 : Int)) / (2 : Int) - (1 : Int)) ∧ IntKind.wrap IntKind.i64 ((4 : Int) + (n + (1 : Int)) / (2 : Int) - (1 : Int)) < (↑(List.length b) : Int) ∧ True, ((!if (if decide ((4 : Int) + (n + (1 : Int)) / (2 : Int) < (↑(List.length b) : Int)) = true then true else decide ((88 : Int) < List.getD b (2 : Nat) (0 : Int))) = true then true else List.getD b (3 : Nat) (0 : Int) != (0 : Int)) && Int.tmod n (2 : Int) == (1 : Int)) = true → ((!if (if decide ((4 : Int) + (n + (1 : Int)) / (2 : Int) < (↑(List.length b) : Int)) = true then true else decide ((88 : Int) < List.getD b (2 : Nat) (0 : Int))) = true then true else List.getD b (3 : Nat) (0 : Int) != (0 : Int)) && Int.tmod n (2 : Int) == (1 : Int)) = true ∧ Int.toNat (IntKind.wrap IntKind.i64 ((4 : Int) + (n + (1 : Int)) / (2 : Int) - (1 : Int))) * (1 : Nat) < List.length b ∧ True, ((!if (if decide ((4 : Int) + (n + (1 : Int)) / (2 : Int) < (↑(List.length b) : Int)) = true then true else decide ((88 : Int) < List.getD b (2 : Nat) (0 : Int))) = true then true else List.getD b (3 : Nat) (0 : Int) != (0 : Int)) && Int.tmod n (2 : Int) == (1 : Int)) = true → ((!if (if decide ((4 : Int) + (n + (1 : Int)) / (2 : Int) < (↑(List.length b) : Int)) = true then true else decide ((88 : Int) < List.getD b (2 : Nat) (0 : Int))) = true then true else List.getD b (3 : Nat) (0 : Int) != (0 : Int)) && Int.tmod n (2 : Int) == (1 : Int)) = true ∧ True, ((!if (if decide ((4 : Int) + (n + (1 : Int)) / (2 : Int) < (↑(List.length b) : Int)) = true then true else decide ((88 : Int) < List.getD b (2 : Nat) (0 : Int))) = true then true else List.getD b (3 : Nat) (0 : Int) != (0 : Int)) && Int.tmod n (2 : Int) == (1 : Int)) = true → ((!if (if decide ((4 : Int) + (n + (1 : Int)) / (2 : Int) < (↑(List.length b) : Int)) = true then true else decide ((88 : Int) < List.getD b (2 : Nat) (0 : Int))) = true then true else List.getD b (3 : Nat) (0 : Int) != (0 : Int)) && Int.tmod n (2 : Int) == (1 : Int)) = true ∧ True, (!if (if decide ((4 : Int) + (n + (1 : Int)) / (2 : Int) < (↑(List.length b) : Int)) = true then true else decide ((88 : Int) < List.getD b (2 : Nat) (0 : Int))) = true then true else List.getD b (3 : Nat) (0 : Int) != (0 : Int)) = true → (!if (if decide ((4 : Int) + (n + (1 : Int)) / (2 : Int) < (↑(List.length b) : Int)) = true then true else decide ((88 : Int) < List.getD b (2 : Nat) (0 : Int))) = true then true else List.getD b (3 : Nat) (0 : Int) != (0 : Int)) = true ∧ ((Int.tmod n (2 : Int) == (1 : Int)) = true → ((!if (if decide ((4 : Int) + (n + (1 : Int)) / (2 : Int) < (↑(List.length b) : Int)) = true then true else decide ((88 : Int) < List.getD b (2 : Nat) (0 : Int))) = true then true else List.getD b (3 : Nat) (0 : Int) != (0 : Int)) && Int.tmod n (2 : Int) == (1 : Int)) = true ∧ True) ∧ ((Int.tmod n (2 : Int) == (1 : Int)) = false → True) ∧ True, (if (if decide ((4 : Int) + (n + (1 : Int)) / (2 : Int) < (↑(List.length b) : Int)) = true then true else decide ((88 : Int) < List.getD b (2 : Nat) (0 : Int))) = true then true else List.getD b (3 : Nat) (0 : Int) != (0 : Int)) = true → True, (if (if decide ((4 : Int) + (n + (1 : Int)) / (2 : Int) < (↑(List.length b) : Int)) = true then true else decide ((88 : Int) < List.getD b (2 : Nat) (0 : Int))) = true then true else List.getD b (3 : Nat) (0 : Int) != (0 : Int)) = false → (!if (if decide ((4 : Int) + (n + (1 : Int)) / (2 : Int) < (↑(List.length b) : Int)) = true then true else decide ((88 : Int) < List.getD b (2 : Nat) (0 : Int))) = true then true else List.getD b (3 : Nat) (0 : Int) != (0 : Int)) = true ∧ True]) (by kernel_rfl) (.cons (by exact fun _ => trivial) (.cons (by simp at *; omega) (.cons (by simp at *; omega) (.cons (by exact fun h => ⟨h, trivial⟩) (.cons (by exact fun _ => trivial) (.cons (by simp) (.cons (by exact fun _ => trivial) (.cons (by simp at *; omega) (.cons (by simp at *; omega) (.cons (by exact fun h => ⟨h, trivial⟩) (.cons (by exact fun _ => trivial) (.cons (by simp) (.cons (by exact fun _ => trivial) (.cons (by simp) (.cons (by exact fun h => ⟨h, trivial⟩) (.cons (by exact fun h => ⟨h, trivial⟩) (.cons (by exact fun _ => trivial) (.cons (by exact fun _ => trivial) (.cons (by exact fun h => ⟨h, trivial⟩) (.cons (by intro h; refine ⟨h, h, ?_, ?_, trivial⟩ <;> simp (disch := omega) only [wrap_i64] <;> omega) (.cons (by intro h; refine ⟨h, ?_, trivial⟩; simp (disch := omega) only [wrap_i64]; omega) (.cons (by exact fun h => ⟨h, trivial⟩) (.cons (by exact fun h => ⟨h, trivial⟩) (.cons (by simp at *; omega) (.cons (by exact fun _ => trivial) (.cons (by simp) (.nil))))))))))))))))))))))))))) (st'' := St.mk [(0, AV.ri IntKind.u8 b), (1, AV.c (Value.int IntKind.i64 n)), (4, AV.c (Value.slice none 0 0)), (5, AV.p 0 0), (6, AV.c (Value.int IntKind.u8 0)), (56, AV.c (Value.bool (if (if (if decide (4 + (n + 1) / 2 < (↑(List.length b) : Int)) = true then true else decide (88 < List.getD b 2 0)) = true then true else List.getD b 3 0 != 0) = true then true else if (n % 2 == 1) = true then iand IntKind.u8 (List.getD b (Int.toNat (4 + (n + 1) / 2 - 1)) 0) 15 != 0 else false)))] [HObj.oo 23 2 [[AV.c (Value.int IntKind.i64 0), AV.c (Value.int IntKind.i64 0)]]]) (by simp (disch := omega) only [wrap_i8, wrap_i16, wrap_i32, wrap_i64, wrap_u8, wrap_u16, wrap_u32, wrap_u64, Int.tdiv_eq_ediv_of_nonneg, Int.tmod_eq_emod_of_nonneg, Int.toNat_natCast, Int.reduceToNat, Nat.mul_one, Nat.zero_add, Nat.add_zero, Nat.one_mul, Int.one_mul, Int.zero_add, Int.add_zero, Int.mul_one]) ?_
      refine seqK_n ?_
      refine VC.cond (b := if (if (if decide (4 + (n + 1) / 2 < (↑(List.length b) : Int)) = true then true else decide (88 < List.getD b 2 0)) = true then true else List.getD b 3 0 != 0) = true then true else if (n % 2 == 1) = true then iand IntKind.u8 (List.getD b (Int.toNat (4 + (n + 1) / 2 - 1)) 0) 15 != 0 else false) (by kernel_rfl) (fun h3 => ?_) (fun h3 => ?_)
      ·
        simp at h3
        refine VC.seq ?_
        refine VC.region (E := E) (C := C3) E_ok mixed [0, 1, 4, 5, 6, 8, 9, 10, 58, 59, 60, 61, 62, 63, 64, 65, 66, 67, 68, 69, 70, 71, 72, 73, 74, 75, 76, 77, 78, 79, 80, 81, 82, 83, 84, 85, 86, 87, 88, 89, 90, 91, 92, 93, 94, 95, 96, 97, 98, 100, 101, 102, 103] (st' := St.mk [(0, AV.ri IntKind.u8 b), (1, AV.c (Value.int IntKind.i64 n)), (4, AV.c (Value.slice none 0 0)), (5, AV.p 0 0), (6, AV.c (Value.int IntKind.u8 5))] [HObj.oo 23 2 [[AV.c (Value.int IntKind.i64 0), AV.c (Value.int IntKind.i64 0)]]]) (ps := [(0 : Nat) < (2 : Nat), (1 : Nat) < (2 : Nat)]) (by kernel_rfl) (.cons (by trivial) (.cons (by trivial) (.nil))) ?_
        refine seqK_n ?_
        refine VC.ent (Ent.nil 4 (HObj.oi 24 .i16 []) (by first | exact .inl ⟨_, _, rfl⟩ | exact .inr ⟨_, _, rfl⟩) (by kernel_rfl)) ?_
        refine VC.ret ?_
        refine seqK_r ?_
        exact Fin.all [1] (.inr rfl) (l := [AV.s 1 0 0 0, AV.a [AV.c (Value.int IntKind.i64 0), AV.c (Value.int IntKind.i64 0)], AV.c (Value.int IntKind.u8 5)]) (ps := []) (by kernel_rfl) (by kernel_rfl) (.nil) (All.of (l' := [HObj.oi (24 : TypeId) IntKind.i16 (Sp.up b n) = HObj.dead ∨ HObj.oi (24 : TypeId) IntKind.i16 [] = HObj.oi (24 : TypeId) IntKind.i16 (Sp.up b n)]) (by kernel_rfl) (.cons (by exact .inr (Sp.up_nil (Sp.uE_5 h1 h2 ((Sp.bad_iff hb h1).1 h3)) (by decide))) (.nil))) (show AV.t [AV.s 1 0 0 0, AV.a [AV.c (Value.int IntKind.i64 0), AV.c (Value.int IntKind.i64 0)], AV.c (Value.int IntKind.u8 5)] = AV.t [AV.s 1 0 (List.length (Sp.up b n)) (List.length (Sp.up b n)), AV.a [AV.c (Value.int IntKind.i64 (Sp.upV b n)), AV.c (Value.int IntKind.i64 (Sp.upI b n))], AV.c (Value.int IntKind.u8 (Sp.uE b n))] by exact Sp.up_res (Sp.uE_5 h1 h2 ((Sp.bad_iff hb h1).1 h3)) (by decide))
      ·
        simp at h3
        refine VC.skip ?_
        refine seqK_n ?_
        refine VC.seq ?_
        refine VC.region (E := E) (C := C3) E_ok mixed [0, 1, 4, 5, 6, 8, 9, 10, 74, 75, 76, 77, 78, 79, 80, 81, 82, 83, 84, 85, 86, 87, 88, 89, 90, 91, 92, 93, 94, 95, 96, 97, 98, 100, 101, 102, 103] (st' := St.mk [(0, AV.ri IntKind.u8 b), (1, AV.c (Value.int IntKind.i64 n)), (4, AV.c (Value.slice none 0 0)), (5, AV.p 0 0), (6, AV.c (Value.int IntKind.u8 0)), (8, AV.p 1 0)] [HObj.oo 23 2 [[AV.c (Value.int IntKind.i64 0), AV.c (Value.int IntKind.i64 0)]], HObj.oo 23 2 [[AV.c (Value.int IntKind.i64 (IntKind.wrap IntKind.i64 (ior IntKind.i16 (ishl IntKind.i16 (IntKind.wrap IntKind.i16 (List.getD b 0 0)) 8) (IntKind.wrap IntKind.i16 (List.getD b 1 0))))), AV.c (Value.int IntKind.i64 (IntKind.wrap IntKind.i64 (List.getD b 2 0)))]]]) (ps := [(0 : Int) ≤ (0 : Int), (0 : Int) < (↑(List.length b) : Int), (0 : Nat) < List.length b, (0 : Int) ≤ (8 : Int), (0 : Int) ≤ (1 : Int), (1 : Int) < (↑(List.length b) : Int), (1 : Nat) < List.length b, (0 : Int) ≤ (2 : Int), (2 : Int) < (↑(List.length b) : Int), (2 : Nat) < List.length b, (0 : Nat) < (2 : Nat), (1 : Nat) < (2 : Nat)]) (by kernel_rfl) (.cons (by trivial) (.cons (by omega) (.cons (by omega) (.cons (by trivial) (.cons (by trivial) (.cons (by omega) (.cons (by omega) (.cons (by trivial) (.cons (by omega) (.cons (by omega) (.cons (by trivial) (.cons (by trivial) (.nil))))))))))))) ?_
        refine seqK_n ?_
        refine VC.seq ?_
        refine VC.region (E := E) (C := C3) E_ok mixed [0, 1, 4, 5, 6, 8, 9, 10, 76, 77, 78, 79, 80, 81, 82, 83, 84, 85, 86, 87, 88, 89, 90, 91, 92, 93, 94, 95, 96, 97, 98, 100, 101, 102, 103] (st' := St.mk [(0, AV.ri IntKind.u8 b), (1, AV.c (Value.int IntKind.i64 n)), (4, AV.c (Value.slice none 0 0)), (5, AV.p 0 0), (6, AV.c (Value.int IntKind.u8 0)), (8, AV.p 1 0), (9, AV.s 2 0 (Int.toNat n) (Int.toNat n))] [HObj.oo 23 2 [[AV.c (Value.int IntKind.i64 0), AV.c (Value.int IntKind.i64 0)]], HObj.oo 23 2 [[AV.c (Value.int IntKind.i64 (IntKind.wrap IntKind.i64 (ior IntKind.i16 (ishl IntKind.i16 (IntKind.wrap IntKind.i16 (List.getD b 0 0)) 8) (IntKind.wrap IntKind.i16 (List.getD b 1 0))))), AV.c (Value.int IntKind.i64 (IntKind.wrap IntKind.i64 (List.getD b 2 0)))]], HObj.oi 24 IntKind.i16 (List.replicate (Int.toNat n) 0)]) (ps := [(0 : Int) ≤ n, n ≤ n, (2 : Int) * n ≤ (281474976710656 : Int), n ≤ (9223372036854775807 : Int), (1 : Nat) = (1 : Nat), [Value.int IntKind.i16 (0 : Int)] = [Value.int IntKind.i16 (0 : Int)]]) (by kernel_rfl) (.cons (by omega) (.cons (by omega) (.cons (by omega) (.cons (by omega) (.cons (by trivial) (.cons (by trivial) (.nil))))))) ?_
        refine seqK_n ?_
        refine VC.seq ?_
        refine VC.seq ?_
        refine VC.region (E := E) (C := C3) E_ok mixed [0, 4, 5, 6, 8, 9, 10, 76, 77, 78, 79, 80, 81, 82, 83, 84, 85, 86, 87, 88, 89, 90, 91, 92, 93, 94, 95, 96, 97, 98, 100, 101, 102, 103] (st' := St.mk [(0, AV.ri IntKind.u8 b), (4, AV.c (Value.slice none 0 0)), (5, AV.p 0 0), (6, AV.c (Value.int IntKind.u8 0)), (8, AV.p 1 0), (9, AV.s 2 0 (Int.toNat n) (Int.toNat n)), (76, AV.c (Value.int IntKind.i64 n)), (77, AV.c (Value.int IntKind.i64 0))] [HObj.oo 23 2 [[AV.c (Value.int IntKind.i64 0), AV.c (Value.int IntKind.i64 0)]], HObj.oo 23 2 [[AV.c (Value.int IntKind.i64 (IntKind.wrap IntKind.i64 (ior IntKind.i16 (ishl IntKind.i16 (IntKind.wrap IntKind.i16 (List.getD b 0 0)) 8) (IntKind.wrap IntKind.i16 (List.getD b 1 0))))), AV.c (Value.int IntKind.i64 (IntKind.wrap IntKind.i64 (List.getD b 2 0)))]], HObj.oi 24 IntKind.i16 (List.replicate (Int.toNat n) 0)]) (ps := []) (by kernel_rfl) (.nil) ?_
        refine seqK_n ?_
        refine VC.block ?_
        refine VC.ent (Ent.nil 4 (HObj.oi 24 .i16 []) (by first | exact .inl ⟨_, _, rfl⟩ | exact .inr ⟨_, _, rfl⟩) (by kernel_rfl)) ?_
        refine VC.loop (Y := {j : Nat // (j : Int) ≤ n}) (fun j => ⟨[(0, .ri .u8 b), (5, .p 0 0), (8, .p 1 0), (9, .s 2 0 n.toNat n.toNat), (76, .c (.int .i64 n)), (77, .c (.int .i64 (j.1 : Nat)))], [.oo 23 2 [[.c (.int .i64 0), .c (.int .i64 0)]], .oo 23 2 [[.c (.int .i64 (Sp.U b j.1).1), .c (.int .i64 (Sp.U b j.1).2)]], .oi 24 .i16 (Sp.out b j.1 n.toNat)]⟩) (fun j => (n - j.1).toNat) ⟨0, by omega⟩ ?_ ?_
        ·
          exact Ent.map [0, 1, 2] (by kernel_rfl) (All.of (l' := [HObj.oo (23 : TypeId) (2 : Nat) [[AV.c (Value.int IntKind.i64 (0 : Int)), AV.c (Value.int IntKind.i64 (0 : Int))]] = HObj.dead ∨ HObj.oo (23 : TypeId) (2 : Nat) [[AV.c (Value.int IntKind.i64 (0 : Int)), AV.c (Value.int IntKind.i64 (0 : Int))]] = HObj.oo (23 : TypeId) (2 : Nat) [[AV.c (Value.int IntKind.i64 (0 : Int)), AV.c (Value.int IntKind.i64 (0 : Int))]], HObj.oo (23 : TypeId) (2 : Nat) [[AV.c (Value.int IntKind.i64 (Prod.fst (Sp.U b (0 : Nat)))), AV.c (Value.int IntKind.i64 (Prod.snd (Sp.U b (0 : Nat))))]] = HObj.dead ∨ HObj.oo (23 : TypeId) (2 : Nat) [[AV.c (Value.int IntKind.i64 (IntKind.wrap IntKind.i64 (ior IntKind.i16 (ishl IntKind.i16 (IntKind.wrap IntKind.i16 (List.getD b (0 : Nat) (0 : Int))) (8 : Int)) (IntKind.wrap IntKind.i16 (List.getD b (1 : Nat) (0 : Int)))))), AV.c (Value.int IntKind.i64 (IntKind.wrap IntKind.i64 (List.getD b (2 : Nat) (0 : Int))))]] = HObj.oo (23 : TypeId) (2 : Nat) [[AV.c (Value.int IntKind.i64 (Prod.fst (Sp.U b (0 : Nat)))), AV.c (Value.int IntKind.i64 (Prod.snd (Sp.U b (0 : Nat))))]], HObj.oi (24 : TypeId) IntKind.i16 (Sp.out b (0 : Nat) (Int.toNat n)) = HObj.dead ∨ HObj.oi (24 : TypeId) IntKind.i16 (List.replicate (Int.toNat n) (0 : Int)) = HObj.oi (24 : TypeId) IntKind.i16 (Sp.out b (0 : Nat) (Int.toNat n))]) (by kernel_rfl) (.cons (by exact .inr rfl) (.cons (by right; rw [Sp.v0_eq hb, Sp.i0_eq hb]; rfl) (.cons (by right; rw [Sp.out_zero]) (.nil))))) (All.of (l' := [some (AV.ri IntKind.u8 b) = some (AV.ri IntKind.u8 b), some (AV.p (0 : Nat) (0 : Nat)) = some (AV.p (0 : Nat) (0 : Nat)), some (AV.p (1 : Nat) (0 : Nat)) = some (AV.p (1 : Nat) (0 : Nat)), some (AV.s (2 : Nat) (0 : Nat) (Int.toNat n) (Int.toNat n)) = some (AV.s (2 : Nat) (0 : Nat) (Int.toNat n) (Int.toNat n)), some (AV.c (Value.int IntKind.i64 n)) = some (AV.c (Value.int IntKind.i64 n)), some (AV.c (Value.int IntKind.i64 (0 : Int))) = some (AV.c (Value.int IntKind.i64 (0 : Int)))]) (by kernel_rfl) (.cons (by with_reducible rfl) (.cons (by with_reducible rfl) (.cons (by with_reducible rfl) (.cons (by with_reducible rfl) (.cons (by with_reducible rfl) (.cons (by with_reducible rfl) (.nil))))))))
        intro ⟨j, hj⟩
        refine VC.seq ?_
        refine VC.region (E := E) (C := C3) E_ok mixed [0, 4, 5, 6, 8, 9, 10, 76, 77, 78, 79, 80, 81, 82, 83, 84, 85, 86, 87, 88, 89, 90, 91, 92, 93, 94, 95, 96, 97, 98, 100, 101, 102, 103] (st' := St.mk [(0, AV.ri IntKind.u8 b), (5, AV.p 0 0), (8, AV.p 1 0), (9, AV.s 2 0 (Int.toNat n) (Int.toNat n)), (76, AV.c (Value.int IntKind.i64 n)), (77, AV.c (Value.int IntKind.i64 (↑j : Int))), (78, AV.c (Value.bool (decide ((↑j : Int) < n))))] [HObj.oo 23 2 [[AV.c (Value.int IntKind.i64 0), AV.c (Value.int IntKind.i64 0)]], HObj.oo 23 2 [[AV.c (Value.int IntKind.i64 (Prod.fst (Sp.U b j))), AV.c (Value.int IntKind.i64 (Prod.snd (Sp.U b j)))]], HObj.oi 24 IntKind.i16 (Sp.out b j (Int.toNat n))]) (ps := []) (by kernel_rfl) (.nil) ?_
        refine seqK_n ?_
        refine VC.seq ?_
        refine VC.cond (b := decide ((↑j : Int) < n)) (by kernel_rfl) (fun h4 => ?_) (fun h4 => ?_)
        ·
          simp at h4
          refine VC.skip ?_
          refine seqK_n ?_
          refine VC.seq ?_
          refine VC.block ?_
          refine VC.seq ?_
          refine VC.region (E := E) (C := C3) E_ok mixed [0, 4, 5, 6, 8, 9, 10, 76, 77, 80, 81, 82, 83, 84, 85, 86, 87, 88, 89, 90, 91, 92, 93, 94, 95, 96, 97, 98, 100, 101, 102, 103] (st' := St.mk [(0, AV.ri IntKind.u8 b), (5, AV.p 0 0), (8, AV.p 1 0), (9, AV.s 2 0 (Int.toNat n) (Int.toNat n)), (10, AV.c (Value.int IntKind.i64 (↑j : Int))), (76, AV.c (Value.int IntKind.i64 n)), (77, AV.c (Value.int IntKind.i64 (↑j : Int)))] [HObj.oo 23 2 [[AV.c (Value.int IntKind.i64 0), AV.c (Value.int IntKind.i64 0)]], HObj.oo 23 2 [[AV.c (Value.int IntKind.i64 (Prod.fst (Sp.U b j))), AV.c (Value.int IntKind.i64 (Prod.snd (Sp.U b j)))]], HObj.oi 24 IntKind.i16 (Sp.out b j (Int.toNat n))]) (ps := []) (by kernel_rfl) (.nil) ?_
          refine seqK_n ?_
          refine VC.regionE (E := E) (C := C3) E_ok mixed [0, 4, 5, 6, 8, 9, 76, 77, 101, 102, 103] (st' := St.mk [(0, AV.ri IntKind.u8 b), (5, AV.p 0 0), (8, AV.p 1 0), (9, AV.s 2 0 (Int.toNat n) (Int.toNat n)), (76, AV.c (Value.int IntKind.i64 n)), (77, AV.c (Value.int IntKind.i64 (↑j : Int)))] [HObj.oo 23 2 [[AV.c (Value.int IntKind.i64 0), AV.c (Value.int IntKind.i64 0)]], HObj.oo 23 2 [[AV.c (Value.int IntKind.i64 (Sp.decX (Prod.fst (Sp.U b j)) (Prod.snd (Sp.U b j)) (iand IntKind.u8 (ishr IntKind.u8 (List.getD b (Int.toNat (IntKind.wrap IntKind.i64 (4 + IntKind.wrap IntKind.i64 (Int.tdiv (↑j : Int) 2))) * 1) 0) (IntKind.wrap IntKind.i64 (4 - IntKind.wrap IntKind.i64 (4 * Int.tmod (↑j : Int) 2)))) 15))), AV.c (Value.int IntKind.i64 (Sp.decI (Prod.fst (Sp.U b j)) (Prod.snd (Sp.U b j)) (iand IntKind.u8 (ishr IntKind.u8 (List.getD b (Int.toNat (IntKind.wrap IntKind.i64 (4 + IntKind.wrap IntKind.i64 (Int.tdiv (↑j : Int) 2))) * 1) 0) (IntKind.wrap IntKind.i64 (4 - IntKind.wrap IntKind.i64 (4 * Int.tmod (↑j : Int) 2)))) 15)))]], HObj.oi 24 IntKind.i16 (List.set (Sp.out b j (Int.toNat n)) (0 + Int.toNat (↑j : Int) * 1) (Sp.decX (Prod.fst (Sp.U b j)) (Prod.snd (Sp.U b j)) (iand IntKind.u8 (ishr IntKind.u8 (List.getD b (Int.toNat (IntKind.wrap IntKind.i64 (4 + IntKind.wrap IntKind.i64 (Int.tdiv (↑j : Int) 2))) * 1) 0) (IntKind.wrap IntKind.i64 (4 - IntKind.wrap IntKind.i64 (4 * Int.tmod (↑j : Int) 2)))) 15)))]) (ps := [(2 : Int) ≠ (0 : Int), (0 : Int) ≤ IntKind.wrap IntKind.i64 ((4 : Int) + IntKind.wrap IntKind.i64 (Int.tdiv (↑j : Int) (2 : Int))), IntKind.wrap IntKind.i64 ((4 : Int) + IntKind.wrap IntKind.i64 (Int.tdiv (↑j : Int) (2 : Int))) < (↑(List.length b) : Int), Int.toNat (IntKind.wrap IntKind.i64 ((4 : Int) + IntKind.wrap IntKind.i64 (Int.tdiv (↑j : Int) (2 : Int)))) * (1 : Nat) < List.length b, (2 : Int) ≠ (0 : Int), (0 : Int) ≤ IntKind.wrap IntKind.i64 ((4 : Int) - IntKind.wrap IntKind.i64 ((4 : Int) * Int.tmod (↑j : Int) (2 : Int))), Con Tryd.prog L0 (11 : Nat) [] [AV.a [AV.c (Value.int IntKind.i64 (Prod.fst (Sp.U b j))), AV.c (Value.int IntKind.i64 (Prod.snd (Sp.U b j)))], AV.c (Value.int IntKind.u8 (iand IntKind.u8 (ishr IntKind.u8 (List.getD b (Int.toNat (IntKind.wrap IntKind.i64 ((4 : Int) + IntKind.wrap IntKind.i64 (Int.tdiv (↑j : Int) (2 : Int)))) * (1 : Nat)) (0 : Int)) (IntKind.wrap IntKind.i64 ((4 : Int) - IntKind.wrap IntKind.i64 ((4 : Int) * Int.tmod (↑j : Int) (2 : Int))))) (15 : Int)))] [] (AV.t [AV.c (Value.int IntKind.i16 (Sp.decX (Prod.fst (Sp.U b j)) (Prod.snd (Sp.U b j)) (iand IntKind.u8 (ishr IntKind.u8 (List.getD b (Int.toNat (IntKind.wrap IntKind.i64 ((4 : Int) + IntKind.wrap IntKind.i64 (Int.tdiv (↑j : Int) (2 : Int)))) * (1 : Nat)) (0 : Int)) (IntKind.wrap IntKind.i64 ((4 : Int) - IntKind.wrap IntKind.i64 ((4 : Int) * Int.tmod (↑j : Int) (2 : Int))))) (15 : Int)))), AV.a [AV.c (Value.int IntKind.i64 (Sp.decX (Prod.fst (Sp.U b j)) (Prod.snd (Sp.U b j)) (iand IntKind.u8 (ishr IntKind.u8 (List.getD b (Int.toNat (IntKind.wrap IntKind.i64 ((4 : Int) + IntKind.wrap IntKind.i64 (Int.tdiv (↑j : Int) (2 : Int)))) * (1 : Nat)) (0 : Int)) (IntKind.wrap IntKind.i64 ((4 : Int) - IntKind.wrap IntKind.i64 ((4 : Int) * Int.tmod (↑j : Int) (2 : Int))))) (15 : Int)))), AV.c (Value.int IntKind.i64 (Sp.decI (Prod.fst (Sp.U b j)) (Prod.snd (Sp.U b j)) (iand IntKind.u8 (ishr IntKind.u8 (List.getD b (Int.toNat (IntKind.wrap IntKind.i64 ((4 : Int) + IntKind.wrap IntKind.i64 (Int.tdiv (↑j : Int) (2 : Int)))) * (1 : Nat)) (0 : Int)) (IntKind.wrap IntKind.i64 ((4 : Int) - IntKind.wrap IntKind.i64 ((4 : Int) * Int.tmod (↑j : Int) (2 : Int))))) (15 : Int))))], AV.c (Value.int IntKind.u8 (Sp.decE (Prod.fst (Sp.U b j)) (Prod.snd (Sp.U b j)) (iand IntKind.u8 (ishr IntKind.u8 (List.getD b (Int.toNat (IntKind.wrap IntKind.i64 ((4 : Int) + IntKind.wrap IntKind.i64 (Int.tdiv (↑j : Int) (2 : Int)))) * (1 : Nat)) (0 : Int)) (IntKind.wrap IntKind.i64 ((4 : Int) - IntKind.wrap IntKind.i64 ((4 : Int) * Int.tmod (↑j : Int) (2 : Int))))) (15 : Int))))]), true = true ∨ (True ∧ (True ∧ True ∧ True) ∧ True ∧ True) ∧ ∀ (o : HObj), o ∈ [] → HObj.nr o, (0 : Int) ≤ (↑j : Int), (↑j : Int) < (↑(Int.toNat n) : Int), (0 : Nat) < List.length (Sp.out b j (Int.toNat n)), (0 : Nat) + Int.toNat (↑j : Int) * (1 : Nat) < List.length (Sp.out b j (Int.toNat n)), (0 : Nat) < (2 : Nat), (1 : Nat) < (2 : Nat)]) (by kernel_rfl) (.cons (by trivial) (.cons (by simp (disch := omega) only [wrap_i8, wrap_i16, wrap_i32, wrap_i64, wrap_u8, wrap_u16, wrap_u32, wrap_u64, Int.tdiv_eq_ediv_of_nonneg, Int.tmod_eq_emod_of_nonneg, Int.toNat_natCast, Int.reduceToNat, Nat.mul_one, Nat.zero_add, Nat.add_zero, Nat.one_mul, Int.one_mul, Int.zero_add, Int.add_zero, Int.mul_one]; omega) (.cons (by simp (disch := omega) only [wrap_i8, wrap_i16, wrap_i32, wrap_i64, wrap_u8, wrap_u16, wrap_u32, wrap_u64, Int.tdiv_eq_ediv_of_nonneg, Int.tmod_eq_emod_of_nonneg, Int.toNat_natCast, Int.reduceToNat, Nat.mul_one, Nat.zero_add, Nat.add_zero, Nat.one_mul, Int.one_mul, Int.zero_add, Int.add_zero, Int.mul_one]; omega) (.cons (by simp (disch := omega) only [wrap_i8, wrap_i16, wrap_i32, wrap_i64, wrap_u8, wrap_u16, wrap_u32, wrap_u64, Int.tdiv_eq_ediv_of_nonneg, Int.tmod_eq_emod_of_nonneg, Int.toNat_natCast, Int.reduceToNat, Nat.mul_one, Nat.zero_add, Nat.add_zero, Nat.one_mul, Int.one_mul, Int.zero_add, Int.add_zero, Int.mul_one]; omega) (.cons (by trivial) (.cons (by simp (disch := omega) only [wrap_i8, wrap_i16, wrap_i32, wrap_i64, wrap_u8, wrap_u16, wrap_u32, wrap_u64, Int.tdiv_eq_ediv_of_nonneg, Int.tmod_eq_emod_of_nonneg, Int.toNat_natCast, Int.reduceToNat, Nat.mul_one, Nat.zero_add, Nat.add_zero, Nat.one_mul, Int.one_mul, Int.zero_add, Int.add_zero, Int.mul_one]; omega) (.cons (by rw [Sp.nib_eq' hb j (by omega)]; exact con11 _ _ _ (by have := Sp.nib_range hb j; omega)) (.cons (by simp) (.cons (by omega) (.cons (by omega) (.cons (by rw [Sp.out_len]; omega) (.cons (by rw [Sp.out_len]; omega) (.cons (by trivial) (.cons (by trivial) (.nil))))))))))))))) (st'' := St.mk [(0, AV.ri IntKind.u8 b), (5, AV.p 0 0), (8, AV.p 1 0), (9, AV.s 2 0 (Int.toNat n) (Int.toNat n)), (76, AV.c (Value.int IntKind.i64 n)), (77, AV.c (Value.int IntKind.i64 (↑j : Int)))] [HObj.oo 23 2 [[AV.c (Value.int IntKind.i64 0), AV.c (Value.int IntKind.i64 0)]], HObj.oo 23 2 [[AV.c (Value.int IntKind.i64 (Sp.decX (Prod.fst (Sp.U b j)) (Prod.snd (Sp.U b j)) (iand IntKind.u8 (ishr IntKind.u8 (List.getD b (Int.toNat (4 + (↑j : Int) / 2)) 0) (4 - 4 * ((↑j : Int) % 2))) 15))), AV.c (Value.int IntKind.i64 (Sp.decI (Prod.fst (Sp.U b j)) (Prod.snd (Sp.U b j)) (iand IntKind.u8 (ishr IntKind.u8 (List.getD b (Int.toNat (4 + (↑j : Int) / 2)) 0) (4 - 4 * ((↑j : Int) % 2))) 15)))]], HObj.oi 24 IntKind.i16 (List.set (Sp.out b j (Int.toNat n)) j (Sp.decX (Prod.fst (Sp.U b j)) (Prod.snd (Sp.U b j)) (iand IntKind.u8 (ishr IntKind.u8 (List.getD b (Int.toNat (4 + (↑j : Int) / 2)) 0) (4 - 4 * ((↑j : Int) % 2))) 15)))]) (by simp (disch := omega) only [wrap_i8, wrap_i16, wrap_i32, wrap_i64, wrap_u8, wrap_u16, wrap_u32, wrap_u64, Int.tdiv_eq_ediv_of_nonneg, Int.tmod_eq_emod_of_nonneg, Int.toNat_natCast, Int.reduceToNat, Nat.mul_one, Nat.zero_add, Nat.add_zero, Nat.one_mul, Int.one_mul, Int.zero_add, Int.add_zero, Int.mul_one]) ?_
          refine blockK_n ?_
          refine seqK_n ?_
          refine VC.regionE (E := E) (C := C3) E_ok mixed [0, 4, 5, 6, 8, 9, 76, 77, 102, 103] (st' := St.mk [(0, AV.ri IntKind.u8 b), (5, AV.p 0 0), (8, AV.p 1 0), (9, AV.s 2 0 (Int.toNat n) (Int.toNat n)), (76, AV.c (Value.int IntKind.i64 n)), (77, AV.c (Value.int IntKind.i64 (IntKind.wrap IntKind.i64 ((↑j : Int) + 1))))] [HObj.oo 23 2 [[AV.c (Value.int IntKind.i64 0), AV.c (Value.int IntKind.i64 0)]], HObj.oo 23 2 [[AV.c (Value.int IntKind.i64 (Sp.decX (Prod.fst (Sp.U b j)) (Prod.snd (Sp.U b j)) (iand IntKind.u8 (ishr IntKind.u8 (List.getD b (Int.toNat (4 + (↑j : Int) / 2)) 0) (4 - 4 * ((↑j : Int) % 2))) 15))), AV.c (Value.int IntKind.i64 (Sp.decI (Prod.fst (Sp.U b j)) (Prod.snd (Sp.U b j)) (iand IntKind.u8 (ishr IntKind.u8 (List.getD b (Int.toNat (4 + (↑j : Int) / 2)) 0) (4 - 4 * ((↑j : Int) % 2))) 15)))]], HObj.oi 24 IntKind.i16 (List.set (Sp.out b j (Int.toNat n)) j (Sp.decX (Prod.fst (Sp.U b j)) (Prod.snd (Sp.U b j)) (iand IntKind.u8 (ishr IntKind.u8 (List.getD b (Int.toNat (4 + (↑j : Int) / 2)) 0) (4 - 4 * ((↑j : Int) % 2))) 15)))]) (ps := []) (by kernel_rfl) (.nil) (st'' := St.mk [(0, AV.ri IntKind.u8 b), (5, AV.p 0 0), (8, AV.p 1 0), (9, AV.s 2 0 (Int.toNat n) (Int.toNat n)), (76, AV.c (Value.int IntKind.i64 n)), (77, AV.c (Value.int IntKind.i64 ((↑j : Int) + 1)))] [HObj.oo 23 2 [[AV.c (Value.int IntKind.i64 0), AV.c (Value.int IntKind.i64 0)]], HObj.oo 23 2 [[AV.c (Value.int IntKind.i64 (Sp.decX (Prod.fst (Sp.U b j)) (Prod.snd (Sp.U b j)) (iand IntKind.u8 (ishr IntKind.u8 (List.getD b (Int.toNat (4 + (↑j : Int) / 2)) 0) (4 - 4 * ((↑j : Int) % 2))) 15))), AV.c (Value.int IntKind.i64 (Sp.decI (Prod.fst (Sp.U b j)) (Prod.snd (Sp.U b j)) (iand IntKind.u8 (ishr IntKind.u8 (List.getD b (Int.toNat (4 + (↑j : Int) / 2)) 0) (4 - 4 * ((↑j : Int) % 2))) 15)))]], HObj.oi 24 IntKind.i16 (List.set (Sp.out b j (Int.toNat n)) j (Sp.decX (Prod.fst (Sp.U b j)) (Prod.snd (Sp.U b j)) (iand IntKind.u8 (ishr IntKind.u8 (List.getD b (Int.toNat (4 + (↑j : Int) / 2)) 0) (4 - 4 * ((↑j : Int) % 2))) 15)))]) (by simp (disch := omega) only [wrap_i8, wrap_i16, wrap_i32, wrap_i64, wrap_u8, wrap_u16, wrap_u32, wrap_u64, Int.tdiv_eq_ediv_of_nonneg, Int.tmod_eq_emod_of_nonneg, Int.toNat_natCast, Int.reduceToNat, Nat.mul_one, Nat.zero_add, Nat.add_zero, Nat.one_mul, Int.one_mul, Int.zero_add, Int.add_zero, Int.mul_one]) ?_
          refine loopK_n (⟨j + 1, by omega⟩) ?_ ?_
          ·
            exact (show Int.toNat (n - (↑(j + 1) : Int)) < Int.toNat (n - (↑j : Int)) by omega)
          ·
            exact Ent.map [0, 1, 2] (by kernel_rfl) (All.of (l' := [HObj.oo (23 : TypeId) (2 : Nat) [[AV.c (Value.int IntKind.i64 (0 : Int)), AV.c (Value.int IntKind.i64 (0 : Int))]] = HObj.dead ∨ HObj.oo (23 : TypeId) (2 : Nat) [[AV.c (Value.int IntKind.i64 (0 : Int)), AV.c (Value.int IntKind.i64 (0 : Int))]] = HObj.oo (23 : TypeId) (2 : Nat) [[AV.c (Value.int IntKind.i64 (0 : Int)), AV.c (Value.int IntKind.i64 (0 : Int))]], HObj.oo (23 : TypeId) (2 : Nat) [[AV.c (Value.int IntKind.i64 (Prod.fst (Sp.U b (j + (1 : Nat))))), AV.c (Value.int IntKind.i64 (Prod.snd (Sp.U b (j + (1 : Nat)))))]] = HObj.dead ∨ HObj.oo (23 : TypeId) (2 : Nat) [[AV.c (Value.int IntKind.i64 (Sp.decX (Prod.fst (Sp.U b j)) (Prod.snd (Sp.U b j)) (iand IntKind.u8 (ishr IntKind.u8 (List.getD b (Int.toNat ((4 : Int) + (↑j : Int) / (2 : Int))) (0 : Int)) ((4 : Int) - (4 : Int) * ((↑j : Int) % (2 : Int)))) (15 : Int)))), AV.c (Value.int IntKind.i64 (Sp.decI (Prod.fst (Sp.U b j)) (Prod.snd (Sp.U b j)) (iand IntKind.u8 (ishr IntKind.u8 (List.getD b (Int.toNat ((4 : Int) + (↑j : Int) / (2 : Int))) (0 : Int)) ((4 : Int) - (4 : Int) * ((↑j : Int) % (2 : Int)))) (15 : Int))))]] = HObj.oo (23 : TypeId) (2 : Nat) [[AV.c (Value.int IntKind.i64 (Prod.fst (Sp.U b (j + (1 : Nat))))), AV.c (Value.int IntKind.i64 (Prod.snd (Sp.U b (j + (1 : Nat)))))]], HObj.oi (24 : TypeId) IntKind.i16 (Sp.out b (j + (1 : Nat)) (Int.toNat n)) = HObj.dead ∨ HObj.oi (24 : TypeId) IntKind.i16 (List.set (Sp.out b j (Int.toNat n)) j (Sp.decX (Prod.fst (Sp.U b j)) (Prod.snd (Sp.U b j)) (iand IntKind.u8 (ishr IntKind.u8 (List.getD b (Int.toNat ((4 : Int) + (↑j : Int) / (2 : Int))) (0 : Int)) ((4 : Int) - (4 : Int) * ((↑j : Int) % (2 : Int)))) (15 : Int)))) = HObj.oi (24 : TypeId) IntKind.i16 (Sp.out b (j + (1 : Nat)) (Int.toNat n))]) (by kernel_rfl) (.cons (by exact .inr rfl) (.cons (by right; rw [Sp.nib_eq hb, (Sp.dec_nib hb (Sp.nb2 (Sp.not_bad hb h1 h3)) j).1, (Sp.dec_nib hb (Sp.nb2 (Sp.not_bad hb h1 h3)) j).2]) (.cons (by right; rw [Sp.l21s hb (Sp.nb2 (Sp.not_bad hb h1 h3)) (by omega)]) (.nil))))) (All.of (l' := [some (AV.ri IntKind.u8 b) = some (AV.ri IntKind.u8 b), some (AV.p (0 : Nat) (0 : Nat)) = some (AV.p (0 : Nat) (0 : Nat)), some (AV.p (1 : Nat) (0 : Nat)) = some (AV.p (1 : Nat) (0 : Nat)), some (AV.s (2 : Nat) (0 : Nat) (Int.toNat n) (Int.toNat n)) = some (AV.s (2 : Nat) (0 : Nat) (Int.toNat n) (Int.toNat n)), some (AV.c (Value.int IntKind.i64 n)) = some (AV.c (Value.int IntKind.i64 n)), some (AV.c (Value.int IntKind.i64 ((↑j : Int) + (1 : Int)))) = some (AV.c (Value.int IntKind.i64 (↑(j + (1 : Nat)) : Int)))]) (by kernel_rfl) (.cons (by with_reducible rfl) (.cons (by with_reducible rfl) (.cons (by with_reducible rfl) (.cons (by with_reducible rfl) (.cons (by with_reducible rfl) (.cons (by trivial) (.nil))))))))
        ·
          simp at h4
          refine VC.exit ?_
          refine seqK_x ?_
          refine loopK_x ?_
          refine blockK_x ?_
          refine seqK_n ?_
          refine VC.seq ?_
          refine VC.region (E := E) (C := C3) E_ok mixed [4, 5, 6] (st' := St.mk [(4, AV.s 2 0 (Int.toNat n) (Int.toNat n)), (5, AV.p 0 0), (6, AV.c (Value.int IntKind.u8 0))] [HObj.oo 23 2 [[AV.c (Value.int IntKind.i64 (Prod.fst (Sp.U b j))), AV.c (Value.int IntKind.i64 (Prod.snd (Sp.U b j)))]], HObj.oo 23 2 [[AV.c (Value.int IntKind.i64 (Prod.fst (Sp.U b j))), AV.c (Value.int IntKind.i64 (Prod.snd (Sp.U b j)))]], HObj.oi 24 IntKind.i16 (Sp.out b j (Int.toNat n))]) (ps := [(0 : Nat) < (2 : Nat), (1 : Nat) < (2 : Nat)]) (by kernel_rfl) (.cons (by trivial) (.cons (by trivial) (.nil))) ?_
          refine seqK_n ?_
          refine VC.ret ?_
          exact Fin.all [2] (.inr rfl) (l := [AV.s 2 0 (Int.toNat n) (Int.toNat n), AV.a [AV.c (Value.int IntKind.i64 (Prod.fst (Sp.U b j))), AV.c (Value.int IntKind.i64 (Prod.snd (Sp.U b j)))], AV.c (Value.int IntKind.u8 0)]) (ps := []) (by kernel_rfl) (by kernel_rfl) (.nil) (All.of (l' := [HObj.oi (24 : TypeId) IntKind.i16 (Sp.up b n) = HObj.dead ∨ HObj.oi (24 : TypeId) IntKind.i16 (Sp.out b j (Int.toNat n)) = HObj.oi (24 : TypeId) IntKind.i16 (Sp.up b n)]) (by kernel_rfl) (.cons (by obtain ⟨e1, e2, e3, e4, e5, e6⟩ := Sp.up_end (Sp.uE_0 h1 h2 (Sp.not_bad hb h1 h3)) hj h4; right; rw [e1]) (.nil))) (show AV.t [AV.s 2 0 (Int.toNat n) (Int.toNat n), AV.a [AV.c (Value.int IntKind.i64 (Prod.fst (Sp.U b j))), AV.c (Value.int IntKind.i64 (Prod.snd (Sp.U b j)))], AV.c (Value.int IntKind.u8 0)] = AV.t [AV.s 2 0 (List.length (Sp.up b n)) (List.length (Sp.up b n)), AV.a [AV.c (Value.int IntKind.i64 (Sp.upV b n)), AV.c (Value.int IntKind.i64 (Sp.upI b n))], AV.c (Value.int IntKind.u8 (Sp.uE b n))] by obtain ⟨e1, e2, e3, e4, e5, e6⟩ := Sp.up_end (Sp.uE_0 h1 h2 (Sp.not_bad hb h1 h3)) hj h4; rw [← e3, ← e5, ← e6, Sp.uE_0 h1 h2 (Sp.not_bad hb h1 h3)])

namespace Sp
theorem take_step {x y : List Int} {j : Nat} (hj : j < x.length) (hl : (x.length : Int) = y.length) (h : x.take j = y.take j) (h3 : (x[j]?).getD 0 = (y[j]?).getD (0 : Int)) : x.take (j + 1) = y.take (j + 1) := by
  have hy : j < y.length := by omega
  rw [List.getElem?_eq_getElem hj, List.getElem?_eq_getElem hy] at h3
  simp only [Option.getD_some] at h3
  rw [List.take_succ_eq_append_getElem hj, List.take_succ_eq_append_getElem hy, h, h3]
theorem same_end {x y : List Int} {j : Nat} (hj : j ≤ x.length) (h2 : x.length ≤ j) (hl : (x.length : Int) = y.length) (h : x.take j = y.take j) : AV.c (Value.bool true) = AV.c (Value.bool (x == y)) := by
  obtain rfl : j = x.length := by omega
  rw [List.take_length, show x.length = y.length from by omega, List.take_length] at h
  subst h; simp
theorem same_len {x y : List Int} (hl : ¬ (x.length : Int) = y.length) : AV.c (Value.bool false) = AV.c (Value.bool (x == y)) := by
  have : (x == y) = false := by rw [beq_eq_false_iff_ne]; rintro rfl; exact hl rfl
  rw [this]
theorem same_ne {x y : List Int} {j : Nat} (h3 : ¬ (x[j]?).getD 0 = (y[j]?).getD (0 : Int)) : AV.c (Value.bool false) = AV.c (Value.bool (x == y)) := by
  have : (x == y) = false := by rw [beq_eq_false_iff_ne]; rintro rfl; exact h3 rfl
  rw [this]
theorem sz_eq {n : Int} (h1 : 0 ≤ n ∧ n ≤ 8000) : IntKind.i64.wrap (4 + IntKind.i64.wrap (Int.tdiv (IntKind.i64.wrap (n + 1)) 2)) = 4 + (n + 1) / 2 := by
  rw [wrap_i64 (x := n + 1) (by omega) (by omega), Int.tdiv_eq_ediv_of_nonneg (by omega), wrap_i64 (x := _ / _) (by omega) (by omega), wrap_i64 (by omega) (by omega)]
theorem mod_bt {b : List Int} (hb : ∀ x ∈ b, 0 ≤ x ∧ x ≤ 255) (k : Nat) : Int.tmod (b.getD k 0) 16 = bt b k % 16 := by
  have := bt_range hb k
  exact Int.tmod_eq_emod_of_nonneg (a := bt b k) this.1
theorem div_bt {b : List Int} (hb : ∀ x ∈ b, 0 ≤ x ∧ x ≤ 255) (k : Nat) : IntKind.u8.wrap (Int.tdiv (b.getD k 0) 16) = bt b k / 16 := by
  have := bt_range hb k
  show IntKind.u8.wrap (Int.tdiv (bt b k) 16) = _
  rw [Int.tdiv_eq_ediv_of_nonneg this.1]; exact wrap_u8 (by omega) (by omega)
theorem nib_odd {b : List Int} {j : Nat} (h : (j : Int) % 2 = 1) : bt b (Int.toNat (4 + (j : Int) / 2)) % 16 = nib b j := by
  rw [show Int.toNat (4 + (j : Int) / 2) = 4 + j / 2 from by omega]; simp only [nib]; rw [if_neg (by omega)]
theorem nib_even {b : List Int} {j : Nat} (h : ¬ (j : Int) % 2 = 1) : bt b (Int.toNat (4 + (j : Int) / 2)) / 16 = nib b j := by
  rw [show Int.toNat (4 + (j : Int) / 2) = 4 + j / 2 from by omega]; simp only [nib]; rw [if_pos (by omega)]
theorem v0_sum {b : List Int} (hb : ∀ x ∈ b, 0 ≤ x ∧ x ≤ 255) : IntKind.i64.wrap (IntKind.i64.wrap (256 * IntKind.i64.wrap (b.getD 0 0)) + IntKind.i64.wrap (b.getD 1 0)) = 256 * bt b 0 + bt b 1 := by
  have h0 := bt_range hb 0
  have h1 := bt_range hb 1
  show IntKind.i64.wrap (IntKind.i64.wrap (256 * IntKind.i64.wrap (bt b 0)) + IntKind.i64.wrap (bt b 1)) = _
  rw [wrap_i64 (x := bt b 0) (by omega) (by omega), wrap_i64 (x := bt b 1) (by omega) (by omega), wrap_i64 (x := 256 * _) (by omega) (by omega), wrap_i64 (by omega) (by omega)]
theorem U0_hi {b : List Int} (hb : ∀ x ∈ b, 0 ≤ x ∧ x ≤ 255) (h : 32767 < 256 * bt b 0 + bt b 1) : IntKind.i64.wrap (256 * bt b 0 + bt b 1 - 65536) = v0 b := by
  have h0 := bt_range hb 0
  have h1 := bt_range hb 1
  rw [wrap_i64 (by omega) (by omega)]; simp only [v0]; rw [if_pos (by omega)]
theorem U0_lo {b : List Int} (hb : ∀ x ∈ b, 0 ≤ x ∧ x ≤ 255) (h : 256 * bt b 0 + bt b 1 ≤ 32767) : 256 * bt b 0 + bt b 1 = v0 b := by
  have h0 := bt_range hb 0
  have h1 := bt_range hb 1
  simp only [v0]; rw [if_neg (by omega)]
theorem bad_iff2 {b : List Int} {n : Int} (hb : ∀ x ∈ b, 0 ≤ x ∧ x ≤ 255) (h : 0 ≤ n ∧ n ≤ 8000) (h2 : 4 + (n + 1) / 2 ≤ (b.length : Int)) : (((4 + (n + 1) / 2 < (b.length : Int) ∨ 88 < (b[2]?).getD (0 : Int)) ∨ ¬(b[3]?).getD (0 : Int) = 0) ∨ n % 2 = 1 ∧ ¬Int.tmod ((b[Int.toNat (IntKind.i64.wrap ((b.length : Int) - 1))]?).getD (0 : Int)) 16 = 0) ↔ bad b n := by
  by_cases hl : 4 + (n + 1) / 2 < (b.length : Int)
  · simp only [bad, usz]; exact ⟨fun _ => .inl hl, fun _ => .inl (.inl (.inl hl))⟩
  · have e : Int.toNat (IntKind.i64.wrap ((b.length : Int) - 1)) = (usz n - 1).toNat := by rw [wrap_i64 (by omega) (by omega)]; simp only [usz]; omega
    have hr := bt_range hb (usz n - 1).toNat
    rw [e]
    have e2 : (b[(usz n - 1).toNat]?).getD (0 : Int) = bt b (usz n - 1).toNat := by simp only [bt, List.getD_eq_getElem?_getD]
    rw [e2, Int.tmod_eq_emod_of_nonneg hr.1]
    simp only [bad, bt, List.getD_eq_getElem?_getD, usz, or_assoc, ne_eq]
theorem not_bad2 {b : List Int} {n : Int} (hb : ∀ x ∈ b, 0 ≤ x ∧ x ≤ 255) (h : 0 ≤ n ∧ n ≤ 8000) (h2 : 4 + (n + 1) / 2 ≤ (b.length : Int)) (h3 : (((b.length : Int) ≤ 4 + (n + 1) / 2 ∧ (b[2]?).getD (0 : Int) ≤ 88) ∧ (b[3]?).getD (0 : Int) = 0) ∧ (n % 2 = 1 → Int.tmod ((b[Int.toNat (IntKind.i64.wrap ((b.length : Int) - 1))]?).getD (0 : Int)) 16 = 0)) : ¬ bad b n := by
  rw [← bad_iff2 hb h h2]
  intro hh
  obtain ⟨⟨⟨h4, h5⟩, h6⟩, h7⟩ := h3
  rcases hh with ((hh | hh) | hh) | ⟨hh, hh2⟩
  · omega
  · omega
  · exact hh h6
  · exact hh2 (h7 hh)
theorem dv_wrap (v i c : Int) : IntKind.i16.wrap (dv v i c) = dv v i c := by have := dv_range v i c; exact wrap_i16 (by omega) (by omega)
theorem U_succ (b : List Int) (j : Nat) : (dv (U b j).1 (U b j).2 (nib b j) = (U b (j + 1)).1) ∧ di (U b j).2 (nib b j) = (U b (j + 1)).2 := ⟨rfl, rfl⟩
end Sp
theorem con23 (x y : List Int) (hx : x.length ≤ 1000000000) : Con Tryd.prog L0 23 [] [.ri .i16 x, .ri .i16 y] [] (.c (.bool (x == y))) := by
  refine con_of_vc E_ok mixed Tryd.func23 rfl Tryd.call23 (Nat.le_of_ble_eq_true rfl) ?_
  refine VC.seq ?_
  refine VC.region (E := E) (C := C3) E_ok mixed [0, 1, 4, 5, 6, 7, 8, 9, 10, 11, 12, 13, 14, 15, 16, 17, 18, 19, 20, 21, 22, 23, 24, 25] (st' := St.mk [(0, AV.ri IntKind.i16 x), (1, AV.ri IntKind.i16 y), (4, AV.c (Value.bool false))] []) (ps := []) (by kernel_rfl) (.nil) ?_
  refine seqK_n ?_
  refine VC.seq ?_
  refine VC.seq ?_
  refine VC.region (E := E) (C := C3) E_ok mixed [0, 1, 4, 5, 10, 11, 12, 13, 14, 15, 16, 17, 18, 19, 20, 21, 22, 23, 24, 25] (st' := St.mk [(0, AV.ri IntKind.i16 x), (1, AV.ri IntKind.i16 y), (4, AV.c (Value.bool false)), (10, AV.c (Value.bool ((↑(List.length x) : Int) != (↑(List.length y) : Int))))] []) (ps := []) (by kernel_rfl) (.nil) ?_
  refine seqK_n ?_
  refine VC.cond (b := (↑(List.length x) : Int) != (↑(List.length y) : Int)) (by kernel_rfl) (fun h1 => ?_) (fun h1 => ?_)
  ·
    simp at h1
    refine VC.seq ?_
    refine VC.region (E := E) (C := C3) E_ok mixed [0, 1, 4, 5, 11, 12, 13, 14, 15, 16, 17, 18, 19, 20, 21, 22, 23, 24, 25] (st' := St.mk [(0, AV.ri IntKind.i16 x), (1, AV.ri IntKind.i16 y), (4, AV.c (Value.bool false))] []) (ps := []) (by kernel_rfl) (.nil) ?_
    refine seqK_n ?_
    refine VC.ret ?_
    refine seqK_r ?_
    exact Fin.all [] (.inr rfl) (l := [AV.c (Value.bool false)]) (ps := []) (by kernel_rfl) (by kernel_rfl) (.nil) (All.of (l' := []) (by kernel_rfl) (.nil)) (show AV.c (Value.bool false) = AV.c (Value.bool (x == y)) by exact Sp.same_len h1)
  ·
    simp at h1
    refine VC.skip ?_
    refine seqK_n ?_
    refine VC.seq ?_
    refine VC.seq ?_
    refine VC.region (E := E) (C := C3) E_ok mixed [0, 1, 4, 5, 11, 12, 13, 14, 15, 16, 17, 18, 19, 20, 21, 22, 23, 24, 25] (st' := St.mk [(0, AV.ri IntKind.i16 x), (1, AV.ri IntKind.i16 y), (4, AV.c (Value.bool false)), (5, AV.c (Value.int IntKind.i64 0))] []) (ps := []) (by kernel_rfl) (.nil) ?_
    refine seqK_n ?_
    refine VC.block ?_
    refine VC.loop (Y := {j : Nat // j ≤ x.length ∧ x.take j = y.take j}) (fun j => ⟨[(0, .ri .i16 x), (1, .ri .i16 y), (5, .c (.int .i64 (j.1 : Nat)))], []⟩) (fun j => x.length - j.1) ⟨0, by simp⟩ ?_ ?_
    ·
      exact Ent.map [] (by kernel_rfl) (All.of (l' := []) (by kernel_rfl) (.nil)) (All.of (l' := [some (AV.ri IntKind.i16 x) = some (AV.ri IntKind.i16 x), some (AV.ri IntKind.i16 y) = some (AV.ri IntKind.i16 y), some (AV.c (Value.int IntKind.i64 (0 : Int))) = some (AV.c (Value.int IntKind.i64 (0 : Int)))]) (by kernel_rfl) (.cons (by with_reducible rfl) (.cons (by with_reducible rfl) (.cons (by with_reducible rfl) (.nil)))))
    intro ⟨j, hj, hxy⟩
    refine VC.seq ?_
    refine VC.seq ?_
    refine VC.region (E := E) (C := C3) E_ok mixed [0, 1, 4, 5, 14, 15, 16, 17, 18, 19, 20, 21, 22, 23, 24, 25] (st' := St.mk [(0, AV.ri IntKind.i16 x), (1, AV.ri IntKind.i16 y), (5, AV.c (Value.int IntKind.i64 (↑j : Int))), (14, AV.c (Value.bool (decide ((↑j : Int) < (↑(List.length x) : Int)))))] []) (ps := []) (by kernel_rfl) (.nil) ?_
    refine seqK_n ?_
    refine VC.cond (b := decide ((↑j : Int) < (↑(List.length x) : Int))) (by kernel_rfl) (fun h2 => ?_) (fun h2 => ?_)
    ·
      simp at h2
      refine VC.skip ?_
      refine seqK_n ?_
      refine VC.seq ?_
      refine VC.block ?_
      refine VC.seq ?_
      refine VC.region (E := E) (C := C3) E_ok mixed [0, 1, 4, 5, 15, 16, 25] (st' := St.mk [(0, AV.ri IntKind.i16 x), (1, AV.ri IntKind.i16 y), (5, AV.c (Value.int IntKind.i64 (↑j : Int))), (25, AV.c (Value.bool (List.getD x (Int.toNat (↑j : Int) * 1) 0 != List.getD y (Int.toNat (↑j : Int) * 1) 0)))] []) (ps := [(0 : Int) ≤ (↑j : Int), (↑j : Int) < (↑(List.length x) : Int), Int.toNat (↑j : Int) * (1 : Nat) < List.length x, (0 : Int) ≤ (↑j : Int), (↑j : Int) < (↑(List.length y) : Int), Int.toNat (↑j : Int) * (1 : Nat) < List.length y]) (by kernel_rfl) (.cons (by omega) (.cons (by omega) (.cons (by omega) (.cons (by omega) (.cons (by omega) (.cons (by omega) (.nil))))))) ?_
      refine seqK_n ?_
      refine VC.cond (b := List.getD x (Int.toNat (↑j : Int) * 1) 0 != List.getD y (Int.toNat (↑j : Int) * 1) 0) (by kernel_rfl) (fun h3 => ?_) (fun h3 => ?_)
      ·
        simp at h3
        refine VC.seq ?_
        refine VC.region (E := E) (C := C3) E_ok mixed [0, 1, 4, 5, 15, 16] (st' := St.mk [(0, AV.ri IntKind.i16 x), (1, AV.ri IntKind.i16 y), (4, AV.c (Value.bool false)), (5, AV.c (Value.int IntKind.i64 (↑j : Int)))] []) (ps := []) (by kernel_rfl) (.nil) ?_
        refine seqK_n ?_
        refine VC.ret ?_
        refine blockK_r ?_
        refine seqK_r ?_
        refine loopK_r ?_
        refine blockK_r ?_
        refine seqK_r ?_
        exact Fin.all [] (.inr rfl) (l := [AV.c (Value.bool false)]) (ps := []) (by kernel_rfl) (by kernel_rfl) (.nil) (All.of (l' := []) (by kernel_rfl) (.nil)) (show AV.c (Value.bool false) = AV.c (Value.bool (x == y)) by exact Sp.same_ne h3)
      ·
        simp at h3
        refine VC.skip ?_
        refine blockK_n ?_
        refine seqK_n ?_
        refine VC.regionE (E := E) (C := C3) E_ok mixed [0, 1, 4, 5] (st' := St.mk [(0, AV.ri IntKind.i16 x), (1, AV.ri IntKind.i16 y), (5, AV.c (Value.int IntKind.i64 (IntKind.wrap IntKind.i64 ((↑j : Int) + 1))))] []) (ps := []) (by kernel_rfl) (.nil) (st'' := St.mk [(0, AV.ri IntKind.i16 x), (1, AV.ri IntKind.i16 y), (5, AV.c (Value.int IntKind.i64 ((↑j : Int) + 1)))] []) (by simp (disch := omega) only [wrap_i8, wrap_i16, wrap_i32, wrap_i64, wrap_u8, wrap_u16, wrap_u32, wrap_u64, Int.tdiv_eq_ediv_of_nonneg, Int.tmod_eq_emod_of_nonneg, Int.toNat_natCast, Int.reduceToNat, Nat.mul_one, Nat.zero_add, Nat.add_zero, Nat.one_mul, Int.one_mul, Int.zero_add, Int.add_zero, Int.mul_one]) ?_
        refine loopK_n (⟨j + 1, by omega, Sp.take_step h2 h1 hxy h3⟩) ?_ ?_
        ·
          exact (show List.length x - (j + 1) < List.length x - j by omega)
        ·
          exact Ent.map [] (by kernel_rfl) (All.of (l' := []) (by kernel_rfl) (.nil)) (All.of (l' := [some (AV.ri IntKind.i16 x) = some (AV.ri IntKind.i16 x), some (AV.ri IntKind.i16 y) = some (AV.ri IntKind.i16 y), some (AV.c (Value.int IntKind.i64 ((↑j : Int) + (1 : Int)))) = some (AV.c (Value.int IntKind.i64 (↑(j + (1 : Nat)) : Int)))]) (by kernel_rfl) (.cons (by with_reducible rfl) (.cons (by with_reducible rfl) (.cons (by trivial) (.nil)))))
    ·
      simp at h2
      refine VC.exit ?_
      refine seqK_x ?_
      refine loopK_x ?_
      refine blockK_x ?_
      refine seqK_n ?_
      refine VC.seq ?_
      refine VC.region (E := E) (C := C3) E_ok mixed [4] (st' := St.mk [(4, AV.c (Value.bool true))] []) (ps := []) (by kernel_rfl) (.nil) ?_
      refine seqK_n ?_
      refine VC.ret ?_
      exact Fin.all [] (.inr rfl) (l := [AV.c (Value.bool true)]) (ps := []) (by kernel_rfl) (by kernel_rfl) (.nil) (All.of (l' := []) (by kernel_rfl) (.nil)) (show AV.c (Value.bool true) = AV.c (Value.bool (x == y)) by exact Sp.same_end hj h2 h1 hxy)

end Go.Proofs.YtphemeddfckijaaDoor
