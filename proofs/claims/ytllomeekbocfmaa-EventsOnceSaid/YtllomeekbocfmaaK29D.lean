/-
  A part of the walk: contracts of functions, each proved once.
-/
import Derived.Test.YtllomeekbocfmaaEvRun
import Derived.Test.YtllomeekbocfmaaK29C
namespace Go.Proofs.Ytllomeekbocfmaa
open Go Go.Ev
set_option linter.unusedVariables false
set_option linter.unusedSimpArgs false
set_option maxRecDepth 20000
namespace Sp
def sq (l : List Int) : Int := (l.map fun x => x * x).sum
def lg (p : Int) : Int := (p.toNat.log2 : Int)
def len (p : Int) : Int := if p ≤ 0 then 0 else lg p + 1
def lev (l : List Int) : Int := if sq l < l.length ∨ sq l = 0 then 127 else 3 * (30 - lg (sq l / l.length))
theorem tab_len {j : Int} (h0 : 0 ≤ j) (h1 : j ≤ 255) : Sp.strAt (ByteArray.mk (Array.mk [0, 1, 2, 2, 3, 3, 3, 3, 4, 4, 4, 4, 4, 4, 4, 4, 5, 5, 5, 5, 5, 5, 5, 5, 5, 5, 5, 5, 5, 5, 5, 5, 6, 6, 6, 6, 6, 6, 6, 6, 6, 6, 6, 6, 6, 6, 6, 6, 6, 6, 6, 6, 6, 6, 6, 6, 6, 6, 6, 6, 6, 6, 6, 6, 7, 7, 7, 7, 7, 7, 7, 7, 7, 7, 7, 7, 7, 7, 7, 7, 7, 7, 7, 7, 7, 7, 7, 7, 7, 7, 7, 7, 7, 7, 7, 7, 7, 7, 7, 7, 7, 7, 7, 7, 7, 7, 7, 7, 7, 7, 7, 7, 7, 7, 7, 7, 7, 7, 7, 7, 7, 7, 7, 7, 7, 7, 7, 7, 8, 8, 8, 8, 8, 8, 8, 8, 8, 8, 8, 8, 8, 8, 8, 8, 8, 8, 8, 8, 8, 8, 8, 8, 8, 8, 8, 8, 8, 8, 8, 8, 8, 8, 8, 8, 8, 8, 8, 8, 8, 8, 8, 8, 8, 8, 8, 8, 8, 8, 8, 8, 8, 8, 8, 8, 8, 8, 8, 8, 8, 8, 8, 8, 8, 8, 8, 8, 8, 8, 8, 8, 8, 8, 8, 8, 8, 8, 8, 8, 8, 8, 8, 8, 8, 8, 8, 8, 8, 8, 8, 8, 8, 8, 8, 8, 8, 8, 8, 8, 8, 8, 8, 8, 8, 8, 8, 8, 8, 8, 8, 8, 8, 8, 8, 8, 8, 8, 8, 8, 8, 8, 8, 8, 8, 8, 8, 8])) j = len j := by
  have : ∀ v : Fin 256, Sp.strAt (ByteArray.mk (Array.mk [0, 1, 2, 2, 3, 3, 3, 3, 4, 4, 4, 4, 4, 4, 4, 4, 5, 5, 5, 5, 5, 5, 5, 5, 5, 5, 5, 5, 5, 5, 5, 5, 6, 6, 6, 6, 6, 6, 6, 6, 6, 6, 6, 6, 6, 6, 6, 6, 6, 6, 6, 6, 6, 6, 6, 6, 6, 6, 6, 6, 6, 6, 6, 6, 7, 7, 7, 7, 7, 7, 7, 7, 7, 7, 7, 7, 7, 7, 7, 7, 7, 7, 7, 7, 7, 7, 7, 7, 7, 7, 7, 7, 7, 7, 7, 7, 7, 7, 7, 7, 7, 7, 7, 7, 7, 7, 7, 7, 7, 7, 7, 7, 7, 7, 7, 7, 7, 7, 7, 7, 7, 7, 7, 7, 7, 7, 7, 7, 8, 8, 8, 8, 8, 8, 8, 8, 8, 8, 8, 8, 8, 8, 8, 8, 8, 8, 8, 8, 8, 8, 8, 8, 8, 8, 8, 8, 8, 8, 8, 8, 8, 8, 8, 8, 8, 8, 8, 8, 8, 8, 8, 8, 8, 8, 8, 8, 8, 8, 8, 8, 8, 8, 8, 8, 8, 8, 8, 8, 8, 8, 8, 8, 8, 8, 8, 8, 8, 8, 8, 8, 8, 8, 8, 8, 8, 8, 8, 8, 8, 8, 8, 8, 8, 8, 8, 8, 8, 8, 8, 8, 8, 8, 8, 8, 8, 8, 8, 8, 8, 8, 8, 8, 8, 8, 8, 8, 8, 8, 8, 8, 8, 8, 8, 8, 8, 8, 8, 8, 8, 8, 8, 8, 8, 8, 8, 8])) (v.val : Int) = len (v.val : Int) := by decide +kernel
  have := this ⟨j.toNat, by omega⟩
  simpa [Int.toNat_of_nonneg h0] using this
theorem sh8 {x : Int} (h : 0 ≤ x) : ishr .u64 x 8 = x / 256 := by
  show x.fdiv (2 ^ (min 8 64)) = _
  rw [show ((2 : Int) ^ (min 8 64)) = 256 from rfl, Int.fdiv_eq_ediv_of_nonneg _ (by omega)]
theorem sh16 {x : Int} (h : 0 ≤ x) : ishr .u64 x 16 = x / 65536 := by
  show x.fdiv (2 ^ (min 16 64)) = _
  rw [show ((2 : Int) ^ (min 16 64)) = 65536 from rfl, Int.fdiv_eq_ediv_of_nonneg _ (by omega)]
theorem log2_div (n k : Nat) (h : 2 ^ k ≤ n) : n.log2 = (n / 2 ^ k).log2 + k := by
  have hk : 0 < 2 ^ k := Nat.pow_pos (by omega)
  have h1 : n / 2 ^ k ≠ 0 := by have := Nat.div_pos h hk; omega
  have h0 : n ≠ 0 := by omega
  apply Nat.le_antisymm
  · rw [← Nat.lt_succ_iff, Nat.log2_lt h0]
    have h2 := Nat.lt_log2_self (n := n / 2 ^ k)
    rw [Nat.div_lt_iff_lt_mul hk, ← Nat.pow_add] at h2
    have e : (n / 2 ^ k).log2 + k + 1 = (n / 2 ^ k).log2 + 1 + k := by omega
    rw [Nat.succ_eq_add_one, e]; exact h2
  · rw [Nat.le_log2 h0, Nat.pow_add]
    have h2 := Nat.log2_self_le h1
    calc 2 ^ (n / 2 ^ k).log2 * 2 ^ k ≤ (n / 2 ^ k) * 2 ^ k := Nat.mul_le_mul_right _ h2
      _ ≤ n := Nat.div_mul_le_self n _
theorem len_div {x : Int} (k : Nat) (h : (2 ^ k : Nat) ≤ x) : len x = len (x / (2 ^ k : Nat)) + k := by
  have hk : 0 < 2 ^ k := Nat.pow_pos (by omega)
  obtain ⟨n, rfl⟩ := Int.eq_ofNat_of_zero_le (a := x) (by omega)
  have h' : 2 ^ k ≤ n := by omega
  have h1 := Nat.div_pos h' hk
  have e : ((n : Int) / ((2 ^ k : Nat) : Int)) = ((n / 2 ^ k : Nat) : Int) := rfl
  simp only [len, lg, e, Int.toNat_natCast]
  rw [if_neg (by omega), if_neg (by omega), log2_div n k h']; omega
theorem len_16 {x : Int} (h : 65536 ≤ x) : len x = len (x / 65536) + 16 := len_div 16 h
theorem len_8 {x : Int} (h : 256 ≤ x) : len x = len (x / 256) + 8 := len_div 8 h
theorem len_rng {x : Int} (h : x ≤ 255) : 0 ≤ len x ∧ len x ≤ 8 := by
  simp only [len]
  split
  · omega
  · simp only [lg]
    have h0 : x.toNat ≠ 0 := by omega
    have : x.toNat.log2 < 8 := by rw [Nat.log2_lt h0]; omega
    omega
end Sp
def C3 : Tab where
  own f := false
  run f h a := match f, h, a with
    | 37, [], [.c (.int .u64 x)] => some ([], .c (.int .i64 (Sp.len x)))
    | 16, [], [.ri .i16 l] => some ([], .c (.int .u8 (Sp.lev l)))
    | 17, [], [.ri .i16 l] => some ([], .c (.int .u8 (Sp.lev l)))
    | 12, [], [.a [.c (.bool on), .c (.int .u32 rt), .c (.int .u8 rc), .c (.int .i64 rl), .c (.bool re)], .c (.int .u32 t), .a [.c (.int .u8 c), .c (.bool e), .c (.int .u8 v), .c (.int .u16 d)]] => some ([], .t [.a (aR (Sp.hear ⟨on, rt, rc, rl, re⟩ t ⟨c, e, v, d⟩)), .rr 4 ((Sp.hearK ⟨on, rt, rc, rl, re⟩ t ⟨c, e, v, d⟩).map aK)])
    | 13, [], [.a [.c (.bool on), .c (.int .u32 rt), .c (.int .u8 rc), .c (.int .i64 rl), .c (.bool re)], .c (.int .u32 t), .a [.c (.int .u8 c), .c (.bool e), .c (.int .u8 v), .c (.int .u16 d)]] => some ([], .t [.a (aR (Sp.hear ⟨on, rt, rc, rl, re⟩ t ⟨c, e, v, d⟩)), .rr 4 ((Sp.hearK ⟨on, rt, rc, rl, re⟩ t ⟨c, e, v, d⟩).map aK)])
    | f, h, a => C0.run f h a
theorem con_Len64 (x : Int) (hx : 0 ≤ x ∧ x ≤ 4294967295) : Con Try.prog L0 37 [] [.c (.int .u64 x)] [] (.c (.int .i64 (Sp.len x))) := by
  refine con_of_run C0 (.t (.t (.b (decide (4294967296 ≤ x)) .no (.t (.b (decide (65536 ≤ x)) (.p ((0 : Int) ≤ (16 : Int)) (.i 0 (ishr .u64 x 16) (x / 65536) (.t (.t (.b (decide (256 ≤ x / 65536)) (.p ((0 : Int) ≤ (8 : Int)) (.i 0 (ishr .u64 (x / 65536) 8) (x / 65536 / 256) (.p (0 ≤ IntKind.wrap .u8 (x / 65536 / 256)) (.p (IntKind.wrap .u8 (x / 65536 / 256) < 256) (.i 2 (IntKind.wrap .i64 (24 + IntKind.wrap .i64 (Sp.strAt (ByteArray.mk (Array.mk [0, 1, 2, 2, 3, 3, 3, 3, 4, 4, 4, 4, 4, 4, 4, 4, 5, 5, 5, 5, 5, 5, 5, 5, 5, 5, 5, 5, 5, 5, 5, 5, 6, 6, 6, 6, 6, 6, 6, 6, 6, 6, 6, 6, 6, 6, 6, 6, 6, 6, 6, 6, 6, 6, 6, 6, 6, 6, 6, 6, 6, 6, 6, 6, 7, 7, 7, 7, 7, 7, 7, 7, 7, 7, 7, 7, 7, 7, 7, 7, 7, 7, 7, 7, 7, 7, 7, 7, 7, 7, 7, 7, 7, 7, 7, 7, 7, 7, 7, 7, 7, 7, 7, 7, 7, 7, 7, 7, 7, 7, 7, 7, 7, 7, 7, 7, 7, 7, 7, 7, 7, 7, 7, 7, 7, 7, 7, 7, 8, 8, 8, 8, 8, 8, 8, 8, 8, 8, 8, 8, 8, 8, 8, 8, 8, 8, 8, 8, 8, 8, 8, 8, 8, 8, 8, 8, 8, 8, 8, 8, 8, 8, 8, 8, 8, 8, 8, 8, 8, 8, 8, 8, 8, 8, 8, 8, 8, 8, 8, 8, 8, 8, 8, 8, 8, 8, 8, 8, 8, 8, 8, 8, 8, 8, 8, 8, 8, 8, 8, 8, 8, 8, 8, 8, 8, 8, 8, 8, 8, 8, 8, 8, 8, 8, 8, 8, 8, 8, 8, 8, 8, 8, 8, 8, 8, 8, 8, 8, 8, 8, 8, 8, 8, 8, 8, 8, 8, 8, 8, 8, 8, 8, 8, 8, 8, 8, 8, 8, 8, 8, 8, 8, 8, 8, 8, 8])) (IntKind.wrap .u8 (x / 65536 / 256))))) (IntKind.wrap .i64 (24 + IntKind.wrap .i64 (Sp.len (x / 65536 / 256)))) (.r (.c (.int .i64 (IntKind.wrap .i64 (24 + IntKind.wrap .i64 (Sp.len (x / 65536 / 256)))))))))))) (.p (0 ≤ IntKind.wrap .u8 (x / 65536)) (.p (IntKind.wrap .u8 (x / 65536) < 256) (.i 2 (IntKind.wrap .i64 (16 + IntKind.wrap .i64 (Sp.strAt (ByteArray.mk (Array.mk [0, 1, 2, 2, 3, 3, 3, 3, 4, 4, 4, 4, 4, 4, 4, 4, 5, 5, 5, 5, 5, 5, 5, 5, 5, 5, 5, 5, 5, 5, 5, 5, 6, 6, 6, 6, 6, 6, 6, 6, 6, 6, 6, 6, 6, 6, 6, 6, 6, 6, 6, 6, 6, 6, 6, 6, 6, 6, 6, 6, 6, 6, 6, 6, 7, 7, 7, 7, 7, 7, 7, 7, 7, 7, 7, 7, 7, 7, 7, 7, 7, 7, 7, 7, 7, 7, 7, 7, 7, 7, 7, 7, 7, 7, 7, 7, 7, 7, 7, 7, 7, 7, 7, 7, 7, 7, 7, 7, 7, 7, 7, 7, 7, 7, 7, 7, 7, 7, 7, 7, 7, 7, 7, 7, 7, 7, 7, 7, 8, 8, 8, 8, 8, 8, 8, 8, 8, 8, 8, 8, 8, 8, 8, 8, 8, 8, 8, 8, 8, 8, 8, 8, 8, 8, 8, 8, 8, 8, 8, 8, 8, 8, 8, 8, 8, 8, 8, 8, 8, 8, 8, 8, 8, 8, 8, 8, 8, 8, 8, 8, 8, 8, 8, 8, 8, 8, 8, 8, 8, 8, 8, 8, 8, 8, 8, 8, 8, 8, 8, 8, 8, 8, 8, 8, 8, 8, 8, 8, 8, 8, 8, 8, 8, 8, 8, 8, 8, 8, 8, 8, 8, 8, 8, 8, 8, 8, 8, 8, 8, 8, 8, 8, 8, 8, 8, 8, 8, 8, 8, 8, 8, 8, 8, 8, 8, 8, 8, 8, 8, 8, 8, 8, 8, 8, 8, 8])) (IntKind.wrap .u8 (x / 65536))))) (IntKind.wrap .i64 (16 + IntKind.wrap .i64 (Sp.len (x / 65536)))) (.r (.c (.int .i64 (IntKind.wrap .i64 (16 + IntKind.wrap .i64 (Sp.len (x / 65536))))))))))))))) (.t (.b (decide (256 ≤ x)) (.p ((0 : Int) ≤ (8 : Int)) (.i 0 (ishr .u64 x 8) (x / 256) (.p (0 ≤ IntKind.wrap .u8 (x / 256)) (.p (IntKind.wrap .u8 (x / 256) < 256) (.i 2 (IntKind.wrap .i64 (8 + IntKind.wrap .i64 (Sp.strAt (ByteArray.mk (Array.mk [0, 1, 2, 2, 3, 3, 3, 3, 4, 4, 4, 4, 4, 4, 4, 4, 5, 5, 5, 5, 5, 5, 5, 5, 5, 5, 5, 5, 5, 5, 5, 5, 6, 6, 6, 6, 6, 6, 6, 6, 6, 6, 6, 6, 6, 6, 6, 6, 6, 6, 6, 6, 6, 6, 6, 6, 6, 6, 6, 6, 6, 6, 6, 6, 7, 7, 7, 7, 7, 7, 7, 7, 7, 7, 7, 7, 7, 7, 7, 7, 7, 7, 7, 7, 7, 7, 7, 7, 7, 7, 7, 7, 7, 7, 7, 7, 7, 7, 7, 7, 7, 7, 7, 7, 7, 7, 7, 7, 7, 7, 7, 7, 7, 7, 7, 7, 7, 7, 7, 7, 7, 7, 7, 7, 7, 7, 7, 7, 8, 8, 8, 8, 8, 8, 8, 8, 8, 8, 8, 8, 8, 8, 8, 8, 8, 8, 8, 8, 8, 8, 8, 8, 8, 8, 8, 8, 8, 8, 8, 8, 8, 8, 8, 8, 8, 8, 8, 8, 8, 8, 8, 8, 8, 8, 8, 8, 8, 8, 8, 8, 8, 8, 8, 8, 8, 8, 8, 8, 8, 8, 8, 8, 8, 8, 8, 8, 8, 8, 8, 8, 8, 8, 8, 8, 8, 8, 8, 8, 8, 8, 8, 8, 8, 8, 8, 8, 8, 8, 8, 8, 8, 8, 8, 8, 8, 8, 8, 8, 8, 8, 8, 8, 8, 8, 8, 8, 8, 8, 8, 8, 8, 8, 8, 8, 8, 8, 8, 8, 8, 8, 8, 8, 8, 8, 8, 8])) (IntKind.wrap .u8 (x / 256))))) (IntKind.wrap .i64 (8 + IntKind.wrap .i64 (Sp.len (x / 256)))) (.r (.c (.int .i64 (IntKind.wrap .i64 (8 + IntKind.wrap .i64 (Sp.len (x / 256)))))))))))) (.p (0 ≤ IntKind.wrap .u8 x) (.p (IntKind.wrap .u8 x < 256) (.i 2 (IntKind.wrap .i64 (0 + IntKind.wrap .i64 (Sp.strAt (ByteArray.mk (Array.mk [0, 1, 2, 2, 3, 3, 3, 3, 4, 4, 4, 4, 4, 4, 4, 4, 5, 5, 5, 5, 5, 5, 5, 5, 5, 5, 5, 5, 5, 5, 5, 5, 6, 6, 6, 6, 6, 6, 6, 6, 6, 6, 6, 6, 6, 6, 6, 6, 6, 6, 6, 6, 6, 6, 6, 6, 6, 6, 6, 6, 6, 6, 6, 6, 7, 7, 7, 7, 7, 7, 7, 7, 7, 7, 7, 7, 7, 7, 7, 7, 7, 7, 7, 7, 7, 7, 7, 7, 7, 7, 7, 7, 7, 7, 7, 7, 7, 7, 7, 7, 7, 7, 7, 7, 7, 7, 7, 7, 7, 7, 7, 7, 7, 7, 7, 7, 7, 7, 7, 7, 7, 7, 7, 7, 7, 7, 7, 7, 8, 8, 8, 8, 8, 8, 8, 8, 8, 8, 8, 8, 8, 8, 8, 8, 8, 8, 8, 8, 8, 8, 8, 8, 8, 8, 8, 8, 8, 8, 8, 8, 8, 8, 8, 8, 8, 8, 8, 8, 8, 8, 8, 8, 8, 8, 8, 8, 8, 8, 8, 8, 8, 8, 8, 8, 8, 8, 8, 8, 8, 8, 8, 8, 8, 8, 8, 8, 8, 8, 8, 8, 8, 8, 8, 8, 8, 8, 8, 8, 8, 8, 8, 8, 8, 8, 8, 8, 8, 8, 8, 8, 8, 8, 8, 8, 8, 8, 8, 8, 8, 8, 8, 8, 8, 8, 8, 8, 8, 8, 8, 8, 8, 8, 8, 8, 8, 8, 8, 8, 8, 8, 8, 8, 8, 8, 8, 8])) (IntKind.wrap .u8 x)))) (IntKind.wrap .i64 (IntKind.wrap .i64 (Sp.len x))) (.r (.c (.int .i64 (IntKind.wrap .i64 (IntKind.wrap .i64 (Sp.len x)))))))))))))))) E_ok mixed Try.func37 rfl Try.call37 (Nat.le_of_ble_eq_true rfl) (by kernel_rfl) ?_
  refine .t (.t (.b (fun h1 => ?_) (fun h1 => ?_)))
  · simp [-List.getD_eq_getElem?_getD] at h1
    (exfalso; omega)
  · simp [-List.getD_eq_getElem?_getD] at h1
    refine .t (.b (fun h2 => ?_) (fun h2 => ?_))
    · simp [-List.getD_eq_getElem?_getD] at h2
      refine .p (.i (by simp (disch := omega) only [Sp.sh16]) (.t (.t (.b (fun h3 => ?_) (fun h3 => ?_)))))
      · simp [-List.getD_eq_getElem?_getD] at h3
        exact .p (.i (by simp (disch := omega) only [Sp.sh8]) (.q (by simp (disch := omega) only [wrap_i8, wrap_i16, wrap_i32, wrap_i64, wrap_u8, wrap_u16, wrap_u32, wrap_u64, Int.tdiv_eq_ediv_of_nonneg, Int.tmod_eq_emod_of_nonneg, Int.toNat_natCast, Int.reduceToNat, Nat.mul_one, Nat.zero_add, Nat.add_zero, Nat.one_mul, Int.one_mul, Int.zero_add, Int.add_zero, Int.mul_one, List.drop_zero, List.take_length, Int.zero_sub, List.length_map, List.length_set, Sp.sh8, Sp.sh16, Sp.tab_len]; omega) (.q (by simp (disch := omega) only [wrap_i8, wrap_i16, wrap_i32, wrap_i64, wrap_u8, wrap_u16, wrap_u32, wrap_u64, Int.tdiv_eq_ediv_of_nonneg, Int.tmod_eq_emod_of_nonneg, Int.toNat_natCast, Int.reduceToNat, Nat.mul_one, Nat.zero_add, Nat.add_zero, Nat.one_mul, Int.one_mul, Int.zero_add, Int.add_zero, Int.mul_one, List.drop_zero, List.take_length, Int.zero_sub, List.length_map, List.length_set, Sp.sh8, Sp.sh16, Sp.tab_len]; omega) (.i (by simp (disch := omega) only [wrap_u8, Sp.tab_len]) (.r (by rw [Sp.len_16 h2, Sp.len_8 (x := x / 65536) (by omega)]; have := Sp.len_rng (x := x / 65536 / 256) (by omega); simp (disch := omega) only [wrap_i64]; congr 2; omega))))))
      · simp [-List.getD_eq_getElem?_getD] at h3
        exact .q (by simp (disch := omega) only [wrap_i8, wrap_i16, wrap_i32, wrap_i64, wrap_u8, wrap_u16, wrap_u32, wrap_u64, Int.tdiv_eq_ediv_of_nonneg, Int.tmod_eq_emod_of_nonneg, Int.toNat_natCast, Int.reduceToNat, Nat.mul_one, Nat.zero_add, Nat.add_zero, Nat.one_mul, Int.one_mul, Int.zero_add, Int.add_zero, Int.mul_one, List.drop_zero, List.take_length, Int.zero_sub, List.length_map, List.length_set, Sp.sh8, Sp.sh16, Sp.tab_len]; omega) (.q (by simp (disch := omega) only [wrap_i8, wrap_i16, wrap_i32, wrap_i64, wrap_u8, wrap_u16, wrap_u32, wrap_u64, Int.tdiv_eq_ediv_of_nonneg, Int.tmod_eq_emod_of_nonneg, Int.toNat_natCast, Int.reduceToNat, Nat.mul_one, Nat.zero_add, Nat.add_zero, Nat.one_mul, Int.one_mul, Int.zero_add, Int.add_zero, Int.mul_one, List.drop_zero, List.take_length, Int.zero_sub, List.length_map, List.length_set, Sp.sh8, Sp.sh16, Sp.tab_len]; omega) (.i (by simp (disch := omega) only [wrap_u8, Sp.tab_len]) (.r (by rw [Sp.len_16 h2]; have := Sp.len_rng (x := x / 65536) (by omega); simp (disch := omega) only [wrap_i64]; congr 2; omega))))
    · simp [-List.getD_eq_getElem?_getD] at h2
      refine .t (.b (fun h4 => ?_) (fun h4 => ?_))
      · simp [-List.getD_eq_getElem?_getD] at h4
        exact .p (.i (by simp (disch := omega) only [Sp.sh8]) (.q (by simp (disch := omega) only [wrap_i8, wrap_i16, wrap_i32, wrap_i64, wrap_u8, wrap_u16, wrap_u32, wrap_u64, Int.tdiv_eq_ediv_of_nonneg, Int.tmod_eq_emod_of_nonneg, Int.toNat_natCast, Int.reduceToNat, Nat.mul_one, Nat.zero_add, Nat.add_zero, Nat.one_mul, Int.one_mul, Int.zero_add, Int.add_zero, Int.mul_one, List.drop_zero, List.take_length, Int.zero_sub, List.length_map, List.length_set, Sp.sh8, Sp.sh16, Sp.tab_len]; omega) (.q (by simp (disch := omega) only [wrap_i8, wrap_i16, wrap_i32, wrap_i64, wrap_u8, wrap_u16, wrap_u32, wrap_u64, Int.tdiv_eq_ediv_of_nonneg, Int.tmod_eq_emod_of_nonneg, Int.toNat_natCast, Int.reduceToNat, Nat.mul_one, Nat.zero_add, Nat.add_zero, Nat.one_mul, Int.one_mul, Int.zero_add, Int.add_zero, Int.mul_one, List.drop_zero, List.take_length, Int.zero_sub, List.length_map, List.length_set, Sp.sh8, Sp.sh16, Sp.tab_len]; omega) (.i (by simp (disch := omega) only [wrap_u8, Sp.tab_len]) (.r (by rw [Sp.len_8 (x := x) (by omega)]; have := Sp.len_rng (x := x / 256) (by omega); simp (disch := omega) only [wrap_i64]; congr 2; omega))))))
      · simp [-List.getD_eq_getElem?_getD] at h4
        exact .q (by simp (disch := omega) only [wrap_i8, wrap_i16, wrap_i32, wrap_i64, wrap_u8, wrap_u16, wrap_u32, wrap_u64, Int.tdiv_eq_ediv_of_nonneg, Int.tmod_eq_emod_of_nonneg, Int.toNat_natCast, Int.reduceToNat, Nat.mul_one, Nat.zero_add, Nat.add_zero, Nat.one_mul, Int.one_mul, Int.zero_add, Int.add_zero, Int.mul_one, List.drop_zero, List.take_length, Int.zero_sub, List.length_map, List.length_set, Sp.sh8, Sp.sh16, Sp.tab_len]; omega) (.q (by simp (disch := omega) only [wrap_i8, wrap_i16, wrap_i32, wrap_i64, wrap_u8, wrap_u16, wrap_u32, wrap_u64, Int.tdiv_eq_ediv_of_nonneg, Int.tmod_eq_emod_of_nonneg, Int.toNat_natCast, Int.reduceToNat, Nat.mul_one, Nat.zero_add, Nat.add_zero, Nat.one_mul, Int.one_mul, Int.zero_add, Int.add_zero, Int.mul_one, List.drop_zero, List.take_length, Int.zero_sub, List.length_map, List.length_set, Sp.sh8, Sp.sh16, Sp.tab_len]; omega) (.i (by simp (disch := omega) only [wrap_u8, Sp.tab_len, Int.zero_add]) (.r (by have := Sp.len_rng (x := x) (by omega); simp (disch := omega) only [wrap_i64]))))
namespace Sp
theorem sq_take {l : List Int} {j : Nat} (h : j < l.length) : sq (l.take (j + 1)) = sq (l.take j) + l.getD j 0 * l.getD j 0 := by
  rw [take_succ_getD (d := 0) h]; simp [sq]
theorem sq_rng : ∀ {l : List Int}, (∀ x ∈ l, -32768 ≤ x ∧ x ≤ 32767) → 0 ≤ sq l ∧ sq l ≤ 1073741824 * l.length
  | [], _ => by simp [sq]
  | x :: l, h => by
    have h1 := h x (by simp)
    have h2 := sq_rng (l := l) fun y hy => h y (by simp [hy])
    have h3 : 0 ≤ x * x ∧ x * x ≤ 1073741824 := by
      have : 0 ≤ x * x := by
        rcases Int.le_total 0 x with h | h
        · exact Int.mul_nonneg h h
        · have := Int.mul_nonneg (a := -x) (b := -x) (by omega) (by omega)
          rwa [Int.neg_mul_neg] at this
      refine ⟨this, ?_⟩
      have := Int.mul_nonneg (a := 32768 - x) (b := 32768 + x) (by omega) (by omega)
      have e : (32768 - x) * (32768 + x) = 1073741824 - x * x := by rw [Int.sub_mul, Int.mul_add, Int.mul_add, Int.mul_comm x 32768]; omega
      omega
    have e : sq (x :: l) = x * x + sq l := by simp [sq]
    rw [e]; simp only [List.length_cons]; omega
theorem sq_rng_take {l : List Int} (h : ∀ x ∈ l, -32768 ≤ x ∧ x ≤ 32767) (j : Nat) (hj : j ≤ l.length) : 0 ≤ sq (l.take j) ∧ sq (l.take j) ≤ 1073741824 * j := by
  have := sq_rng (l := l.take j) fun x hx => h x (List.mem_of_mem_take hx)
  rw [List.length_take, Nat.min_eq_left hj] at this; exact this
theorem sq_one {x : Int} (h1 : -32768 ≤ x ∧ x ≤ 32767) : 0 ≤ x * x ∧ x * x ≤ 1073741824 := by
  have := sq_rng (l := [x]) (by simpa using h1)
  simpa [sq] using this
theorem div_rng {s n : Int} (h : 0 ≤ s ∧ s ≤ 1073741824 * n) (hn : 0 < n) : 0 ≤ s / n ∧ s / n ≤ 1073741824 := by
  refine ⟨Int.ediv_nonneg h.1 (by omega), ?_⟩
  have := Int.ediv_le_ediv hn h.2
  rwa [Int.mul_ediv_cancel _ (by omega)] at this
theorem lg_rng {p : Int} (h : 1 ≤ p ∧ p ≤ 1073741824) : 0 ≤ lg p ∧ lg p ≤ 30 := by
  simp only [lg]
  have h0 : p.toNat ≠ 0 := by omega
  have : p.toNat.log2 < 31 := by rw [Nat.log2_lt h0]; omega
  omega
theorem lev_127 {l : List Int} (h : sq l < l.length ∨ sq l = 0) : lev l = 127 := by simp only [lev]; rw [if_pos h]
theorem lev_p {l : List Int} (hl : ∀ x ∈ l, -32768 ≤ x ∧ x ≤ 32767) (h : (l.length : Int) ≤ sq l ∧ ¬ sq l = 0) : lev l = 3 * (30 - lg (sq l / l.length)) ∧ 1 ≤ sq l / l.length ∧ sq l / l.length ≤ 1073741824 ∧ 0 < l.length := by
  have hn : 0 < l.length := by
    rcases l with _ | ⟨a, b⟩
    · simp [sq] at h
    · simp
  have h1 := div_rng (sq_rng hl) (by omega : (0 : Int) < (l.length : Int))
  refine ⟨by simp only [lev]; rw [if_neg (by omega)], ?_, h1.2, hn⟩
  exact (Int.le_ediv_iff_mul_le (by omega)).2 (by omega)
theorem len_pos {p : Int} (h : 1 ≤ p) : len p = lg p + 1 := by simp only [len]; rw [if_neg (by omega)]
theorem lg_half {p : Int} (h : 2 ≤ p) : lg p = lg (p / 2) + 1 := by
  have h1 := len_div (x := p) 1 (by omega)
  have e : (p / ((2 ^ 1 : Nat) : Int)) = p / 2 := rfl
  rw [e, len_pos (by omega), len_pos (by omega)] at h1; omega
theorem lg_nn (p : Int) : 0 ≤ lg p := by simp only [lg]; omega
theorem lg_1 {p : Int} (h : 1 ≤ p) (h2 : p < 2) : lg p = 0 := by
  have : p = 1 := by omega
  subst this; rfl
end Sp
namespace Sp
theorem sq_step {l : List Int} (hl : ∀ x ∈ l, -32768 ≤ x ∧ x ≤ 32767) (hn : l.length ≤ 100000) {j : Nat} (h : j < l.length) : IntKind.i64.wrap (sq (l.take j) + IntKind.i64.wrap (IntKind.i64.wrap (l.getD j 0) * IntKind.i64.wrap (l.getD j 0))) = sq (l.take (j + 1)) := by
  have h1 := sq_rng_take hl j (by omega)
  have h2 := getD_in hl (by omega) (d := 0) j
  have h3 := sq_one h2
  rw [sq_take h, wrap_i64 (x := l.getD j 0) (by omega) (by omega), wrap_i64 (x := l.getD j 0 * l.getD j 0) (by omega) (by omega), wrap_i64 (by omega) (by omega)]
theorem lev_arg {l : List Int} (hl : ∀ x ∈ l, -32768 ≤ x ∧ x ≤ 32767) (h : (l.length : Int) ≤ sq l ∧ ¬ sq l = 0) : IntKind.u64.wrap (IntKind.i64.wrap (Int.tdiv (sq l) l.length)) = sq l / l.length := by
  obtain ⟨_, h1, h2, h3⟩ := lev_p hl h
  rw [Int.tdiv_eq_ediv_of_nonneg (by omega), wrap_i64 (by omega) (by omega), wrap_u64 (by omega) (by omega)]
theorem lev_arg2 {l : List Int} (hl : ∀ x ∈ l, -32768 ≤ x ∧ x ≤ 32767) (h : (l.length : Int) ≤ sq l ∧ ¬ sq l = 0) : IntKind.u64.wrap (IntKind.i64.wrap (sq l / l.length)) = sq l / l.length := by
  obtain ⟨_, h1, h2, h3⟩ := lev_p hl h
  rw [wrap_i64 (by omega) (by omega), wrap_u64 (by omega) (by omega)]
theorem q_wrap {l : List Int} (hl : ∀ x ∈ l, -32768 ≤ x ∧ x ≤ 32767) (h : 0 < (l.length : Int)) : IntKind.i64.wrap (Int.tdiv (sq l) l.length) = sq l / l.length ∧ 0 ≤ sq l / l.length ∧ sq l / l.length ≤ 1073741824 := by
  have h0 := sq_rng hl
  have h1 := div_rng h0 h
  rw [Int.tdiv_eq_ediv_of_nonneg (by omega)]
  exact ⟨wrap_i64 (by omega) (by omega), h1⟩
theorem q_0 {l : List Int} (h : 0 < (l.length : Int)) (h1 : 0 ≤ sq l) (h2 : sq l / l.length = 0) : sq l < l.length := by
  have := Int.emod_lt_of_pos (sq l) h
  have h3 := Int.mul_ediv_add_emod (sq l) l.length
  rw [h2] at h3; omega
theorem q_1 {l : List Int} (h : 0 < (l.length : Int)) (h2 : ¬ sq l / l.length = 0) (h3 : 0 ≤ sq l) : (l.length : Int) ≤ sq l ∧ ¬ sq l = 0 := by
  rcases Int.lt_or_le (sq l) l.length with h1 | h1
  · exact absurd (Int.ediv_eq_zero_of_lt h3 h1) h2
  · exact ⟨h1, by omega⟩
theorem lev_fin {l : List Int} (hl : ∀ x ∈ l, -32768 ≤ x ∧ x ≤ 32767) (h : (l.length : Int) ≤ sq l ∧ ¬ sq l = 0) : IntKind.u8.wrap (IntKind.i64.wrap (3 * IntKind.i64.wrap (31 - len (sq l / l.length)))) = lev l := by
  obtain ⟨h0, h1, h2, h3⟩ := lev_p hl h
  have h4 := lg_rng ⟨h1, h2⟩
  rw [len_pos h1, wrap_i64 (x := 31 - _) (by omega) (by omega), wrap_i64 (by omega) (by omega), wrap_u8 (by omega) (by omega), h0]; omega
end Sp
theorem con_Level (l : List Int) (hl : ∀ x ∈ l, -32768 ≤ x ∧ x ≤ 32767) (hn : l.length ≤ 100000) : Con Try.prog L0 16 [] [.ri .i16 l] [] (.c (.int .u8 (Sp.lev l))) := by
  refine con_of_run C3 (.t (.t (.t (.k [0, 2, 3, 6, 7] (.l (cA Try.f16 [1, 1, 0, 1, 0]) (fA Try.f16 [1, 1, 0, 1, 0]) (.mk [(0, .ri .i16 l), (2, .c (.int .u8 0)), (3, .c (.int .i64 0)), (6, .c (.int .i64 (↑l.length : Int))), (7, .c (.int .i64 0))] [])))))) E_ok mixed Try.func16 rfl Try.call16 (Nat.le_of_ble_eq_true rfl) (by kernel_rfl) ?_
  refine .t (.t (.t (.k (.l (VC.loopA (Y := {j : Nat // j ≤ l.length}) (fun j => ⟨[(0, .ri .i16 l), (2, .c (.int .u8 0)), (3, .c (.int .i64 (Sp.sq (l.take j.1)))), (6, .c (.int .i64 (l.length : Nat))), (7, .c (.int .i64 (j.1 : Nat)))], []⟩) (fun j => (l.length - j.1)) ⟨0, by omega⟩ (body := cA Try.f16 [1, 1, 0, 1, 0, 0]) (by kernel_rfl) (.mapR [] [] (by kernel_rfl) (by kernel_rfl) (by kernel_rfl)) ?_)))))
  intro ⟨j, hj⟩
  refine VC.run 1 C3 (.t (.b (decide ((↑j : Int) < (↑l.length : Int))) (.p (0 ≤ (↑j : Int)) (.p ((↑j : Int) < (↑l.length : Int)) (.p ((↑j : Int).toNat * 1 < l.length) (.p (0 ≤ (↑j : Int)) (.p ((↑j : Int) < (↑l.length : Int)) (.p ((↑j : Int).toNat * 1 < l.length) (.i 3 (IntKind.wrap .i64 (Sp.sq (List.take j l) + IntKind.wrap .i64 (IntKind.wrap .i64 (List.getD l (Int.toNat (↑j : Int) * 1) 0) * IntKind.wrap .i64 (List.getD l (Int.toNat (↑j : Int) * 1) 0)))) (IntKind.wrap .i64 (Sp.sq (List.take j l) + IntKind.wrap .i64 (IntKind.wrap .i64 (List.getD l j 0) * IntKind.wrap .i64 (List.getD l j 0)))) (.t (.i 7 (IntKind.wrap .i64 ((↑j : Int) + 1)) ((↑j : Int) + 1) (.i 3 (IntKind.wrap .i64 (Sp.sq (List.take j l) + IntKind.wrap .i64 (IntKind.wrap .i64 (List.getD l j 0) * IntKind.wrap .i64 (List.getD l j 0)))) (Sp.sq (List.take (j + 1) l)) (.k [0, 2, 3, 6, 7] (.e .normal (.mk [(0, .ri .i16 l), (2, .c (.int .u8 0)), (3, .c (.int .i64 (Sp.sq (List.take (j + 1) l)))), (6, .c (.int .i64 (↑l.length : Int))), (7, .c (.int .i64 ((↑j : Int) + 1)))] []))))))))))))) (.k [0, 2, 3] (.e (.exit 0) (.mk [(0, .ri .i16 l), (2, .c (.int .u8 0)), (3, .c (.int .i64 (Sp.sq (List.take j l))))] []))))) E_ok mixed (by kernel_rfl) ?_
  refine .t (.b (fun h1 => ?_) (fun h1 => ?_))
  · simp [-List.getD_eq_getElem?_getD] at h1
    exact .o (.o (.o (.o (.o (.o (.i' (.t (.i' (.i (by rw [Sp.sq_step hl hn h1]) (.k (.e (.next (⟨j + 1, by omega⟩) (by dsimp only; omega) (.mapR [] [] (by kernel_rfl) (by kernel_rfl) (by kernel_rfl))))))))))))))
  · simp [-List.getD_eq_getElem?_getD] at h1
    refine .k (.e (.out ?_))
    refine KE.run 2 C3 (.p ((!decide (Sp.sq (List.take j l) < (↑l.length : Int))) = true → (!decide (Sp.sq (List.take j l) < (↑l.length : Int))) = true ∧ True) (.p (decide (Sp.sq (List.take j l) < (↑l.length : Int)) = true → True) (.p (decide (Sp.sq (List.take j l) < (↑l.length : Int)) = false → (!decide (Sp.sq (List.take j l) < (↑l.length : Int))) = true ∧ True) (.b (if decide (Sp.sq (List.take j l) < (↑l.length : Int)) = true then true else Sp.sq (List.take j l) == 0) (.r (.c (.int .u8 127))) (.p ((↑l.length : Int) ≠ 0) (.p (Con Try.prog L0 37 [] [.c (.int .u64 (IntKind.wrap .u64 (IntKind.wrap .i64 (Int.tdiv (Sp.sq (List.take j l)) (↑(List.length l) : Int)))))] [] (.c (.int .i64 (Sp.len (IntKind.wrap .u64 (IntKind.wrap .i64 (Int.tdiv (Sp.sq (List.take j l)) (↑(List.length l) : Int)))))))) (.p (true = true ∨ True ∧ ∀ (o : HObj), o ∈ [] → o.nr) (.i 2 (IntKind.wrap .u8 (IntKind.wrap .i64 (3 * IntKind.wrap .i64 (31 - Sp.len (IntKind.wrap .u64 (IntKind.wrap .i64 (Int.tdiv (Sp.sq (List.take j l)) (↑(List.length l) : Int)))))))) (IntKind.wrap .u8 (IntKind.wrap .i64 (3 * IntKind.wrap .i64 (31 - Sp.len (IntKind.wrap .u64 (IntKind.wrap .i64 (Sp.sq l / (↑(List.length l) : Int)))))))) (.r (.c (.int .u8 (IntKind.wrap .u8 (IntKind.wrap .i64 (3 * IntKind.wrap .i64 (31 - Sp.len (IntKind.wrap .u64 (IntKind.wrap .i64 (Sp.sq l / (↑(List.length l) : Int))))))))))))))))))) E_ok mixed (by kernel_rfl) ?_
    refine .h (.h (.h (.b (fun h2 => ?_) (fun h2 => ?_))))
    · simp (disch := omega) only [take_end hj h1] at h2
      simp [-List.getD_eq_getElem?_getD] at h2
      exact .r (by rw [Sp.lev_127 h2])
    · simp (disch := omega) only [take_end hj h1] at h2
      simp [-List.getD_eq_getElem?_getD] at h2
      exact .q (by have := Sp.lev_p hl h2; omega) (.q (by rw [take_end hj h1, Sp.lev_arg hl h2]; exact con_Len64 _ (by have := Sp.lev_p hl h2; omega)) (.q (by simp) (.i (by simp (disch := omega) only [take_end hj h1, Int.tdiv_eq_ediv_of_nonneg]) (.r (by rw [Sp.lev_arg2 hl h2, Sp.lev_fin hl h2])))))
theorem con_rLevel (l : List Int) (hl : ∀ x ∈ l, -32768 ≤ x ∧ x ≤ 32767) (hn : l.length ≤ 100000) : Con Try.prog L0 17 [] [.ri .i16 l] [] (.c (.int .u8 (Sp.lev l))) := by
  have hsq := Sp.sq_rng hl
  by_cases h0 : l = []
  · subst h0
    refine con_of_run C3 (.r (.c (.int .u8 127))) E_ok mixed Try.func17 rfl Try.call17 (Nat.le_of_ble_eq_true rfl) (by kernel_rfl) ?_
    exact .r rfl
  · have h00 : 0 < (l.length : Int) := by have := List.length_pos_iff.2 h0; omega
    have hq := Sp.q_wrap hl h00
    have hlg : ¬ Sp.sq l / l.length = 0 → 0 ≤ Sp.lg (Sp.sq l / l.length) ∧ Sp.lg (Sp.sq l / l.length) ≤ 30 := fun h => Sp.lg_rng (by omega)
    refine con_of_run C3 (.t (.t (.b ((↑l.length : Int) == 0) .no (.t (.t (.k [0, 2, 3, 4] (.l (cA Try.f17 [1, 1, 1, 0, 1, 0]) (fA Try.f17 [1, 1, 1, 0, 1, 0]) (.mk [(0, .ri .i16 l), (2, .c (.int .u8 0)), (3, .c (.int .i64 0)), (4, .c (.int .i64 0))] [])))))))) E_ok mixed Try.func17 rfl Try.call17 (Nat.le_of_ble_eq_true rfl) (by kernel_rfl) ?_
    refine .t (.t (.b (fun h1 => ?_) (fun h1 => ?_)))
    · simp [-List.getD_eq_getElem?_getD] at h1
      (exfalso; simp_all; done)
    · simp [-List.getD_eq_getElem?_getD] at h1
      refine .t (.t (.k (.l (VC.loopA (Y := {j : Nat // j ≤ l.length}) (fun j => ⟨[(0, .ri .i16 l), (2, .c (.int .u8 0)), (3, .c (.int .i64 (Sp.sq (l.take j.1)))), (4, .c (.int .i64 (j.1 : Nat)))], []⟩) (fun j => (l.length - j.1)) ⟨0, by omega⟩ (body := cA Try.f17 [1, 1, 1, 0, 1, 0, 0]) (by kernel_rfl) (.mapR [] [] (by kernel_rfl) (by kernel_rfl) (by kernel_rfl)) ?_))))
      intro ⟨j, hj⟩
      refine VC.run 1 C3 (.t (.b (decide ((↑j : Int) < (↑l.length : Int))) (.p (0 ≤ (↑j : Int)) (.p ((↑j : Int) < (↑l.length : Int)) (.p ((↑j : Int).toNat * 1 < l.length) (.p (0 ≤ (↑j : Int)) (.p ((↑j : Int) < (↑l.length : Int)) (.p ((↑j : Int).toNat * 1 < l.length) (.i 3 (IntKind.wrap .i64 (Sp.sq (List.take j l) + IntKind.wrap .i64 (IntKind.wrap .i64 (List.getD l (Int.toNat (↑j : Int) * 1) 0) * IntKind.wrap .i64 (List.getD l (Int.toNat (↑j : Int) * 1) 0)))) (IntKind.wrap .i64 (Sp.sq (List.take j l) + IntKind.wrap .i64 (IntKind.wrap .i64 (List.getD l j 0) * IntKind.wrap .i64 (List.getD l j 0)))) (.t (.i 4 (IntKind.wrap .i64 ((↑j : Int) + 1)) ((↑j : Int) + 1) (.i 3 (IntKind.wrap .i64 (Sp.sq (List.take j l) + IntKind.wrap .i64 (IntKind.wrap .i64 (List.getD l j 0) * IntKind.wrap .i64 (List.getD l j 0)))) (Sp.sq (List.take (j + 1) l)) (.k [0, 2, 3, 4] (.e .normal (.mk [(0, .ri .i16 l), (2, .c (.int .u8 0)), (3, .c (.int .i64 (Sp.sq (List.take (j + 1) l)))), (4, .c (.int .i64 ((↑j : Int) + 1)))] []))))))))))))) (.k [0, 2, 3] (.e (.exit 0) (.mk [(0, .ri .i16 l), (2, .c (.int .u8 0)), (3, .c (.int .i64 (Sp.sq (List.take j l))))] []))))) E_ok mixed (by kernel_rfl) ?_
      refine .t (.b (fun h2 => ?_) (fun h2 => ?_))
      · simp [-List.getD_eq_getElem?_getD] at h2
        exact .o (.o (.o (.o (.o (.o (.i' (.t (.i' (.i (by rw [Sp.sq_step hl hn h2]) (.k (.e (.next (⟨j + 1, by omega⟩) (by dsimp only; omega) (.mapR [] [] (by kernel_rfl) (by kernel_rfl) (by kernel_rfl))))))))))))))
      · simp [-List.getD_eq_getElem?_getD] at h2
        refine .k (.e (.out ?_))
        refine KE.run 2 C3 (.p ((↑l.length : Int) ≠ 0) (.i 3 (IntKind.wrap .i64 (Int.tdiv (Sp.sq (List.take j l)) (↑(List.length l) : Int))) (Sp.sq l / (↑l.length : Int)) (.t (.b (Sp.sq l / (↑l.length : Int) == 0) (.r (.c (.int .u8 127))) (.t (.k [2, 3, 5] (.l (cA Try.f17 [1, 1, 1, 1, 1, 1, 1, 0, 0]) (fA Try.f17 [1, 1, 1, 1, 1, 1, 1, 0, 0]) (.mk [(2, .c (.int .u8 0)), (3, .c (.int .i64 (Sp.sq l / (↑l.length : Int)))), (5, .c (.int .i64 0))] [])))))))) E_ok mixed (by kernel_rfl) ?_
        refine .o (.i (by simp (disch := omega) only [take_end hj h2, Int.tdiv_eq_ediv_of_nonneg, wrap_i64]) (.t (.b (fun h3 => ?_) (fun h3 => ?_))))
        · simp [-List.getD_eq_getElem?_getD] at h3
          exact .r (by rw [Sp.lev_127 (.inl (Sp.q_0 h00 hsq.1 (by omega)))])
        · simp [-List.getD_eq_getElem?_getD] at h3
          refine .t (.k (.l (VC.loopA (Y := {p : Int × Int // 1 ≤ p.1 ∧ p.1 ≤ 1073741824 ∧ 0 ≤ p.2 ∧ p.2 ≤ 30 ∧ p.2 + Sp.lg p.1 = Sp.lg (Sp.sq l / l.length)}) (fun j => ⟨[(2, .c (.int .u8 0)), (3, .c (.int .i64 j.1.1)), (5, .c (.int .i64 j.1.2))], []⟩) (fun j => j.1.1.toNat) ⟨(Sp.sq l / l.length, 0), by dsimp only; have := Sp.lg_nn (Sp.sq l / l.length); omega⟩ (body := cA Try.f17 [1, 1, 1, 1, 1, 1, 1, 0, 0, 0]) (by kernel_rfl) (.mapR [] [] (by kernel_rfl) (by kernel_rfl) (by kernel_rfl)) ?_)))
          intro ⟨p, hp⟩
          refine VC.run 1 C3 (.t (.b (decide (2 ≤ p.fst)) (.p ((2 : Int) ≠ (0 : Int)) (.i 3 (IntKind.wrap .i64 (Int.tdiv (Prod.fst p) 2)) (p.fst / 2) (.t (.i 5 (IntKind.wrap .i64 (Prod.snd p + 1)) (p.snd + 1) (.k [2, 3, 5] (.e .normal (.mk [(2, .c (.int .u8 0)), (3, .c (.int .i64 (p.fst / 2))), (5, .c (.int .i64 (p.snd + 1)))] []))))))) (.k [2, 5] (.e (.exit 2) (.mk [(2, .c (.int .u8 0)), (5, .c (.int .i64 p.snd))] []))))) E_ok mixed (by kernel_rfl) ?_
          refine .t (.b (fun h4 => ?_) (fun h4 => ?_))
          · simp [-List.getD_eq_getElem?_getD] at h4
            exact .p (.i' (.t (.i' (.k (.e (.next (⟨(p.1 / 2, p.2 + 1), by have := Sp.lg_half h4; have := Sp.lg_nn (p.1 / 2); have := hlg h3; dsimp only; omega⟩) (by dsimp only; omega) (.mapR [] [] (by kernel_rfl) (by kernel_rfl) (by kernel_rfl))))))))
          · simp [-List.getD_eq_getElem?_getD] at h4
            refine .k (.e (.out ?_))
            refine KE.run 2 C3 (.t (.i 2 (IntKind.wrap .u8 (IntKind.wrap .i64 (3 * IntKind.wrap .i64 (30 - Prod.snd p)))) (3 * (30 - p.snd)) (.r (.c (.int .u8 (3 * (30 - p.snd))))))) E_ok mixed (by kernel_rfl) ?_
            exact .t (.i' (.r (by have h5 := Sp.lg_1 hp.1 h4; have h6 := hlg h3; have e : 3 * (30 - p.2) = Sp.lev l := (by rw [(Sp.lev_p hl (Sp.q_1 h00 h3 hsq.1)).1]; omega); rw [e])))

end Go.Proofs.Ytllomeekbocfmaa
