/-
  A part of the walk: contracts of functions, each proved once.
-/
import Derived.Test.YtgkeopjnfkgpbaaEvRun
import Derived.Test.YtgkeopjnfkgpbaaK26B
namespace Go.Proofs.Ytgkeopjnfkgpbaa
open Go Go.Ev
set_option linter.unusedVariables false
set_option linter.unusedSimpArgs false
set_option maxRecDepth 20000
namespace Sp
structure Rep where
  snd : Bool
  src : Int
  clk : Int
  t : Int
  p : Int
  o : Int
  bl : List Blk
  deriving Inhabited, DecidableEq
def b2 (n : Int) : List Int := [n / 256 % 256, n % 256]
def b3 (n : Int) : List Int := [n / 65536 % 256, n / 256 % 256, n % 256]
def b4 (n : Int) : List Int := [n / 16777216 % 256, n / 65536 % 256, n / 256 % 256, n % 256]
def b8 (n : Int) : List Int := b4 (n / 4294967296) ++ b4 (n % 4294967296)
def b4s (l : List Int) : List Int := l.flatMap b4
def be (n : Int) : Nat → List Int
  | 0 => []
  | k + 1 => (n / 256 ^ k % 256) :: be n k
def blkB (x : Blk) : List Int := b4 x.s ++ (x.f :: (b3 (x.l % 16777216) ++ (b4 x.h ++ (b4 x.j ++ (b4 x.la ++ b4 x.d)))))
def lostB (x : Blk) : Bool := decide (-8388608 ≤ x.l) && decide (x.l ≤ 8388607)
def size (snd : Bool) (n : Int) : Int := (if snd = true then 28 else 8) + 24 * n
def chk (r : Rep) : Int := if 31 < r.bl.length then 4 else if r.bl.all lostB = false then 3 else if r.snd = false ∧ ¬ (r.clk = 0 ∧ r.t = 0 ∧ r.p = 0 ∧ r.o = 0) then 2 else 0
def head (r : Rep) : List Int := (128 + (r.bl.length : Int)) :: (if r.snd = true then 200 else 201) :: (b2 (size r.snd r.bl.length / 4 - 1) ++ b4 r.src)
def sndB (r : Rep) : List Int := b8 r.clk ++ (b4 r.t ++ (b4 r.p ++ b4 r.o))
def bytes (r : Rep) : List Int := head r ++ ((if r.snd = true then sndB r else []) ++ r.bl.flatMap blkB)
def enc (r : Rep) : List Int := if chk r = 0 then bytes r else []
theorem b4_len (n : Int) : (b4 n).length = 4 := rfl
theorem blkB_len (x : Blk) : (blkB x).length = 24 := rfl
theorem flat_len (l : List Blk) : (l.flatMap blkB).length = 24 * l.length := by
  induction l with
  | nil => rfl
  | cons a l ih => simp only [List.flatMap_cons, List.length_append, ih, blkB_len, List.length_cons]; omega
theorem byte_0 {n : Int} (h : 0 ≤ n ∧ n ≤ 4294967295) : IntKind.u8.wrap (ishr .u32 n 24) = n / 16777216 % 256 := by
  rw [mod_u8]; show n.fdiv (2 ^ (min 24 32)) % 256 = _
  rw [show ((2 : Int) ^ (min 24 32)) = 16777216 from rfl, Int.fdiv_eq_ediv_of_nonneg _ (by omega)]
theorem byte_1 {n : Int} (h : 0 ≤ n ∧ n ≤ 4294967295) : IntKind.u8.wrap (ishr .u32 n 16) = n / 65536 % 256 := by
  rw [mod_u8]; show n.fdiv (2 ^ (min 16 32)) % 256 = _
  rw [show ((2 : Int) ^ (min 16 32)) = 65536 from rfl, Int.fdiv_eq_ediv_of_nonneg _ (by omega)]
theorem byte_2 {n : Int} (h : 0 ≤ n ∧ n ≤ 4294967295) : IntKind.u8.wrap (ishr .u32 n 8) = n / 256 % 256 := by
  rw [mod_u8]; show n.fdiv (2 ^ (min 8 32)) % 256 = _
  rw [show ((2 : Int) ^ (min 8 32)) = 256 from rfl, Int.fdiv_eq_ediv_of_nonneg _ (by omega)]
theorem byte_3 {n : Int} (_ : 0 ≤ n ∧ n ≤ 4294967295) : IntKind.u8.wrap n = n % 256 := mod_u8 n
def r32 (n : Int) : Prop := 0 ≤ n ∧ n ≤ 4294967295
theorem be_b2 (n : Int) : be n 2 = b2 n := by simp only [be, b2]; simp
theorem be_b4 (n : Int) : be n 4 = b4 n := by simp only [be, b4]; simp
theorem be_b3 (n : Int) : be n 3 = b3 n := by simp only [be, b3]; simp
theorem be_b8 (n : Int) : be n 8 = b8 n := by
  simp only [be, b8, b4, List.cons_append, List.nil_append]
  simp only [List.cons.injEq, and_true]
  refine ⟨?_, ?_, ?_, ?_, ?_, ?_, ?_, ?_⟩ <;> simp <;> omega
theorem be_len (n : Int) (k : Nat) : (be n k).length = k := by induction k with
  | zero => rfl
  | succ k ih => simp [be, ih]
theorem be_take (n : Int) (j : Nat) : List.take j (be n j) = be n j := List.take_of_length_le (by rw [be_len]; omega)
theorem mix {f l : Int} (hf : 0 ≤ f ∧ f ≤ 255) : b4 (f * 16777216 + l % 16777216) = f :: b3 (l % 16777216) := by
  simp only [b4, b3, List.cons.injEq, and_true]; omega
theorem ior_mul {n : Nat} {k : IntKind} {x y : Int} (hx : 0 ≤ x) (hy : 0 ≤ y) (hx1 : x * ((2 ^ n : Nat) : Int) < 2 ^ k.bits) (hy1 : y < ((2 ^ n : Nat) : Int)) (hn : ((2 ^ n : Nat) : Int) ≤ 2 ^ k.bits) :
    ior k (x * ((2 ^ n : Nat) : Int)) y = k.wrap (x * ((2 ^ n : Nat) : Int) + y) := by
  obtain ⟨a, rfl⟩ := Int.eq_ofNat_of_zero_le hx
  obtain ⟨b, rfl⟩ := Int.eq_ofNat_of_zero_le hy
  rw [ior_nat (by rw [← Int.natCast_mul]; omega) hx1 (by omega) (by omega)]
  have e : ((a : Int) * ((2 ^ n : Nat) : Int)).toNat = 2 ^ n * a := by rw [← Int.natCast_mul, Int.toNat_natCast, Nat.mul_comm]
  rw [e, Int.toNat_natCast, ← Nat.two_pow_add_eq_or_of_lt (by omega)]
  congr 1
  rw [Int.natCast_add, Int.natCast_mul, Int.mul_comm]
theorem w2 {f l : Int} (hf : 0 ≤ f ∧ f ≤ 255) : ior .u32 (ishl .u32 (IntKind.u32.wrap f) 24) (iand .u32 (IntKind.u32.wrap l) 16777215) = f * 16777216 + l % 16777216 := by
  have e1 : ishl .u32 (IntKind.u32.wrap f) 24 = f * 16777216 := by
    show IntKind.u32.wrap (_ * 2 ^ (min 24 32)) = _
    rw [wrap_u32 (x := f) (by omega) (by omega), show ((2 : Int) ^ (min 24 32)) = 16777216 from rfl, wrap_u32 (by omega) (by omega)]
  have e2 : iand .u32 (IntKind.u32.wrap l) 16777215 = l % 16777216 := by
    have h := mod_u32 l
    have h1 : IntKind.u32.wrap l < 2 ^ IntKind.u32.bits := by rw [h]; show l % 4294967296 < 4294967296; omega
    rw [iand_nat (by rw [h]; omega) h1 (by decide) (by decide)]
    have : (IntKind.u32.wrap l).toNat &&& Int.toNat 16777215 = (IntKind.u32.wrap l).toNat % 16777216 := Nat.and_two_pow_sub_one_eq_mod _ 24
    rw [this, wrap_u32 (by omega) (by omega), h]; omega
  rw [e1, e2]
  have := ior_mul (n := 24) (k := .u32) (x := f) (y := l % 16777216) hf.1 (by omega) (by show f * 16777216 < 4294967296; omega) (by show _ < (16777216 : Int); omega) (by decide)
  rw [show ((2 ^ 24 : Nat) : Int) = 16777216 from rfl] at this
  rw [this, wrap_u32 (by omega) (by omega)]
def bok (x : Blk) : Prop := r32 x.s ∧ (0 ≤ x.f ∧ x.f ≤ 255) ∧ r32 x.h ∧ r32 x.j ∧ r32 x.la ∧ r32 x.d
def rok (r : Rep) : Prop := r32 r.src ∧ (0 ≤ r.clk ∧ r.clk ≤ 18446744073709551615) ∧ r32 r.t ∧ r32 r.p ∧ r32 r.o ∧ ∀ x ∈ r.bl, bok x
theorem bok_get {r : Rep} (h : rok r) (j : Nat) : bok (r.bl.getD j default) := getD_in h.2.2.2.2.2 (by simp only [bok, r32]; decide) j
theorem w2_r {f l : Int} (hf : 0 ≤ f ∧ f ≤ 255) : r32 (ior .u32 (ishl .u32 (IntKind.u32.wrap f) 24) (iand .u32 (IntKind.u32.wrap l) 16777215)) := by rw [w2 hf]; simp only [r32]; omega
theorem lostB_f {x : Blk} (h : 8388607 < x.l ∨ x.l < -8388608) : lostB x = false := by simp only [lostB, Bool.and_eq_false_iff, decide_eq_false_iff_not]; omega
theorem lostB_t {x : Blk} (h : x.l ≤ 8388607) (h2 : -8388608 ≤ x.l) : lostB x = true := by simp [lostB, h, h2]
theorem lost_step {l : List Blk} {j : Nat} (hj : j < l.length) (h : (l.take j).all lostB = true) (h2 : lostB (l.getD j default) = true) : (l.take (j + 1)).all lostB = true := by
  rw [take_succ_getD (d := default) hj, List.all_append, h]; simp [-List.getD_eq_getElem?_getD, h2]
theorem lost_f {l : List Blk} {j : Nat} (hj : j < l.length) (h2 : lostB (l.getD j default) = false) : l.all lostB = false := by
  rw [List.all_eq_false]
  refine ⟨l.getD j default, ?_, by rw [h2]; simp⟩
  rw [List.getD_eq_getElem?_getD, List.getElem?_eq_getElem hj]; exact List.getElem_mem hj
theorem lost_w {l : List Blk} {j : Nat} (h2 : l.length ≤ j) (h : (l.take j).all lostB = true) : l.all lostB = true := by
  rwa [List.take_of_length_le h2] at h
theorem chk4 {r : Rep} (h : 31 < r.bl.length) : chk r = 4 := by simp only [chk]; rw [if_pos h]
theorem chk3 {r : Rep} (h : r.bl.length ≤ 31) (h2 : r.bl.all lostB = false) : chk r = 3 := by simp only [chk]; rw [if_neg (by omega), if_pos h2]
theorem chk2 {r : Rep} (h : r.bl.length ≤ 31) (h2 : r.bl.all lostB = true) (h3 : r.snd = false) (h4 : ¬ (r.clk = 0 ∧ r.t = 0 ∧ r.p = 0 ∧ r.o = 0)) : chk r = 2 := by simp only [chk]; rw [if_neg (by omega), if_neg (by simp [h2]), if_pos ⟨h3, h4⟩]
theorem chk0 {r : Rep} (h : r.bl.length ≤ 31) (h2 : r.bl.all lostB = true) (h3 : r.snd = true ∨ (r.clk = 0 ∧ r.t = 0 ∧ r.p = 0 ∧ r.o = 0)) : chk r = 0 := by
  simp only [chk]; rw [if_neg (by omega), if_neg (by simp [h2]), if_neg]
  rintro ⟨a, b⟩
  rcases h3 with h3 | h3
  · rw [h3] at a; cases a
  · exact b h3
theorem chk_le {r : Rep} (h : chk r = 0) : r.bl.length ≤ 31 := Classical.byContradiction fun hh => by rw [chk4 (by omega)] at h; cases h
theorem enc_bad {r : Rep} (h : ¬ chk r = 0) : enc r = [] := if_neg h
theorem enc_ok {r : Rep} (h : chk r = 0) : enc r = bytes r := if_pos h
theorem size_rng {snd : Bool} {n : Int} (hn : 0 ≤ n ∧ n ≤ 31) : 8 ≤ size snd n ∧ size snd n ≤ 772 ∧ 1 ≤ size snd n / 4 - 1 ∧ size snd n / 4 - 1 ≤ 192 := by
  simp only [size]; cases snd
  · rw [if_neg (by simp)]; omega
  · rw [if_pos rfl]; omega
def w1 (snd : Bool) (n : Int) : Int := (128 + n) * 16777216 + (if snd = true then 200 else 201) * 65536 + (size snd n / 4 - 1)
theorem w1_eq {n s k : Int} (hn : 0 ≤ n ∧ n ≤ 31) (hk : k = 200 ∨ k = 201) (hs : 0 ≤ s ∧ s ≤ 1000) : ior .u32 (ior .u32 (ishl .u32 (IntKind.u32.wrap (IntKind.i64.wrap (128 + n))) 24) (ishl .u32 k 16)) (IntKind.u32.wrap s) = (128 + n) * 16777216 + k * 65536 + s := by
  have e1 : ishl .u32 (IntKind.u32.wrap (IntKind.i64.wrap (128 + n))) 24 = (128 + n) * 16777216 := by
    show IntKind.u32.wrap (_ * 2 ^ (min 24 32)) = _
    rw [wrap_i64 (x := 128 + n) (by omega) (by omega), wrap_u32 (x := 128 + n) (by omega) (by omega), show ((2 : Int) ^ (min 24 32)) = 16777216 from rfl, wrap_u32 (by omega) (by omega)]
  have e2 : ishl .u32 k 16 = k * 65536 := by
    show IntKind.u32.wrap (_ * 2 ^ (min 16 32)) = _
    rw [show ((2 : Int) ^ (min 16 32)) = 65536 from rfl, wrap_u32 (by omega) (by omega)]
  have a := ior_mul (n := 24) (k := .u32) (x := 128 + n) (y := k * 65536) (by omega) (by omega) (by show _ * (16777216 : Int) < 4294967296; omega) (by show _ < (16777216 : Int); omega) (by decide)
  rw [show ((2 ^ 24 : Nat) : Int) = 16777216 from rfl] at a
  have b := ior_mul (n := 16) (k := .u32) (x := (128 + n) * 256 + k) (y := s) (by omega) (by omega) (by show _ * (65536 : Int) < 4294967296; omega) (by show _ < (65536 : Int); omega) (by decide)
  rw [show ((2 ^ 16 : Nat) : Int) = 65536 from rfl] at b
  rw [e1, e2, a, wrap_u32 (x := _ + _) (by omega) (by omega), wrap_u32 (x := s) (by omega) (by omega), show (128 + n) * 16777216 + k * 65536 = ((128 + n) * 256 + k) * 65536 by omega, b, wrap_u32 (by omega) (by omega)]
theorem b4_head {n k s : Int} (hn : 0 ≤ n ∧ n ≤ 31) (hk : k = 200 ∨ k = 201) (hs : 0 ≤ s ∧ s ≤ 1000) : b4 ((128 + n) * 16777216 + k * 65536 + s) = (128 + n) :: k :: b2 s := by
  simp only [b4, b2, List.cons.injEq, and_true]; omega
theorem head_w {r : Rep} {k k2 : Int} (hk : k = if r.snd = true then 200 else 201) (hk2 : k2 = ishl .u32 k 16) (hn : r.bl.length ≤ 31) :
    b4s [ior .u32 (ior .u32 (ishl .u32 (IntKind.u32.wrap (IntKind.i64.wrap (128 + (r.bl.length : Int)))) 24) k2) (IntKind.u32.wrap (IntKind.i64.wrap (IntKind.i64.wrap (Int.tdiv (size r.snd r.bl.length) 4) - 1))), r.src] = head r := by
  have h := size_rng (snd := r.snd) (n := r.bl.length) (by omega)
  have hk' : k = 200 ∨ k = 201 := by rw [hk]; split <;> simp
  rw [hk2, Int.tdiv_eq_ediv_of_nonneg (by omega), wrap_i64 (x := size r.snd r.bl.length / 4) (by omega) (by omega), wrap_i64 (x := _ / 4 - 1) (by omega) (by omega), w1_eq (by omega) hk' (by omega)]
  simp only [b4s, List.flatMap_cons, List.flatMap_nil, List.append_nil]
  rw [b4_head (show 0 ≤ (r.bl.length : Int) ∧ (r.bl.length : Int) ≤ 31 by omega) hk' (show 0 ≤ size r.snd r.bl.length / 4 - 1 ∧ _ ≤ 1000 by omega), head, hk]; rfl
def cur (r : Rep) (j : Nat) : List Int := head r ++ ((if r.snd = true then sndB r else []) ++ (r.bl.take j).flatMap blkB)
theorem cur_t {r : Rep} (h : r.snd = true) : cur r 0 = head r ++ sndB r := by simp [cur, h]
theorem cur_f {r : Rep} (h : r.snd = false) : cur r 0 = head r := by simp [cur, h]
theorem cur_end {r : Rep} {j : Nat} (h : r.bl.length ≤ j) : cur r j = bytes r := by simp only [cur, bytes]; rw [List.take_of_length_le h]
theorem cur_succ {r : Rep} {j : Nat} (hj : j < r.bl.length) : cur r (j + 1) = cur r j ++ blkB (r.bl.getD j default) := by
  simp only [cur]; rw [take_succ_getD (d := default) hj]; simp
theorem cur_ln {r : Rep} {j : Nat} (hj : j < r.bl.length) : (cur r (j + 1)).length = (cur r j).length + 24 := by rw [cur_succ hj, List.length_append, blkB_len]
theorem cur_len {r : Rep} {j : Nat} (hj : j ≤ r.bl.length) (h2 : r.bl.length ≤ 31) : (cur r j).length ≤ 1000 := by
  simp only [cur, List.length_append, flat_len, List.length_take]
  have : (head r).length = 8 := rfl
  split <;> simp [this, sndB, b8, b4_len] <;> omega
theorem snd_w {r : Rep} (h : rok r) : b4s [IntKind.u32.wrap (ishr .u64 r.clk 32), IntKind.u32.wrap r.clk, r.t, r.p, r.o] = sndB r := by
  obtain ⟨_, h2, _⟩ := h
  have e : ishr .u64 r.clk 32 = r.clk / 4294967296 := by
    show r.clk.fdiv (2 ^ (min 32 64)) = _
    rw [show ((2 : Int) ^ (min 32 64)) = 4294967296 from rfl, Int.fdiv_eq_ediv_of_nonneg _ (by omega)]
  rw [e, wrap_u32 (by omega) (by omega), mod_u32]
  simp [b4s, sndB, b8]
theorem blk_w {x : Blk} (h : bok x) : b4s [x.s, ior .u32 (ishl .u32 (IntKind.u32.wrap x.f) 24) (iand .u32 (IntKind.u32.wrap x.l) 16777215), x.h, x.j, x.la, x.d] = blkB x := by
  rw [w2 h.2.1]; simp [b4s, blkB, mix h.2.1]
theorem be_step {n : Int} {j : Nat} (h : 0 ≤ n) : [IntKind.u8.wrap (Int.tmod (n / 256 ^ j) 256)] ++ be n j = be n (j + 1) := by
  have : 0 ≤ n / 256 ^ j := Int.ediv_nonneg h (Int.pow_nonneg (by decide))
  rw [Int.tmod_eq_emod_of_nonneg this, wrap_u8 (by omega) (by omega)]; rfl
theorem dn_step {n : Int} {j : Nat} (h : 0 ≤ n) : Int.tdiv (n / 256 ^ j) 256 = n / 256 ^ (j + 1) := by
  have : 0 ≤ n / 256 ^ j := Int.ediv_nonneg h (Int.pow_nonneg (by decide))
  rw [Int.tdiv_eq_ediv_of_nonneg this, Int.pow_succ, Int.ediv_ediv_of_nonneg (Int.pow_nonneg (by decide))]
theorem dn_rng {n : Int} (j : Nat) (h : 0 ≤ n ∧ n ≤ 18446744073709551615) : 0 ≤ n / 256 ^ j ∧ n / 256 ^ j ≤ 18446744073709551615 := by
  have hp : (0 : Int) ≤ 256 ^ j := Int.pow_nonneg (by decide)
  have h1 := Int.ediv_nonneg h.1 hp
  have h2 := Int.ediv_le_self (256 ^ j) h.1
  omega
theorem head_r {r : Rep} {k k2 : Int} (hk : k = if r.snd = true then 200 else 201) (hk2 : k2 = ishl .u32 k 16) (hn : r.bl.length ≤ 31) :
    r32 (ior .u32 (ior .u32 (ishl .u32 (IntKind.u32.wrap (IntKind.i64.wrap (128 + (r.bl.length : Int)))) 24) k2) (IntKind.u32.wrap (IntKind.i64.wrap (IntKind.i64.wrap (Int.tdiv (size r.snd r.bl.length) 4) - 1)))) := by
  have h := size_rng (snd := r.snd) (n := r.bl.length) (by omega)
  have hk' : k = 200 ∨ k = 201 := by rw [hk]; split <;> simp
  rw [hk2, Int.tdiv_eq_ediv_of_nonneg (by omega), wrap_i64 (x := size r.snd r.bl.length / 4) (by omega) (by omega), wrap_i64 (x := _ / 4 - 1) (by omega) (by omega), w1_eq (by omega) hk' (by omega)]
  simp only [r32]; omega
theorem wr_r (x : Int) : r32 (IntKind.u32.wrap x) := by rw [mod_u32]; simp only [r32]; omega
theorem u64_r (x : Int) : 0 ≤ IntKind.u64.wrap x ∧ IntKind.u64.wrap x ≤ 18446744073709551615 := by rw [mod_u64]; omega
theorem u64_w {x : Int} (h : r32 x) : IntKind.u64.wrap x = x := by simp only [r32] at h; exact wrap_u64 (by omega) (by omega)
theorem sz_w {snd : Bool} {n : Int} (hn : 0 ≤ n ∧ n ≤ 31) : IntKind.u64.wrap (IntKind.i64.wrap (IntKind.i64.wrap (Int.tdiv (size snd n) 4) - 1)) = size snd n / 4 - 1 := by
  have h := size_rng (snd := snd) hn
  rw [Int.tdiv_eq_ediv_of_nonneg (by omega), wrap_i64 (x := size snd n / 4) (by omega) (by omega), wrap_i64 (x := _ / 4 - 1) (by omega) (by omega), wrap_u64 (by omega) (by omega)]
theorem lost_get {l : List Blk} {j : Nat} (hj : j < l.length) (h : l.all lostB = true) : -8388608 ≤ (l.getD j default).l ∧ (l.getD j default).l ≤ 8388607 := by
  have h2 := List.all_eq_true.1 h (l.getD j default) (by rw [List.getD_eq_getElem?_getD, List.getElem?_eq_getElem hj]; exact List.getElem_mem hj)
  simpa [lostB] using h2
theorem l_w {l : Int} (h : -8388608 ≤ l ∧ l ≤ 8388607) : be (IntKind.u64.wrap (IntKind.i64.wrap (l + 16777216))) 3 = b3 (l % 16777216) := by
  rw [wrap_i64 (by omega) (by omega), wrap_u64 (by omega) (by omega), be_b3]
  simp only [b3, List.cons.injEq, and_true]; omega
theorem rcur_t {r : Rep} (hr : rok r) (h : r.snd = true) (hn : r.bl.length ≤ 31) : ((128 + (r.bl.length : Int)) :: 200 :: ((((([] ++ be (IntKind.u64.wrap (IntKind.i64.wrap (IntKind.i64.wrap (Int.tdiv (size r.snd r.bl.length) 4) - 1))) 2) ++ be (IntKind.u64.wrap r.src) 4) ++ be r.clk 8) ++ be (IntKind.u64.wrap r.t) 4) ++ be (IntKind.u64.wrap r.p) 4) ++ be (IntKind.u64.wrap r.o) 4) = cur r 0 := by
  obtain ⟨h1, h2, h3, h4, h5, _⟩ := hr
  rw [sz_w (by omega), u64_w h1, u64_w h3, u64_w h4, u64_w h5, be_b2, be_b4, be_b8, be_b4, be_b4, be_b4, cur_t h]
  simp [head, sndB, h]
theorem rcur_f {r : Rep} (hr : rok r) (h : r.snd = false) (hn : r.bl.length ≤ 31) : ((128 + (r.bl.length : Int)) :: 201 :: (([] ++ be (IntKind.u64.wrap (IntKind.i64.wrap (IntKind.i64.wrap (Int.tdiv (size r.snd r.bl.length) 4) - 1))) 2) ++ be (IntKind.u64.wrap r.src) 4)) = cur r 0 := by
  rw [sz_w (by omega), u64_w hr.1, be_b2, be_b4, cur_f h]
  simp [head, h]
theorem rblk {x : Blk} (h : bok x) (hl : -8388608 ≤ x.l ∧ x.l ≤ 8388607) (c : List Int) : ((((((c ++ be (IntKind.u64.wrap x.s) 4) ++ [x.f]) ++ be (IntKind.u64.wrap (IntKind.i64.wrap (x.l + 16777216))) 3) ++ be (IntKind.u64.wrap x.h) 4) ++ be (IntKind.u64.wrap x.j) 4) ++ be (IntKind.u64.wrap x.la) 4) ++ be (IntKind.u64.wrap x.d) 4 = c ++ blkB x := by
  obtain ⟨h1, h2, h3, h4, h5, h6⟩ := h
  rw [u64_w h1, l_w hl, u64_w h3, u64_w h4, u64_w h5, u64_w h6]
  simp only [be_b4, blkB]; simp
end Sp
def aR (r : Sp.Rep) : List AV := [.c (.bool r.snd), .c (.int .u32 r.src), .c (.int .u64 r.clk), .c (.int .u32 r.t), .c (.int .u32 r.p), .c (.int .u32 r.o), .rr 7 (r.bl.map aK)]
def Sp.decK : List AV → Sp.Blk
  | [.c (.int _ s), .c (.int _ f), .c (.int _ l), .c (.int _ h), .c (.int _ j), .c (.int _ la), .c (.int _ d)] => ⟨s, f, l, h, j, la, d⟩
  | _ => default
theorem Sp.decK_map (l : List Sp.Blk) : (l.map aK).map Sp.decK = l := by
  rw [List.map_map]; exact List.map_id'' (fun x => rfl) l
theorem Sp.decK_row (k1 k2 k3 k4 k5 k6 k7 : IntKind) (s f l h j la d : Int) : decK [.c (.int k1 s), .c (.int k2 f), .c (.int k3 l), .c (.int k4 h), .c (.int k5 j), .c (.int k6 la), .c (.int k7 d)] = ⟨s, f, l, h, j, la, d⟩ := rfl
theorem Sp.decK_aK (k : Sp.Blk) : decK (aK k) = k := rfl

end Go.Proofs.Ytgkeopjnfkgpbaa
