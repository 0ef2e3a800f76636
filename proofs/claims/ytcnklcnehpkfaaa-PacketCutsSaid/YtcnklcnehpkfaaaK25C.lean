/-
  A part of the walk: contracts of functions, each proved once.
-/
import Derived.Test.YtcnklcnehpkfaaaEvRun
import Derived.Test.YtcnklcnehpkfaaaK25B
namespace Go.Proofs.Ytcnklcnehpkfaaa
open Go Go.Ev
set_option linter.unusedVariables false
set_option linter.unusedSimpArgs false
set_option maxRecDepth 20000
namespace Sp
structure Pkt where
  mr : Bool
  ty : Int
  sq : Int
  tm : Int
  sr : Int
  mx : List Int
  ex : Bool
  ek : Int
  xt : List Int
  pl : List Int
  pad : Int
  deriving Inhabited, DecidableEq
def b2 (n : Int) : List Int := [n / 256 % 256, n % 256]
def b4 (n : Int) : List Int := [n / 16777216 % 256, n / 65536 % 256, n / 256 % 256, n % 256]
def be (n : Int) : Nat → List Int
  | 0 => []
  | k + 1 => (n / 256 ^ k % 256) :: be n k
theorem b4_len (n : Int) : (b4 n).length = 4 := rfl
theorem byte_0 {n : Int} (h : 0 ≤ n ∧ n ≤ 4294967295) : IntKind.u8.wrap (ishr .u32 n 24) = n / 16777216 % 256 := by
  rw [mod_u8]; show n.fdiv (2 ^ (min 24 32)) % 256 = _
  rw [show ((2 : Int) ^ (min 24 32)) = 16777216 from rfl, Int.fdiv_eq_ediv_of_nonneg _ (by omega)]
theorem byte_1 {n : Int} (h : 0 ≤ n ∧ n ≤ 4294967295) : IntKind.u8.wrap (ishr .u32 n 16) = n / 65536 % 256 := by
  rw [mod_u8]; show n.fdiv (2 ^ (min 16 32)) % 256 = _
  rw [show ((2 : Int) ^ (min 16 32)) = 65536 from rfl, Int.fdiv_eq_ediv_of_nonneg _ (by omega)]
theorem byte_2 {n : Int} (h : 0 ≤ n ∧ n ≤ 4294967295) : IntKind.u8.wrap (ishr .u32 n 8) = n / 256 % 256 := by
  rw [mod_u8]; show n.fdiv (2 ^ (min 8 32)) % 256 = _
  rw [show ((2 : Int) ^ (min 8 32)) = 256 from rfl, Int.fdiv_eq_ediv_of_nonneg _ (by omega)]
theorem byte_3 {n : Int} (_ : 0 ≤ n ∧ n ≤ 4294967295) : IntKind.u8.wrap n = n % 256 := mod_u8 n
def r32 (n : Int) : Prop := 0 ≤ n ∧ n ≤ 4294967295
theorem be_b2 (n : Int) : be n 2 = b2 n := by simp only [be, b2]; simp
theorem be_b4 (n : Int) : be n 4 = b4 n := by simp only [be, b4]; simp
theorem be_len (n : Int) (k : Nat) : (be n k).length = k := by induction k with
  | zero => rfl
  | succ k ih => simp [be, ih]
theorem be_take (n : Int) (j : Nat) : List.take j (be n j) = be n j := List.take_of_length_le (by rw [be_len]; omega)
theorem ior_mul {n : Nat} {k : IntKind} {x y : Int} (hx : 0 ≤ x) (hy : 0 ≤ y) (hx1 : x * ((2 ^ n : Nat) : Int) < 2 ^ k.bits) (hy1 : y < ((2 ^ n : Nat) : Int)) (hn : ((2 ^ n : Nat) : Int) ≤ 2 ^ k.bits) :
    ior k (x * ((2 ^ n : Nat) : Int)) y = k.wrap (x * ((2 ^ n : Nat) : Int) + y) := by
  obtain ⟨a, rfl⟩ := Int.eq_ofNat_of_zero_le hx
  obtain ⟨b, rfl⟩ := Int.eq_ofNat_of_zero_le hy
  rw [ior_nat (by rw [← Int.natCast_mul]; omega) hx1 (by omega) (by omega)]
  have e : ((a : Int) * ((2 ^ n : Nat) : Int)).toNat = 2 ^ n * a := by rw [← Int.natCast_mul, Int.toNat_natCast, Nat.mul_comm]
  rw [e, Int.toNat_natCast, ← Nat.two_pow_add_eq_or_of_lt (by omega)]
  congr 1
  rw [Int.natCast_add, Int.natCast_mul, Int.mul_comm]
theorem be_step {n : Int} {j : Nat} (h : 0 ≤ n) : [IntKind.u8.wrap (Int.tmod (n / 256 ^ j) 256)] ++ be n j = be n (j + 1) := by
  have : 0 ≤ n / 256 ^ j := Int.ediv_nonneg h (Int.pow_nonneg (by decide))
  rw [Int.tmod_eq_emod_of_nonneg this, wrap_u8 (by omega) (by omega)]; rfl
theorem dn_step {n : Int} {j : Nat} (h : 0 ≤ n) : Int.tdiv (n / 256 ^ j) 256 = n / 256 ^ (j + 1) := by
  have : 0 ≤ n / 256 ^ j := Int.ediv_nonneg h (Int.pow_nonneg (by decide))
  rw [Int.tdiv_eq_ediv_of_nonneg this, Int.pow_succ, Int.ediv_ediv_of_nonneg (Int.pow_nonneg (by decide))]
theorem dn_rng {n : Int} (j : Nat) (h : 0 ≤ n ∧ n ≤ 18446744073709551615) : 0 ≤ n / 256 ^ j ∧ n / 256 ^ j ≤ 18446744073709551615 := by
  have hp : (0 : Int) ≤ 256 ^ j := Int.pow_nonneg (by decide)
  have h1 := Int.ediv_nonneg h.1 hp
  have h2 := Int.ediv_le_self (256 ^ j) h.1
  omega
def b4s (l : List Int) : List Int := l.flatMap b4
def chk (p : Pkt) : Int := if 127 < p.ty ∨ p.pad < 0 ∨ 255 < p.pad then 3 else if (p.ex = false ∧ (¬ p.ek = 0 ∨ 0 < p.xt.length)) ∨ ¬ (p.xt.length : Int) % 4 = 0 then 2 else if 15 < p.mx.length ∨ 1020 < p.xt.length ∨ 1500 < p.pl.length then 4 else 0
def fst (p : Pkt) : Int := 128 + (if 0 < p.pad then 32 else 0) + (if p.ex = true then 16 else 0) + p.mx.length
def snd (p : Pkt) : Int := (if p.mr = true then 128 else 0) + p.ty
def head (p : Pkt) : List Int := fst p :: snd p :: (b2 p.sq ++ (b4 p.tm ++ b4 p.sr))
def cur (p : Pkt) (j : Nat) : List Int := head p ++ b4s (p.mx.take j)
def ext (p : Pkt) : List Int := if p.ex = true then b2 p.ek ++ (b2 (p.xt.length / 4) ++ p.xt) else []
def mid (p : Pkt) : List Int := head p ++ (b4s p.mx ++ (ext p ++ p.pl))
def padz (n : Int) : List Int := if 0 < n then List.replicate (n - 1).toNat 0 ++ [n] else []
def bytes (p : Pkt) : List Int := mid p ++ padz p.pad
def enc (p : Pkt) : List Int := if chk p = 0 then bytes p else []
def pok (p : Pkt) : Prop := (0 ≤ p.ty ∧ p.ty ≤ 255) ∧ (0 ≤ p.sq ∧ p.sq ≤ 65535) ∧ r32 p.tm ∧ r32 p.sr ∧ (∀ x ∈ p.mx, 0 ≤ x ∧ x ≤ 4294967295) ∧ (0 ≤ p.ek ∧ p.ek ≤ 65535) ∧ (∀ x ∈ p.xt, 0 ≤ x ∧ x ≤ 255) ∧ (∀ x ∈ p.pl, 0 ≤ x ∧ x ≤ 255)
theorem b4s_len (l : List Int) : (b4s l).length = 4 * l.length := by
  induction l with
  | nil => rfl
  | cons a l ih => simp only [b4s, List.flatMap_cons, List.length_append] at ih ⊢; rw [ih, b4_len, List.length_cons]; omega
theorem chk3 {p : Pkt} (h : 127 < p.ty ∨ p.pad < 0 ∨ 255 < p.pad) : chk p = 3 := if_pos h
theorem chk2 {p : Pkt} (h : ¬ (127 < p.ty ∨ p.pad < 0 ∨ 255 < p.pad)) (h2 : (p.ex = false ∧ (¬ p.ek = 0 ∨ 0 < p.xt.length)) ∨ ¬ (p.xt.length : Int) % 4 = 0) : chk p = 2 := by rw [chk, if_neg h, if_pos h2]
theorem chk4 {p : Pkt} (h : ¬ (127 < p.ty ∨ p.pad < 0 ∨ 255 < p.pad)) (h2 : ¬ ((p.ex = false ∧ (¬ p.ek = 0 ∨ 0 < p.xt.length)) ∨ ¬ (p.xt.length : Int) % 4 = 0)) (h3 : 15 < p.mx.length ∨ 1020 < p.xt.length ∨ 1500 < p.pl.length) : chk p = 4 := by rw [chk, if_neg h, if_neg h2, if_pos h3]
theorem chk0 {p : Pkt} (h : ¬ (127 < p.ty ∨ p.pad < 0 ∨ 255 < p.pad)) (h2 : ¬ ((p.ex = false ∧ (¬ p.ek = 0 ∨ 0 < p.xt.length)) ∨ ¬ (p.xt.length : Int) % 4 = 0)) (h3 : ¬ (15 < p.mx.length ∨ 1020 < p.xt.length ∨ 1500 < p.pl.length)) : chk p = 0 := by rw [chk, if_neg h, if_neg h2, if_neg h3]
theorem chk_ok {p : Pkt} (h : chk p = 0) : ¬ (127 < p.ty ∨ p.pad < 0 ∨ 255 < p.pad) ∧ ¬ ((p.ex = false ∧ (¬ p.ek = 0 ∨ 0 < p.xt.length)) ∨ ¬ (p.xt.length : Int) % 4 = 0) ∧ ¬ (15 < p.mx.length ∨ 1020 < p.xt.length ∨ 1500 < p.pl.length) := by
  by_cases a : 127 < p.ty ∨ p.pad < 0 ∨ 255 < p.pad
  · rw [chk3 a] at h; cases h
  by_cases b : (p.ex = false ∧ (¬ p.ek = 0 ∨ 0 < p.xt.length)) ∨ ¬ (p.xt.length : Int) % 4 = 0
  · rw [chk2 a b] at h; cases h
  by_cases c : 15 < p.mx.length ∨ 1020 < p.xt.length ∨ 1500 < p.pl.length
  · rw [chk4 a b c] at h; cases h
  exact ⟨a, b, c⟩
theorem in_3 {p : Pkt} (h : (p.ex = false → p.ek = 0 ∧ p.xt = []) ∧ (p.xt.length : Int) % 4 = 0) : ¬ ((p.ex = false ∧ (¬ p.ek = 0 ∨ 0 < p.xt.length)) ∨ ¬ (p.xt.length : Int) % 4 = 0) := by
  rintro (⟨a, b⟩ | b)
  · have := h.1 a; rw [this.1, this.2] at b; simp at b
  · exact b h.2
theorem dn_w {n : Int} (j : Nat) (h : 0 ≤ n ∧ n ≤ 9223372036854775807) : IntKind.i64.wrap (Int.tdiv (n / 256 ^ j) 256) = n / 256 ^ (j + 1) := by
  rw [dn_step h.1]
  have hp : (0 : Int) ≤ 256 ^ (j + 1) := Int.pow_nonneg (by decide)
  have h1 := Int.ediv_nonneg h.1 hp
  have h2 := Int.ediv_le_self (256 ^ (j + 1)) h.1
  exact wrap_i64 (by omega) (by omega)
theorem enc_bad {p : Pkt} (h : ¬ chk p = 0) : enc p = [] := if_neg h
theorem enc_ok {p : Pkt} (h : chk p = 0) : enc p = bytes p := if_pos h
theorem head_len (p : Pkt) : (head p).length = 12 := rfl
theorem cur_0 (p : Pkt) : cur p 0 = head p := by simp [cur, b4s]
theorem cur_succ {p : Pkt} {j : Nat} (hj : j < p.mx.length) : cur p (j + 1) = cur p j ++ b4 (p.mx.getD j 0) := by
  simp only [cur]; rw [take_succ_getD (d := 0) hj]; simp [b4s]
theorem cur_len {p : Pkt} {j : Nat} (hj : j ≤ p.mx.length) : (cur p j).length = 12 + 4 * j := by
  simp only [cur, List.length_append, b4s_len, head_len, List.length_take]; omega
theorem cur_end {p : Pkt} {j : Nat} (h : p.mx.length ≤ j) : cur p j = head p ++ b4s p.mx := by rw [cur, List.take_of_length_le h]
theorem byte_r {n : Int} (h : 0 ≤ n ∧ n ≤ 65535) : IntKind.u8.wrap (ishr .u16 n 8) = n / 256 % 256 := by
  rw [mod_u8]; show n.fdiv (2 ^ (min 8 16)) % 256 = _
  rw [show ((2 : Int) ^ (min 8 16)) = 256 from rfl, Int.fdiv_eq_ediv_of_nonneg _ (by omega)]
theorem fst_w {p : Pkt} (h : chk p = 0) : ior .u8 (ior .u8 (ior .u8 128 (if decide (0 < p.pad) = true then 32 else 0)) (if p.ex = true then 16 else 0)) (IntKind.u8.wrap (p.mx.length : Int)) = fst p := by
  have hn := (chk_ok h).2.2
  have g : ∀ c n : Int, 8 ≤ c ∧ c ≤ 11 → 0 ≤ n ∧ n ≤ 15 → ior .u8 (c * 16) n = c * 16 + n := fun c n hc hn => by
    have a := ior_mul (n := 4) (k := .u8) (x := c) (y := n) (by omega) (by omega) (by show c * 16 < 256; omega) (by show n < (16 : Int); omega) (by decide)
    rw [show ((2 ^ 4 : Nat) : Int) = 16 from rfl] at a
    rw [a, wrap_u8 (by omega) (by omega)]
  rw [wrap_u8 (x := (p.mx.length : Int)) (by omega) (by omega)]
  have hl : 0 ≤ (p.mx.length : Int) ∧ (p.mx.length : Int) ≤ 15 := by omega
  simp only [fst, decide_eq_true_eq]
  generalize (p.mx.length : Int) = n at hl
  by_cases a : 0 < p.pad <;> cases b : p.ex <;> simp [a]
  · exact g 10 n (by omega) hl
  · exact g 11 n (by omega) hl
  · exact g 8 n (by omega) hl
  · exact g 9 n (by omega) hl
theorem snd_w {p : Pkt} (h : chk p = 0) (hr : pok p) : ior .u8 (if p.mr = true then 128 else 0) p.ty = snd p := by
  have hn := (chk_ok h).1
  have ht := hr.1
  have g : ∀ c n : Int, 0 ≤ c ∧ c ≤ 1 → 0 ≤ n ∧ n ≤ 127 → ior .u8 (c * 128) n = c * 128 + n := fun c n hc hn => by
    have a := ior_mul (n := 7) (k := .u8) (x := c) (y := n) (by omega) (by omega) (by show c * 128 < 256; omega) (by show n < (128 : Int); omega) (by decide)
    rw [show ((2 ^ 7 : Nat) : Int) = 128 from rfl] at a
    rw [a, wrap_u8 (by omega) (by omega)]
  simp only [snd]
  cases p.mr <;> simp
  · have := g 0 p.ty (by omega) (by omega); simpa using this
  · exact g 1 p.ty (by omega) (by omega)
theorem sq_w {p : Pkt} (hr : pok p) : [IntKind.u8.wrap (ishr .u16 p.sq 8), IntKind.u8.wrap p.sq] = b2 p.sq := by
  rw [byte_r hr.2.1, mod_u8]; rfl
theorem ext_w {e n : Int} (he : 0 ≤ e ∧ e ≤ 65535) (hn : 0 ≤ n ∧ n ≤ 1020) : ior .u32 (ishl .u32 (IntKind.u32.wrap e) 16) (IntKind.u32.wrap (Int.tdiv n 4)) = e * 65536 + n / 4 := by
  have e1 : ishl .u32 (IntKind.u32.wrap e) 16 = e * 65536 := by
    show IntKind.u32.wrap (_ * 2 ^ (min 16 32)) = _
    rw [wrap_u32 (x := e) (by omega) (by omega), show ((2 : Int) ^ (min 16 32)) = 65536 from rfl, wrap_u32 (by omega) (by omega)]
  have a := ior_mul (n := 16) (k := .u32) (x := e) (y := n / 4) (by omega) (by omega) (by show e * 65536 < 4294967296; omega) (by show n / 4 < (65536 : Int); omega) (by decide)
  rw [show ((2 ^ 16 : Nat) : Int) = 65536 from rfl] at a
  rw [e1, Int.tdiv_eq_ediv_of_nonneg (by omega), wrap_u32 (x := n / 4) (by omega) (by omega), a, wrap_u32 (by omega) (by omega)]
theorem ext_b {e n : Int} (he : 0 ≤ e ∧ e ≤ 65535) (hn : 0 ≤ n ∧ n ≤ 1020) : b4 (e * 65536 + n / 4) = b2 e ++ b2 (n / 4) := by
  simp only [b4, b2, List.cons_append, List.nil_append, List.cons.injEq, and_true]; omega
theorem cur_w {p : Pkt} (h : chk p = 0) (hr : pok p) : ior .u8 (ior .u8 (ior .u8 128 (if decide (0 < p.pad) = true then 32 else 0)) (if p.ex = true then 16 else 0)) (IntKind.u8.wrap (p.mx.length : Int)) :: ior .u8 (if p.mr = true then 128 else 0) p.ty :: IntKind.u8.wrap (ishr .u16 p.sq 8) :: IntKind.u8.wrap p.sq :: (([] ++ b4 p.tm) ++ b4 p.sr) = cur p 0 := by
  rw [cur_0, head, fst_w h, snd_w h hr, ← sq_w hr]; rfl
theorem rcur_w {p : Pkt} (hr : pok p) {c d : Int} (hc : c = fst p) (hd : d = snd p) : c :: d :: ((([] ++ be (IntKind.i64.wrap p.sq) 2) ++ be (IntKind.i64.wrap p.tm) 4) ++ be (IntKind.i64.wrap p.sr) 4) = cur p 0 := by
  have h1 := hr.2.1
  have h2 := hr.2.2.1
  have h3 := hr.2.2.2.1
  simp only [r32] at h2 h3
  rw [hc, hd, wrap_i64 (x := p.sq) (by omega) (by omega), wrap_i64 (x := p.tm) (by omega) (by omega), wrap_i64 (x := p.sr) (by omega) (by omega), be_b2, be_b4, be_b4, cur_0, head]; rfl
theorem rcur_v {p : Pkt} {c d : Int} (hc : c = fst p) (hd : d = snd p) : c :: d :: ((([] ++ be p.sq 2) ++ be p.tm 4) ++ be p.sr 4) = cur p 0 := by
  rw [hc, hd, be_b2, be_b4, be_b4, cur_0, head]; rfl
theorem i_r {x : Int} (h : 0 ≤ x ∧ x ≤ 4294967295) : IntKind.i64.wrap x = x := wrap_i64 (by omega) (by omega)
theorem mid_t {p : Pkt} {i : Nat} (h : p.ex = true) (hi : p.mx.length ≤ i) : (((cur p i ++ be p.ek 2) ++ be ((p.xt.length : Int) / 4) 2) ++ p.xt) ++ p.pl = mid p := by
  rw [cur_end hi, mid, ext, if_pos h, be_b2, be_b2]; simp
theorem mid_f {p : Pkt} {i : Nat} (h : p.ex = false) (hi : p.mx.length ≤ i) : cur p i ++ p.pl = mid p := by
  rw [cur_end hi, mid, ext, if_neg (by simp [h])]; simp
theorem mid_lt {p : Pkt} (h : p.ex = true) : (mid p).length = 12 + 4 * p.mx.length + 4 + p.xt.length + p.pl.length := by
  have e : ∀ n : Int, (b2 n).length = 2 := fun _ => rfl
  rw [mid, ext, if_pos h]; simp only [List.length_append, head_len, b4s_len, e]; omega
theorem mid_lf {p : Pkt} (h : p.ex = false) : (mid p).length = 12 + 4 * p.mx.length + p.pl.length := by
  rw [mid, ext, if_neg (by simp [h])]; simp only [List.length_append, head_len, b4s_len, List.length_nil]; omega
def zs (p : Pkt) (k : Nat) : List Int := mid p ++ List.replicate k 0
theorem zs_0 (p : Pkt) : zs p 0 = mid p := by simp [zs]
theorem zs_s (p : Pkt) (k : Nat) : zs p k ++ [0] = zs p (k + 1) := by simp [zs, List.replicate_succ']
theorem zs_l (p : Pkt) (k : Nat) : (zs p k).length = (mid p).length + k := by simp [zs]
theorem zs_end {p : Pkt} {k : Nat} (h : (k : Int) + 1 = p.pad) (hp : p.pad ≤ 255) : zs p k ++ [IntKind.u8.wrap p.pad] = bytes p := by
  rw [wrap_u8 (by omega) (by omega), bytes, padz, if_pos (by omega), zs, ← h, show ((k : Int) + 1 - 1).toNat = k by omega, List.append_assoc]
theorem zs_end' {p : Pkt} {k : Nat} (h : (k : Int) + 1 = p.pad) : zs p k ++ [p.pad] = bytes p := by
  rw [bytes, padz, if_pos (by omega), zs, ← h, show ((k : Int) + 1 - 1).toNat = k by omega, List.append_assoc]
theorem zs_no {p : Pkt} (h : p.pad ≤ 0) : mid p = bytes p := by rw [bytes, padz, if_neg (by omega), List.append_nil]
theorem set_pad (l : List Int) {n : Int} (h : 0 < n) : (l ++ List.replicate n.toNat 0).set (l.length + (n - 1).toNat) n = l ++ padz n := by
  rw [padz, if_pos h, List.set_append_right _ _ (by omega), show l.length + (n - 1).toNat - l.length = (n - 1).toNat by omega]
  congr 1
  rw [show n.toNat = (n - 1).toNat + 1 by omega, List.replicate_succ', List.set_append_right _ _ (by simp)]
  simp
end Sp
def aP (p : Sp.Pkt) : List AV := [.c (.bool p.mr), .c (.int .u8 p.ty), .c (.int .u16 p.sq), .c (.int .u32 p.tm), .c (.int .u32 p.sr), .ri .u32 p.mx, .c (.bool p.ex), .c (.int .u16 p.ek), .ri .u8 p.xt, .ri .u8 p.pl, .c (.int .i64 p.pad)]

end Go.Proofs.Ytcnklcnehpkfaaa
