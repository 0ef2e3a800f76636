/-
  A part of the walk: contracts of functions, each proved once.
-/
import Derived.Test.YtgkeopjnfkgpbaaEvRun
import Derived.Test.YtgkeopjnfkgpbaaK26E
namespace Go.Proofs.Ytgkeopjnfkgpbaa
open Go Go.Ev
set_option linter.unusedVariables false
set_option linter.unusedSimpArgs false
set_option maxRecDepth 20000
namespace Sp
def bt (b : List Int) (n : Nat) : Int := b.getD n 0
theorem bt_def (b : List Int) (n : Nat) : b.getD n 0 = bt b n := rfl
theorem bt_range {b : List Int} (hb : ∀ x ∈ b, 0 ≤ x ∧ x ≤ 255) (j : Nat) : 0 ≤ bt b j ∧ bt b j ≤ 255 := getD_in hb (by omega) j
def v4 (b : List Int) (i : Nat) : Int := bt b i * 16777216 + bt b (i + 1) * 65536 + bt b (i + 2) * 256 + bt b (i + 3)
def v3 (b : List Int) (i : Nat) : Int := bt b i * 65536 + bt b (i + 1) * 256 + bt b (i + 2)
def v2 (b : List Int) (i : Nat) : Int := bt b i * 256 + bt b (i + 1)
def v8 (b : List Int) (i : Nat) : Int := v4 b i * 4294967296 + v4 b (i + 4)
def sx (n : Int) : Int := if 8388608 ≤ n then n - 16777216 else n
def blk (b : List Int) (p : Nat) : Blk := ⟨v4 b p, bt b (p + 4), sx (v3 b (p + 5)), v4 b (p + 8), v4 b (p + 12), v4 b (p + 16), v4 b (p + 20)⟩
def dS (b : List Int) : Bool := decide (bt b 1 = 200)
def dM (b : List Int) : Nat := (bt b 0 % 32).toNat
def dZ (b : List Int) : Int := size (dS b) (dM b)
def dE (b : List Int) : Int := if b.length < 4 then 6 else if ¬ bt b 0 / 32 = 4 then 15 else if ¬ bt b 1 = 200 ∧ ¬ bt b 1 = 201 then 15 else if ¬ v2 b 2 = dZ b / 4 - 1 then 5 else if b.length < dZ b then 6 else 0
def dN (b : List Int) : Int := if b.length < 4 then b.length else if ¬ bt b 0 / 32 = 4 then 0 else if ¬ bt b 1 = 200 ∧ ¬ bt b 1 = 201 then 1 else if ¬ v2 b 2 = dZ b / 4 - 1 then 2 else if b.length < dZ b then b.length else dZ b
def base (b : List Int) : Nat := if dS b = true then 28 else 8
def blks (b : List Int) (j : Nat) : List Blk := (List.range j).map fun i => blk b (base b + 24 * i)
def r0 : Rep := ⟨false, 0, 0, 0, 0, 0, []⟩
def dR (b : List Int) : Rep := if dE b = 0 then (if dS b = true then ⟨true, v4 b 4, v8 b 8, v4 b 16, v4 b 20, v4 b 24, blks b (dM b)⟩ else ⟨false, v4 b 4, 0, 0, 0, 0, blks b (dM b)⟩) else r0
theorem v4_rng {b : List Int} (hb : ∀ x ∈ b, 0 ≤ x ∧ x ≤ 255) (i : Nat) : 0 ≤ v4 b i ∧ v4 b i ≤ 4294967295 := by
  have h0 := bt_range hb i
  have h1 := bt_range hb (i + 1)
  have h2 := bt_range hb (i + 2)
  have h3 := bt_range hb (i + 3)
  simp only [v4]; omega
theorem v3_rng {b : List Int} (hb : ∀ x ∈ b, 0 ≤ x ∧ x ≤ 255) (i : Nat) : 0 ≤ v3 b i ∧ v3 b i ≤ 16777215 := by
  have h0 := bt_range hb i
  have h1 := bt_range hb (i + 1)
  have h2 := bt_range hb (i + 2)
  simp only [v3]; omega
theorem ior4 {x0 x1 x2 x3 : Int} (h0 : 0 ≤ x0 ∧ x0 ≤ 255) (h1 : 0 ≤ x1 ∧ x1 ≤ 255) (h2 : 0 ≤ x2 ∧ x2 ≤ 255) (h3 : 0 ≤ x3 ∧ x3 ≤ 255) :
    ior .u32 (ior .u32 (ior .u32 (ishl .u32 x0 24) (ishl .u32 x1 16)) (ishl .u32 x2 8)) x3 = x0 * 16777216 + x1 * 65536 + x2 * 256 + x3 := by
  have e0 : ishl .u32 x0 24 = x0 * 16777216 := by
    show IntKind.u32.wrap (_ * 2 ^ (min 24 32)) = _
    rw [show ((2 : Int) ^ (min 24 32)) = 16777216 from rfl, wrap_u32 (by omega) (by omega)]
  have e1 : ishl .u32 x1 16 = x1 * 65536 := by
    show IntKind.u32.wrap (_ * 2 ^ (min 16 32)) = _
    rw [show ((2 : Int) ^ (min 16 32)) = 65536 from rfl, wrap_u32 (by omega) (by omega)]
  have e2 : ishl .u32 x2 8 = x2 * 256 := by
    show IntKind.u32.wrap (_ * 2 ^ (min 8 32)) = _
    rw [show ((2 : Int) ^ (min 8 32)) = 256 from rfl, wrap_u32 (by omega) (by omega)]
  have a := ior_mul (n := 24) (k := .u32) (x := x0) (y := x1 * 65536) (by omega) (by omega) (by show _ * (16777216 : Int) < 4294967296; omega) (by show _ < (16777216 : Int); omega) (by decide)
  have b := ior_mul (n := 16) (k := .u32) (x := x0 * 256 + x1) (y := x2 * 256) (by omega) (by omega) (by show _ * (65536 : Int) < 4294967296; omega) (by show _ < (65536 : Int); omega) (by decide)
  have c := ior_mul (n := 8) (k := .u32) (x := x0 * 65536 + x1 * 256 + x2) (y := x3) (by omega) (by omega) (by show _ * (256 : Int) < 4294967296; omega) (by show _ < (256 : Int); omega) (by decide)
  rw [show ((2 ^ 24 : Nat) : Int) = 16777216 from rfl] at a
  rw [show ((2 ^ 16 : Nat) : Int) = 65536 from rfl] at b
  rw [show ((2 ^ 8 : Nat) : Int) = 256 from rfl] at c
  rw [e0, e1, e2, a, wrap_u32 (x := _ + _) (by omega) (by omega), show x0 * 16777216 + x1 * 65536 = (x0 * 256 + x1) * 65536 by omega, b, wrap_u32 (x := _ + _) (by omega) (by omega), show (x0 * 256 + x1) * 65536 + x2 * 256 = (x0 * 65536 + x1 * 256 + x2) * 256 by omega, c, wrap_u32 (by omega) (by omega)]
theorem next_w {b : List Int} (hb : ∀ x ∈ b, 0 ≤ x ∧ x ≤ 255) (i : Nat) : ior .u32 (ior .u32 (ior .u32 (ishl .u32 (IntKind.u32.wrap (bt b i)) 24) (ishl .u32 (IntKind.u32.wrap (bt b (i + 1))) 16)) (ishl .u32 (IntKind.u32.wrap (bt b (i + 2))) 8)) (IntKind.u32.wrap (bt b (i + 3))) = v4 b i := by
  have h0 := bt_range hb i
  have h1 := bt_range hb (i + 1)
  have h2 := bt_range hb (i + 2)
  have h3 := bt_range hb (i + 3)
  rw [wrap_u32 (by omega) (by omega), wrap_u32 (by omega) (by omega), wrap_u32 (by omega) (by omega), wrap_u32 (by omega) (by omega), ior4 h0 h1 h2 h3]; rfl
theorem val_step {b : List Int} {j : Nat} (hj : j < b.length) {acc : Int} : (b.take (j + 1)).foldl (fun a x => 256 * a + x) acc = 256 * (b.take j).foldl (fun a x => 256 * a + x) acc + b.getD j 0 := by
  rw [take_succ_getD (d := 0) hj, List.foldl_append]; rfl
def val (b : List Int) : Int := b.foldl (fun a x => 256 * a + x) 0
theorem val_rng : ∀ {b : List Int}, (∀ x ∈ b, 0 ≤ x ∧ x ≤ 255) → ∀ j, j ≤ b.length → 0 ≤ val (b.take j) ∧ val (b.take j) < 256 ^ j
  | b, hb, 0, _ => by simp [val]
  | b, hb, j + 1, h => by
    have ih := val_rng hb j (by omega)
    have hg := getD_in hb (by omega) (d := 0) j
    have e : val (b.take (j + 1)) = 256 * val (b.take j) + b.getD j 0 := val_step (by omega)
    rw [e, Int.pow_succ]; omega
theorem dE6 {b : List Int} (h : (b.length : Int) < 4) : dE b = 6 ∧ dN b = b.length ∧ dR b = r0 := by
  have e : dE b = 6 := by simp only [dE]; rw [if_pos (by omega)]
  refine ⟨e, ?_, by simp only [dR, e]; rfl⟩
  simp only [dN]; rw [if_pos (by omega)]
theorem dE15 {b : List Int} (h : 4 ≤ (b.length : Int)) (h2 : ¬ bt b 0 / 32 = 4) : dE b = 15 ∧ dN b = 0 ∧ dR b = r0 := by
  have e : dE b = 15 := by simp only [dE]; rw [if_neg (by omega), if_pos h2]
  refine ⟨e, ?_, by simp only [dR, e]; rfl⟩
  simp only [dN]; rw [if_neg (by omega), if_pos h2]
theorem dE15' {b : List Int} (h : 4 ≤ (b.length : Int)) (h2 : bt b 0 / 32 = 4) (h3 : ¬ bt b 1 = 200 ∧ ¬ bt b 1 = 201) : dE b = 15 ∧ dN b = 1 ∧ dR b = r0 := by
  have e : dE b = 15 := by simp only [dE]; rw [if_neg (by omega), if_neg (by omega), if_pos h3]
  refine ⟨e, ?_, by simp only [dR, e]; rfl⟩
  simp only [dN]; rw [if_neg (by omega), if_neg (by omega), if_pos h3]
theorem dE5 {b : List Int} (h : 4 ≤ (b.length : Int)) (h2 : bt b 0 / 32 = 4) (h3 : bt b 1 = 200 ∨ bt b 1 = 201) (h4 : ¬ v2 b 2 = dZ b / 4 - 1) : dE b = 5 ∧ dN b = 2 ∧ dR b = r0 := by
  have e : dE b = 5 := by simp only [dE]; rw [if_neg (by omega), if_neg (by omega), if_neg (by omega), if_pos h4]
  refine ⟨e, ?_, by simp only [dR, e]; rfl⟩
  simp only [dN]; rw [if_neg (by omega), if_neg (by omega), if_neg (by omega), if_pos h4]
theorem dE6' {b : List Int} (h : 4 ≤ (b.length : Int)) (h2 : bt b 0 / 32 = 4) (h3 : bt b 1 = 200 ∨ bt b 1 = 201) (h4 : v2 b 2 = dZ b / 4 - 1) (h5 : (b.length : Int) < dZ b) : dE b = 6 ∧ dN b = b.length ∧ dR b = r0 := by
  have e : dE b = 6 := by simp only [dE]; rw [if_neg (by omega), if_neg (by omega), if_neg (by omega), if_neg (by omega), if_pos h5]
  refine ⟨e, ?_, by simp only [dR, e]; rfl⟩
  simp only [dN]; rw [if_neg (by omega), if_neg (by omega), if_neg (by omega), if_neg (by omega), if_pos h5]
theorem dE0 {b : List Int} (h : 4 ≤ (b.length : Int)) (h2 : bt b 0 / 32 = 4) (h3 : bt b 1 = 200 ∨ bt b 1 = 201) (h4 : v2 b 2 = dZ b / 4 - 1) (h5 : dZ b ≤ (b.length : Int)) : dE b = 0 ∧ dN b = dZ b := by
  have e : dE b = 0 := by simp only [dE]; rw [if_neg (by omega), if_neg (by omega), if_neg (by omega), if_neg (by omega), if_neg (by omega)]
  refine ⟨e, ?_⟩
  simp only [dN]; rw [if_neg (by omega), if_neg (by omega), if_neg (by omega), if_neg (by omega), if_neg (by omega)]
theorem dM_rng {b : List Int} (hb : ∀ x ∈ b, 0 ≤ x ∧ x ≤ 255) : dM b ≤ 31 ∧ (dM b : Int) = bt b 0 % 32 := by
  have := bt_range hb 0; simp only [dM]; omega
theorem dZ_eq {b : List Int} (hb : ∀ x ∈ b, 0 ≤ x ∧ x ≤ 255) : dZ b = base b + 24 * dM b ∧ 8 ≤ dZ b ∧ dZ b ≤ 772 := by
  have := dM_rng hb
  simp only [dZ, size, base]; split <;> omega
theorem blks_succ (b : List Int) (j : Nat) : blks b (j + 1) = blks b j ++ [blk b (base b + 24 * j)] := by simp [blks, List.range_succ]
theorem blks_len (b : List Int) (j : Nat) : (blks b j).length = j := by simp [blks]
theorem sx_w {n : Int} (h : 0 ≤ n ∧ n ≤ 4294967295) : IntKind.i64.wrap (ishr .i32 (IntKind.i32.wrap (ishl .u32 n 8)) 8) = sx (n % 16777216) := by
  have e1 : ishl .u32 n 8 = n * 256 % 4294967296 := by
    show IntKind.u32.wrap (_ * 2 ^ (min 8 32)) = _
    rw [show ((2 : Int) ^ (min 8 32)) = 256 from rfl, mod_u32]
  have e2 : ∀ x : Int, ishr .i32 x 8 = x / 256 := fun x => by
    show x.fdiv (2 ^ (min 8 32)) = _
    rw [show ((2 : Int) ^ (min 8 32)) = 256 from rfl, Int.fdiv_eq_ediv_of_nonneg _ (by omega)]
  have e3 : ∀ y : Int, 0 ≤ y ∧ y ≤ 4294967295 → IntKind.i32.wrap y = if 2147483648 ≤ y then y - 4294967296 else y := fun y hy => by
    split
    · have : IntKind.i32.wrap y = IntKind.i32.wrap (y - 4294967296) := by
        show (if _ then _ else _) = (if _ then _ else _)
        simp only [show (y - 4294967296) % (2 ^ IntKind.i32.bits) = y % (2 ^ IntKind.i32.bits) from by show (y - 4294967296) % 4294967296 = y % 4294967296; omega]
      rw [this, wrap_i32 (by omega) (by omega)]
    · exact wrap_i32 (by omega) (by omega)
  rw [e2, e1, e3 _ (by omega), wrap_i64 (by split <;> omega) (by split <;> omega)]
  simp only [sx]; split <;> split <;> omega
theorem fr_w {n : Int} (h : 0 ≤ n ∧ n ≤ 4294967295) : IntKind.u8.wrap (ishr .u32 n 24) = n / 16777216 := by
  rw [byte_0 h]; omega
theorem v4_hi {b : List Int} (hb : ∀ x ∈ b, 0 ≤ x ∧ x ≤ 255) (i : Nat) : v4 b i / 16777216 = bt b i ∧ v4 b i % 16777216 = v3 b (i + 1) := by
  have h0 := bt_range hb i
  have h1 := bt_range hb (i + 1)
  have h2 := bt_range hb (i + 2)
  have h3 := bt_range hb (i + 3)
  simp only [v4, v3, show i + 1 + 1 = i + 2 from rfl, show i + 1 + 2 = i + 3 from rfl]; omega
def dF (b : List Int) : Rep := if dS b = true then ⟨true, v4 b 4, v8 b 8, v4 b 16, v4 b 20, v4 b 24, []⟩ else ⟨false, v4 b 4, 0, 0, 0, 0, []⟩
theorem dS_t {b : List Int} (h : bt b 1 = 200) : dS b = true := decide_eq_true h
theorem dS_f {b : List Int} (h : ¬ bt b 1 = 200) : dS b = false := decide_eq_false h
theorem dF_t {b : List Int} (h : bt b 1 = 200) : dF b = ⟨true, v4 b 4, v8 b 8, v4 b 16, v4 b 20, v4 b 24, []⟩ := by simp only [dF, dS_t h, if_true]
theorem dF_f {b : List Int} (h : ¬ bt b 1 = 200) : dF b = ⟨false, v4 b 4, 0, 0, 0, 0, []⟩ := by simp [dF, dS_f h]
theorem dR_ok {b : List Int} (h : dE b = 0) : dR b = ⟨(dF b).snd, (dF b).src, (dF b).clk, (dF b).t, (dF b).p, (dF b).o, blks b (dM b)⟩ := by
  simp only [dR, dF]; rw [if_pos h]; split <;> rfl
theorem dS_beq (b : List Int) : (bt b 1 == 200) = dS b := by simp only [dS]; rw [Bool.eq_iff_iff]; simp
theorem m_w {b : List Int} (hb : ∀ x ∈ b, 0 ≤ x ∧ x ≤ 255) : IntKind.i64.wrap (iand .u8 (bt b 0) 31) = (dM b : Int) := by
  have h := bt_range hb 0
  have := dM_rng hb
  have e : iand .u8 (bt b 0) 31 = bt b 0 % 32 := iand_u8 5 h (by omega)
  rw [e, wrap_i64 (by omega) (by omega)]; omega
theorem m_r {b : List Int} (hb : ∀ x ∈ b, 0 ≤ x ∧ x ≤ 255) : Int.tmod (IntKind.i64.wrap (bt b 0)) 32 = (dM b : Int) := by
  have h := bt_range hb 0
  have := dM_rng hb
  rw [wrap_i64 (by omega) (by omega), Int.tmod_eq_emod_of_nonneg (by omega)]; omega
theorem z_w (b : List Int) : size (dS b) (dM b : Int) = dZ b := rfl
theorem top3 {b : List Int} (hb : ∀ x ∈ b, 0 ≤ x ∧ x ≤ 255) : ishr .u8 (bt b 0) 5 = bt b 0 / 32 := by
  have h := bt_range hb 0
  show (bt b 0).fdiv (2 ^ (min 5 8)) = _
  rw [show ((2 : Int) ^ (min 5 8)) = 32 from rfl, Int.fdiv_eq_ediv_of_nonneg _ (by omega)]
theorem shl8 {x : Int} (h : 0 ≤ x ∧ x ≤ 255) : ishl .i64 x 8 = x * 256 := by
  show IntKind.i64.wrap (x * 2 ^ (min 8 64)) = _
  rw [show ((2 : Int) ^ (min 8 64)) = 256 from rfl, wrap_i64 (by omega) (by omega)]
theorem clk_w {b : List Int} (hb : ∀ x ∈ b, 0 ≤ x ∧ x ≤ 255) : ior .u64 (ishl .u64 (IntKind.u64.wrap (v4 b 8)) 32) (IntKind.u64.wrap (v4 b 12)) = v8 b 8 := by
  have h1 := v4_rng hb 8
  have h2 := v4_rng hb 12
  have e1 : ishl .u64 (IntKind.u64.wrap (v4 b 8)) 32 = v4 b 8 * 4294967296 := by
    show IntKind.u64.wrap (_ * 2 ^ (min 32 64)) = _
    rw [wrap_u64 (x := v4 b 8) (by omega) (by omega), show ((2 : Int) ^ (min 32 64)) = 4294967296 from rfl, wrap_u64 (by omega) (by omega)]
  have a := ior_mul (n := 32) (k := .u64) (x := v4 b 8) (y := v4 b 12) h1.1 h2.1 (by show _ * (4294967296 : Int) < 18446744073709551616; omega) (by show _ < (4294967296 : Int); omega) (by decide)
  rw [show ((2 ^ 32 : Nat) : Int) = 4294967296 from rfl] at a
  rw [e1, wrap_u64 (x := v4 b 12) (by omega) (by omega), a, wrap_u64 (by omega) (by omega)]; rfl
theorem tn0 (n : Nat) : Int.toNat (n : Int) = n := rfl
theorem tn1 (n : Nat) : Int.toNat ((n : Int) + 4) = n + 4 := by omega
theorem tn2 (n : Nat) : Int.toNat ((n : Int) + 4 + 4) = n + 8 := by omega
theorem tn3 (n : Nat) : Int.toNat ((n : Int) + 4 + 4 + 4) = n + 12 := by omega
theorem tn4 (n : Nat) : Int.toNat ((n : Int) + 4 + 4 + 4 + 4) = n + 16 := by omega
theorem tn5 (n : Nat) : Int.toNat ((n : Int) + 4 + 4 + 4 + 4 + 4) = n + 20 := by omega
theorem lost_w2 {b : List Int} (hb : ∀ x ∈ b, 0 ≤ x ∧ x ≤ 255) (i : Nat) : IntKind.i64.wrap (ishr .i32 (IntKind.i32.wrap (ishl .u32 (v4 b (i + 4)) 8)) 8) = sx (v3 b (i + 5)) := by
  rw [sx_w (v4_rng hb _), (v4_hi hb _).2]
theorem frac_w2 {b : List Int} (hb : ∀ x ∈ b, 0 ≤ x ∧ x ≤ 255) (i : Nat) : IntKind.u8.wrap (ishr .u32 (v4 b (i + 4)) 24) = bt b (i + 4) := by
  rw [fr_w (v4_rng hb _), (v4_hi hb _).1]
theorem val_w {b : List Int} (hb : ∀ x ∈ b, 0 ≤ x ∧ x ≤ 255) {j : Nat} (hj : j < b.length) (hl : b.length ≤ 8) : IntKind.u64.wrap (IntKind.u64.wrap (256 * val (b.take j)) + IntKind.u64.wrap (b.getD j 0)) = val (b.take (j + 1)) := by
  have h1 := val_rng hb j (by omega)
  have h2 := getD_in hb (by omega) (d := 0) j
  have h3 : (256 : Int) ^ j ≤ 256 ^ 7 := by
    have := Nat.pow_le_pow_right (n := 256) (by decide) (show j ≤ 7 by omega)
    exact_mod_cast this
  have h4 : (256 : Int) ^ 7 = 72057594037927936 := by decide
  have e : val (b.take (j + 1)) = 256 * val (b.take j) + b.getD j 0 := val_step hj
  rw [e, wrap_u64 (x := 256 * _) (by omega) (by omega), wrap_u64 (x := b.getD j 0) (by omega) (by omega), wrap_u64 (by omega) (by omega)]
theorem seg (b : List Int) {i k n : Nat} (h : k = i + n) (hk : k ≤ b.length) : (b.take k).drop i = (List.range n).map fun m => bt b (i + m) := by
  subst h
  apply List.ext_getElem
  · simp; omega
  · intro m h1 h2
    simp at h1 h2
    simp [bt, List.getD, List.getElem?_eq_getElem (show i + m < b.length by omega)]
theorem val4 (b : List Int) {i k : Nat} (h : k = i + 4) (hk : k ≤ b.length) : val ((b.take k).drop i) = v4 b i := by
  rw [seg b h hk]; simp [List.range_succ, val, v4]; omega
theorem val3 (b : List Int) {i k : Nat} (h : k = i + 3) (hk : k ≤ b.length) : val ((b.take k).drop i) = v3 b i := by
  rw [seg b h hk]; simp [List.range_succ, val, v3]; omega
theorem val2 (b : List Int) {i k : Nat} (h : k = i + 2) (hk : k ≤ b.length) : val ((b.take k).drop i) = v2 b i := by
  rw [seg b h hk]; simp [List.range_succ, val, v2]; omega
theorem val8 (b : List Int) {i k : Nat} (h : k = i + 8) (hk : k ≤ b.length) : val ((b.take k).drop i) = v8 b i := by
  rw [seg b h hk]; simp [List.range_succ, val, v8, v4, Nat.add_assoc]; omega
theorem bt_seg (b : List Int) {i k n m : Nat} (h : k = i + n) (hk : k ≤ b.length) (hm : m < n) : bt ((b.take k).drop i) m = bt b (i + m) := by
  rw [seg b h hk]; simp [bt, List.getD, hm]
theorem blk_seg (b : List Int) {i k : Nat} (h : k = i + 24) (hk : k ≤ b.length) : blk ((b.take k).drop i) 0 = blk b i := by
  simp only [blk, v4, v3, Nat.zero_add]
  simp only [bt_seg b h hk (show 0 < 24 by decide), bt_seg b h hk (show 1 < 24 by decide), bt_seg b h hk (show 2 < 24 by decide), bt_seg b h hk (show 3 < 24 by decide), bt_seg b h hk (show 4 < 24 by decide), bt_seg b h hk (show 5 < 24 by decide), bt_seg b h hk (show 6 < 24 by decide), bt_seg b h hk (show 7 < 24 by decide), bt_seg b h hk (show 8 < 24 by decide), bt_seg b h hk (show 9 < 24 by decide), bt_seg b h hk (show 10 < 24 by decide), bt_seg b h hk (show 11 < 24 by decide), bt_seg b h hk (show 12 < 24 by decide), bt_seg b h hk (show 13 < 24 by decide), bt_seg b h hk (show 14 < 24 by decide), bt_seg b h hk (show 15 < 24 by decide), bt_seg b h hk (show 16 < 24 by decide), bt_seg b h hk (show 17 < 24 by decide), bt_seg b h hk (show 18 < 24 by decide), bt_seg b h hk (show 19 < 24 by decide), bt_seg b h hk (show 20 < 24 by decide), bt_seg b h hk (show 21 < 24 by decide), bt_seg b h hk (show 22 < 24 by decide), bt_seg b h hk (show 23 < 24 by decide), Nat.add_assoc, Nat.reduceAdd, Nat.add_zero]
theorem vw4 {b : List Int} (hb : ∀ x ∈ b, 0 ≤ x ∧ x ≤ 255) (i : Nat) : IntKind.u32.wrap (v4 b i) = v4 b i := by have := v4_rng hb i; exact wrap_u32 (by omega) (by omega)
theorem vw3 {b : List Int} (hb : ∀ x ∈ b, 0 ≤ x ∧ x ≤ 255) (i : Nat) : IntKind.i64.wrap (v3 b i) = v3 b i := by have := v3_rng hb i; exact wrap_i64 (by omega) (by omega)
theorem v2_rng {b : List Int} (hb : ∀ x ∈ b, 0 ≤ x ∧ x ≤ 255) (i : Nat) : 0 ≤ v2 b i ∧ v2 b i ≤ 65535 := by
  have h0 := bt_range hb i
  have h1 := bt_range hb (i + 1)
  simp only [v2]; omega
theorem vw2 {b : List Int} (hb : ∀ x ∈ b, 0 ≤ x ∧ x ≤ 255) (i : Nat) : IntKind.i64.wrap (v2 b i) = v2 b i := by have := v2_rng hb i; exact wrap_i64 (by omega) (by omega)
theorem sub_in {b : List Int} (hb : ∀ x ∈ b, 0 ≤ x ∧ x ≤ 255) (i k : Nat) : ∀ x ∈ (b.take k).drop i, 0 ≤ x ∧ x ≤ 255 := fun x hx => hb x (List.mem_of_mem_take (List.mem_of_mem_drop hx))
theorem z4 {b : List Int} (hb : ∀ x ∈ b, 0 ≤ x ∧ x ≤ 255) : dZ b % 4 = 0 := by
  have := dZ_eq hb
  have : base b = 28 ∨ base b = 8 := by simp only [base]; split <;> simp
  omega
theorem dF_T {b : List Int} (h : dS b = true) : dF b = ⟨true, v4 b 4, v8 b 8, v4 b 16, v4 b 20, v4 b 24, []⟩ := by simp only [dF, h, if_true]
theorem dF_F {b : List Int} (h : dS b = false) : dF b = ⟨false, v4 b 4, 0, 0, 0, 0, []⟩ := by simp [dF, h]
theorem base_T {b : List Int} (h : dS b = true) : base b = 28 := by simp only [base, h, if_true]
theorem base_F {b : List Int} (h : dS b = false) : base b = 8 := by simp [base, h]
theorem dF_s (b : List Int) : (b.getD 1 0 == 200) = (dF b).snd := by
  show (bt b 1 == 200) = _
  rw [dS_beq]; simp only [dF]; split <;> simp_all
theorem m_e {b : List Int} (hb : ∀ x ∈ b, 0 ≤ x ∧ x ≤ 255) : bt b 0 % 32 = (dM b : Int) := (dM_rng hb).2.symm
theorem or200 {b : List Int} (h : ¬ bt b 1 = 200 → bt b 1 = 201) : bt b 1 = 200 ∨ bt b 1 = 201 := by omega
theorem val40 (b : List Int) (h : 4 ≤ b.length) : val (b.take 4) = v4 b 0 := by
  have := val4 b (i := 0) (k := 4) rfl h
  rwa [List.drop_zero] at this
theorem lt200 {x : Int} (h : (if decide (x < 200) = true then true else decide (201 < x)) = true) : ¬ x = 200 ∧ ¬ x = 201 := by
  by_cases h1 : x < 200
  · omega
  · simp [h1] at h; omega
theorem lt200' {x : Int} (h : (if decide (x < 200) = true then true else decide (201 < x)) = false) : x = 200 ∨ x = 201 := by
  by_cases h1 : x < 200
  · simp [h1] at h
  · simp [h1] at h; omega
theorem at_w {b : List Int} (hb : ∀ x ∈ b, 0 ≤ x ∧ x ≤ 255) {j : Nat} (hj : j ≤ dM b) : Int.toNat (dZ b - 24 * ((dM b : Int) - (j : Int))) = base b + 24 * j := by
  have := dZ_eq hb; omega
theorem at_w2 {b : List Int} (hb : ∀ x ∈ b, 0 ≤ x ∧ x ≤ 255) {j : Nat} (hj : j ≤ dM b) : Int.toNat (dZ b - 24 * ((dM b : Int) - (j : Int)) + 24) = base b + 24 * j + 24 := by
  have := dZ_eq hb; omega
theorem at_w3 {b : List Int} (hb : ∀ x ∈ b, 0 ≤ x ∧ x ≤ 255) {j : Nat} (hj : j ≤ dM b) : Int.toNat (IntKind.i64.wrap (dZ b - 24 * ((dM b : Int) - (j : Int)) + 24)) = base b + 24 * j + 24 := by
  have h := dZ_eq hb
  have h2 := dM_rng hb
  rw [wrap_i64 (by omega) (by omega), at_w2 hb hj]
end Sp

end Go.Proofs.Ytgkeopjnfkgpbaa
