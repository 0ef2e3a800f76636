/-
  A part of the walk: contracts of functions, each proved once.
-/
import Derived.Test.YtcnklcnehpkfaaaEvRun
import Derived.Test.YtcnklcnehpkfaaaK25E
namespace Go.Proofs.Ytcnklcnehpkfaaa
open Go Go.Ev
set_option linter.unusedVariables false
set_option linter.unusedSimpArgs false
set_option maxRecDepth 20000
set_option maxHeartbeats 1000000
namespace Sp
def bt (b : List Int) (n : Nat) : Int := b.getD n 0
theorem bt_def (b : List Int) (n : Nat) : b.getD n 0 = bt b n := rfl
theorem bt_range {b : List Int} (hb : ∀ x ∈ b, 0 ≤ x ∧ x ≤ 255) (j : Nat) : 0 ≤ bt b j ∧ bt b j ≤ 255 := getD_in hb (by omega) j
def v4 (b : List Int) (i : Nat) : Int := bt b i * 16777216 + bt b (i + 1) * 65536 + bt b (i + 2) * 256 + bt b (i + 3)
def v2 (b : List Int) (i : Nat) : Int := bt b i * 256 + bt b (i + 1)
theorem v4_rng {b : List Int} (hb : ∀ x ∈ b, 0 ≤ x ∧ x ≤ 255) (i : Nat) : 0 ≤ v4 b i ∧ v4 b i ≤ 4294967295 := by
  have h0 := bt_range hb i
  have h1 := bt_range hb (i + 1)
  have h2 := bt_range hb (i + 2)
  have h3 := bt_range hb (i + 3)
  simp only [v4]; omega
theorem v2_rng {b : List Int} (hb : ∀ x ∈ b, 0 ≤ x ∧ x ≤ 255) (i : Nat) : 0 ≤ v2 b i ∧ v2 b i ≤ 65535 := by
  have h0 := bt_range hb i
  have h1 := bt_range hb (i + 1)
  simp only [v2]; omega
theorem val_step {b : List Int} {j : Nat} (hj : j < b.length) {acc : Int} : (b.take (j + 1)).foldl (fun a x => 256 * a + x) acc = 256 * (b.take j).foldl (fun a x => 256 * a + x) acc + b.getD j 0 := by
  rw [take_succ_getD (d := 0) hj, List.foldl_append]; rfl
def val (b : List Int) : Int := b.foldl (fun a x => 256 * a + x) 0
theorem val_rng : ∀ {b : List Int}, (∀ x ∈ b, 0 ≤ x ∧ x ≤ 255) → ∀ j, j ≤ b.length → 0 ≤ val (b.take j) ∧ val (b.take j) < 256 ^ j
  | b, hb, 0, _ => by simp [val]
  | b, hb, j + 1, h => by
    have ih := val_rng hb j (by omega)
    have hg := getD_in hb (by omega) (d := 0) j
    have e : val (b.take (j + 1)) = 256 * val (b.take j) + b.getD j 0 := val_step (by omega)
    rw [e, Int.pow_succ]; omega
theorem val_r3 {b : List Int} (hb : ∀ x ∈ b, 0 ≤ x ∧ x ≤ 255) {j : Nat} (hj : j < b.length) (hl : b.length ≤ 4) : 0 ≤ val (b.take j) ∧ val (b.take j) < 16777216 := by
  have h1 := val_rng hb j (by omega)
  have h3 : (256 : Int) ^ j ≤ 256 ^ 3 := by
    have := Nat.pow_le_pow_right (n := 256) (by decide) (show j ≤ 3 by omega)
    exact_mod_cast this
  have h4 : (256 : Int) ^ 3 = 16777216 := by decide
  omega
theorem val_w {b : List Int} (hb : ∀ x ∈ b, 0 ≤ x ∧ x ≤ 255) {j : Nat} (hj : j < b.length) (hl : b.length ≤ 4) : IntKind.i64.wrap (IntKind.i64.wrap (256 * val (b.take j)) + IntKind.i64.wrap (b.getD j 0)) = val (b.take (j + 1)) := by
  have h1 := val_r3 hb hj hl
  have h2 := getD_in hb (by omega) (d := 0) j
  have e : val (b.take (j + 1)) = 256 * val (b.take j) + b.getD j 0 := val_step hj
  rw [e, wrap_i64 (x := 256 * _) (by omega) (by omega), wrap_i64 (x := b.getD j 0) (by omega) (by omega), wrap_i64 (by omega) (by omega)]
theorem num_w {b : List Int} (hb : ∀ x ∈ b, 0 ≤ x ∧ x ≤ 255) {j : Nat} (hj : j < b.length) (hl : b.length ≤ 4) : ior .u32 (ishl .u32 (val (b.take j)) 8) (IntKind.u32.wrap (b.getD j 0)) = val (b.take (j + 1)) := by
  have h1 := val_r3 hb hj hl
  have h2 := getD_in hb (by omega) (d := 0) j
  have e : val (b.take (j + 1)) = 256 * val (b.take j) + b.getD j 0 := val_step hj
  have e1 : ishl .u32 (val (b.take j)) 8 = val (b.take j) * 256 := by
    show IntKind.u32.wrap (_ * 2 ^ (min 8 32)) = _
    rw [show ((2 : Int) ^ (min 8 32)) = 256 from rfl, wrap_u32 (by omega) (by omega)]
  have a := ior_mul (n := 8) (k := .u32) (x := val (b.take j)) (y := b.getD j 0) (by omega) (by omega) (by show _ * (256 : Int) < 4294967296; omega) (by show _ < (256 : Int); omega) (by decide)
  rw [show ((2 ^ 8 : Nat) : Int) = 256 from rfl] at a
  rw [e, e1, wrap_u32 (x := b.getD j 0) (by omega) (by omega), a, wrap_u32 (by omega) (by omega)]; omega
theorem seg (b : List Int) {i k n : Nat} (h : k = i + n) (hk : k ≤ b.length) : (b.take k).drop i = (List.range n).map fun m => bt b (i + m) := by
  subst h
  apply List.ext_getElem
  · simp; omega
  · intro m h1 h2
    simp at h1 h2
    simp [bt, List.getD, List.getElem?_eq_getElem (show i + m < b.length by omega)]
theorem val4 (b : List Int) {i k : Nat} (h : k = i + 4) (hk : k ≤ b.length) : val ((b.take k).drop i) = v4 b i := by
  rw [seg b h hk]; simp [List.range_succ, val, v4]; omega
theorem val2 (b : List Int) {i k : Nat} (h : k = i + 2) (hk : k ≤ b.length) : val ((b.take k).drop i) = v2 b i := by
  rw [seg b h hk]; simp [List.range_succ, val, v2]; omega
theorem sub_in {b : List Int} {i k : Nat} (hb : ∀ x ∈ b, 0 ≤ x ∧ x ≤ 255) : ∀ x ∈ (b.take k).drop i, 0 ≤ x ∧ x ≤ 255 := fun x hx => hb x (List.mem_of_mem_take (List.mem_of_mem_drop hx))
def cut (b : List Int) (p n : Int) : List Int := (b.take (p + n).toNat).drop p.toNat
theorem cut_in {b : List Int} {p n : Int} (hb : ∀ x ∈ b, 0 ≤ x ∧ x ≤ 255) : ∀ x ∈ cut b p n, 0 ≤ x ∧ x ≤ 255 := sub_in hb
theorem cut_len {b : List Int} {p n : Int} (hp : 0 ≤ p) (hn : 0 ≤ n) (h : p + n ≤ b.length) : ((cut b p n).length : Int) = n := by simp only [cut, List.length_drop, List.length_take]; omega
theorem cut4 {b : List Int} {p : Int} {i : Nat} (hp : p = i) (h : p + 4 ≤ b.length) : val (cut b p 4) = v4 b i := by
  subst hp; exact val4 b (by omega) (by omega)
theorem cut2 {b : List Int} {p : Int} {i : Nat} (hp : p = i) (h : p + 2 ≤ b.length) : val (cut b p 2) = v2 b i := by
  subst hp; exact val2 b (by omega) (by omega)
theorem iandu {x : Int} (n : Nat) (hx : 0 ≤ x ∧ x ≤ 255) (hn : n ≤ 8) (m : Int) (hm : m = ((2 ^ n - 1 : Nat) : Int)) : iand .u8 x m = x % ((2 ^ n : Nat) : Int) := by
  subst hm
  have hp : 2 ^ n ≤ 2 ^ 8 := Nat.pow_le_pow_right (by decide) hn
  have h0 : 0 < 2 ^ n := Nat.two_pow_pos n
  obtain ⟨a, rfl⟩ := Int.eq_ofNat_of_zero_le hx.1
  have e1 : (BitVec.ofInt IntKind.u8.bits (a : Int) &&& BitVec.ofInt IntKind.u8.bits ((2 ^ n - 1 : Nat) : Int)).toNat = a % 2 ^ n := by
    rw [BitVec.toNat_and, BitVec.toNat_ofInt, BitVec.toNat_ofInt]
    have a1 : ((((2 ^ n - 1 : Nat) : Int) % ((2 ^ IntKind.u8.bits : Nat) : Int)).toNat) = 2 ^ n - 1 := by
      show ((((2 ^ n - 1 : Nat) : Int) % (256 : Int)).toNat) = 2 ^ n - 1
      rw [Int.emod_eq_of_lt (by omega) (by have : (2 : Nat) ^ 8 = 256 := rfl; omega)]; exact Int.toNat_natCast _
    have a2 : ((((a : Nat) : Int) % ((2 ^ IntKind.u8.bits : Nat) : Int)).toNat) = a := by
      show ((((a : Nat) : Int) % (256 : Int)).toNat) = a
      omega
    rw [a1, a2, Nat.and_two_pow_sub_one_eq_mod]
  show IntKind.u8.wrap _ = _
  rw [e1, ← Int.natCast_emod]
  have h2 := Nat.mod_lt a h0
  exact wrap_u8 (by omega) (by have : (2 : Nat) ^ 8 = 256 := rfl; have := Nat.mod_le a (2 ^ n); omega)
theorem a15 {x : Int} (hx : 0 ≤ x ∧ x ≤ 255) : iand .u8 x 15 = x % 16 := iandu 4 hx (by decide) _ (by decide)
theorem a127 {x : Int} (hx : 0 ≤ x ∧ x ≤ 255) : iand .u8 x 127 = x % 128 := iandu 7 hx (by decide) _ (by decide)
theorem a16 {x : Int} (hx : 0 ≤ x ∧ x ≤ 255) : iand .u8 x 16 = x / 16 % 2 * 16 := by
  obtain ⟨a, rfl⟩ := Int.eq_ofNat_of_zero_le hx.1
  have h : ∀ a : Fin 256, iand .u8 ((a.1 : Nat) : Int) 16 = ((a.1 : Nat) : Int) / 16 % 2 * 16 := by decide +kernel
  exact h ⟨a, by omega⟩
theorem a32 {x : Int} (hx : 0 ≤ x ∧ x ≤ 255) : iand .u8 x 32 = x / 32 % 2 * 32 := by
  obtain ⟨a, rfl⟩ := Int.eq_ofNat_of_zero_le hx.1
  have h : ∀ a : Fin 256, iand .u8 ((a.1 : Nat) : Int) 32 = ((a.1 : Nat) : Int) / 32 % 2 * 32 := by decide +kernel
  exact h ⟨a, by omega⟩
theorem s6 {x : Int} (hx : 0 ≤ x) : ishr .u8 x 6 = x / 64 := by
  show x.fdiv (2 ^ (min 6 8)) = _
  rw [show ((2 : Int) ^ (min 6 8)) = 64 from rfl, Int.fdiv_eq_ediv_of_nonneg _ (by omega)]
def nz (b : List Int) : Nat → Nat → Nat
  | i, 0 => i
  | i, k + 1 => if bt b i = 0 then nz b (i + 1) k else i
theorem nz_s {b : List Int} {i k : Nat} (h : bt b i = 0) : nz b i (k + 1) = nz b (i + 1) k := by rw [nz, if_pos h]
theorem nz_n {b : List Int} {i k : Nat} (h : ¬ bt b i = 0) : nz b i (k + 1) = i := by rw [nz, if_neg h]
theorem nz_le (b : List Int) : ∀ k i : Nat, i ≤ nz b i k ∧ nz b i k ≤ i + k
  | 0, i => by simp [nz]
  | k + 1, i => by
    have := nz_le b k (i + 1)
    rw [nz]; split <;> omega
theorem bt_drop (b : List Int) (a i : Nat) : bt (b.drop a) i = bt b (a + i) := by simp [bt, List.getD, List.getElem?_drop]
theorem nz_drop (b : List Int) (a : Nat) : ∀ k i : Nat, a + nz (b.drop a) i k = nz b (a + i) k
  | 0, i => rfl
  | k + 1, i => by
    have := nz_drop b a k (i + 1)
    rw [nz, nz, bt_drop]
    split
    · rw [this]; rfl
    · rfl
def lst (l : List Int) : Int := bt l (l.length - 1)
def pend (l : List Int) : Nat := nz l (l.length - (lst l).toNat) ((lst l).toNat - 1)
def pd (l : List Int) : Int := if l.length = 0 ∨ lst l = 0 ∨ (l.length : Int) < lst l ∨ ¬ pend l = l.length - 1 then 0 else lst l
def pw (l : List Int) : Int := if l.length = 0 then 0 else if lst l = 0 ∨ (l.length : Int) < lst l then (l.length : Int) - 1 else if pend l = l.length - 1 then 0 else pend l
theorem pd_0 {l : List Int} (h : l.length = 0) : pd l = 0 ∧ pw l = 0 := ⟨if_pos (.inl h), if_pos h⟩
theorem pd_1 {l : List Int} (h : ¬ l.length = 0) (h2 : lst l = 0 ∨ (l.length : Int) < lst l) : pd l = 0 ∧ pw l = (l.length : Int) - 1 := ⟨if_pos (.inr (h2.imp id .inl)), by rw [pw, if_neg h, if_pos h2]⟩
theorem pd_2 {l : List Int} (h : ¬ l.length = 0) (h2 : ¬ (lst l = 0 ∨ (l.length : Int) < lst l)) (h3 : ¬ pend l = l.length - 1) : pd l = 0 ∧ pw l = pend l := ⟨if_pos (.inr (.inr (.inr h3))), by rw [pw, if_neg h, if_neg h2, if_neg h3]⟩
theorem pd_3 {l : List Int} (h : ¬ l.length = 0) (h2 : ¬ (lst l = 0 ∨ (l.length : Int) < lst l)) (h3 : pend l = l.length - 1) : pd l = lst l ∧ pw l = 0 := ⟨if_neg (by rintro (a | a | a | a); exact h a; exact h2 (.inl a); exact h2 (.inr a); exact a h3), by rw [pw, if_neg h, if_neg h2, if_pos h3]⟩
theorem lst_rng {l : List Int} (hb : ∀ x ∈ l, 0 ≤ x ∧ x ≤ 255) : 0 ≤ lst l ∧ lst l ≤ 255 := bt_range hb _
theorem pd_rng {l : List Int} (hb : ∀ x ∈ l, 0 ≤ x ∧ x ≤ 255) : 0 ≤ pd l ∧ pd l ≤ 255 ∧ pd l ≤ l.length := by
  have := lst_rng hb
  simp only [pd]; split <;> omega
theorem pw_rng {l : List Int} (hb : ∀ x ∈ l, 0 ≤ x ∧ x ≤ 255) : 0 ≤ pw l ∧ pw l ≤ l.length := by
  have h1 := lst_rng hb
  have h2 := nz_le l ((lst l).toNat - 1) (l.length - (lst l).toNat)
  simp only [pw]
  split
  · omega
  · split
    · omega
    · split
      · omega
      · simp only [pend]; omega
def dM (b : List Int) : Nat := (bt b 0 % 16).toNat
def dX (b : List Int) : Bool := decide (bt b 0 / 16 % 2 = 1)
def dG (b : List Int) : Bool := decide (bt b 0 / 32 % 2 = 1)
def dNd (b : List Int) : Nat := 12 + 4 * dM b + (if dX b = true then 4 else 0)
def dSz (b : List Int) : Nat := if dX b = true then 4 * (v2 b (12 + 4 * dM b + 2)).toNat else 0
def dA (b : List Int) : Nat := dNd b + dSz b
def rest (b : List Int) : List Int := b.drop (dA b)
def dP (b : List Int) : Int := if dG b = true then pd (rest b) else 0
def pay (b : List Int) : List Int := (rest b).take ((rest b).length - (dP b).toNat)
def mxl (b : List Int) (j : Nat) : List Int := (List.range j).map fun i => v4 b (12 + 4 * i)
def p0 : Pkt := ⟨false, 0, 0, 0, 0, [], false, 0, [], [], 0⟩
def pk (b : List Int) : Pkt := ⟨decide (127 < bt b 1), bt b 1 % 128, v2 b 2, v4 b 4, v4 b 8, mxl b (dM b), dX b, if dX b = true then v2 b (12 + 4 * dM b) else 0, (b.take (dA b)).drop (dNd b), pay b, dP b⟩
def dT (b : List Int) : Pkt × Int × Int :=
  if b.length = 0 then (p0, 0, 6) else if ¬ bt b 0 / 64 = 2 then (p0, 0, 15) else if b.length < dNd b then (p0, (b.length : Int), 6)
  else if 1020 < dSz b then (p0, 12 + 4 * (dM b : Int) + 2, 4) else if b.length < dA b then (p0, (b.length : Int), 6)
  else if dG b = true ∧ pd (rest b) = 0 then (p0, imin ((dA b : Int) + pw (rest b)) ((b.length : Int) - 1), 5)
  else if 1500 < (pay b).length then (p0, (dA b : Int), 4) else (pk b, 0, 0)
theorem dT_1 {b : List Int} (h : b.length = 0) : dT b = (p0, 0, 6) := if_pos h
theorem dT_2 {b : List Int} (h : ¬ b.length = 0) (h2 : ¬ bt b 0 / 64 = 2) : dT b = (p0, 0, 15) := by rw [dT, if_neg h, if_pos h2]
theorem dT_3 {b : List Int} (h : ¬ b.length = 0) (h2 : bt b 0 / 64 = 2) (h3 : b.length < dNd b) : dT b = (p0, (b.length : Int), 6) := by rw [dT, if_neg h, if_neg (by simpa using h2), if_pos h3]
theorem dT_4 {b : List Int} (h : ¬ b.length = 0) (h2 : bt b 0 / 64 = 2) (h3 : ¬ b.length < dNd b) (h4 : 1020 < dSz b) : dT b = (p0, 12 + 4 * (dM b : Int) + 2, 4) := by rw [dT, if_neg h, if_neg (by simpa using h2), if_neg h3, if_pos h4]
theorem dT_5 {b : List Int} (h : ¬ b.length = 0) (h2 : bt b 0 / 64 = 2) (h3 : ¬ b.length < dNd b) (h4 : ¬ 1020 < dSz b) (h5 : b.length < dA b) : dT b = (p0, (b.length : Int), 6) := by rw [dT, if_neg h, if_neg (by simpa using h2), if_neg h3, if_neg h4, if_pos h5]
theorem dT_6 {b : List Int} (h : ¬ b.length = 0) (h2 : bt b 0 / 64 = 2) (h3 : ¬ b.length < dNd b) (h4 : ¬ 1020 < dSz b) (h5 : ¬ b.length < dA b) (h6 : dG b = true ∧ pd (rest b) = 0) : dT b = (p0, imin ((dA b : Int) + pw (rest b)) ((b.length : Int) - 1), 5) := by rw [dT, if_neg h, if_neg (by simpa using h2), if_neg h3, if_neg h4, if_neg h5, if_pos h6]
theorem dT_7 {b : List Int} (h : ¬ b.length = 0) (h2 : bt b 0 / 64 = 2) (h3 : ¬ b.length < dNd b) (h4 : ¬ 1020 < dSz b) (h5 : ¬ b.length < dA b) (h6 : ¬ (dG b = true ∧ pd (rest b) = 0)) (h7 : 1500 < (pay b).length) : dT b = (p0, (dA b : Int), 4) := by rw [dT, if_neg h, if_neg (by simpa using h2), if_neg h3, if_neg h4, if_neg h5, if_neg h6, if_pos h7]
theorem dT_8 {b : List Int} (h : ¬ b.length = 0) (h2 : bt b 0 / 64 = 2) (h3 : ¬ b.length < dNd b) (h4 : ¬ 1020 < dSz b) (h5 : ¬ b.length < dA b) (h6 : ¬ (dG b = true ∧ pd (rest b) = 0)) (h7 : ¬ 1500 < (pay b).length) : dT b = (pk b, 0, 0) := by rw [dT, if_neg h, if_neg (by simpa using h2), if_neg h3, if_neg h4, if_neg h5, if_neg h6, if_neg h7]
theorem dM_rng {b : List Int} (hb : ∀ x ∈ b, 0 ≤ x ∧ x ≤ 255) : (dM b : Int) = bt b 0 % 16 := by
  have := bt_range hb 0
  simp only [dM]; omega
theorem mxl_s (b : List Int) (j : Nat) : mxl b j ++ [v4 b (12 + 4 * j)] = mxl b (j + 1) := by simp [mxl, List.range_succ]
theorem mxl_len (b : List Int) (j : Nat) : (mxl b j).length = j := by simp [mxl]
theorem dX_t {b : List Int} (h : bt b 0 / 16 % 2 = 1) : dX b = true := by simp [dX, h]
theorem dX_f {b : List Int} (h : ¬ bt b 0 / 16 % 2 = 1) : dX b = false := by simp [dX, h]
theorem dG_t {b : List Int} (h : bt b 0 / 32 % 2 = 1) : dG b = true := by simp [dG, h]
theorem dG_f {b : List Int} (h : ¬ bt b 0 / 32 % 2 = 1) : dG b = false := by simp [dG, h]
theorem need_t {b : List Int} (h : dX b = true) : dNd b = 16 + 4 * dM b := by rw [dNd, if_pos h]; omega
theorem need_f {b : List Int} (h : dX b = false) : dNd b = 12 + 4 * dM b := by rw [dNd, if_neg (by simp [h])]; rfl
theorem sz_t {b : List Int} (h : dX b = true) : dSz b = 4 * (v2 b (12 + 4 * dM b + 2)).toNat := if_pos h
theorem sz_f {b : List Int} (h : dX b = false) : dSz b = 0 := if_neg (by simp [h])
theorem rest_len (b : List Int) : (rest b).length = b.length - dA b := by simp [rest]
theorem rest_in {b : List Int} (hb : ∀ x ∈ b, 0 ≤ x ∧ x ≤ 255) : ∀ x ∈ rest b, 0 ≤ x ∧ x ≤ 255 := fun x hx => hb x (List.mem_of_mem_drop hx)
end Sp
namespace Sp
theorem lst_w (b : List Int) : bt b ((b.length : Int) - 1).toNat = lst b := by
  have : ((b.length : Int) - 1).toNat = b.length - 1 := by omega
  rw [this]; rfl
theorem pend_0 {b : List Int} (h : ¬ (lst b = 0 ∨ (b.length : Int) < lst b)) (h2 : 0 ≤ lst b) (h3 : 0 < b.length) : pend b = nz b (b.length - (lst b).toNat) (b.length - 1 - (b.length - (lst b).toNat)) := by
  rw [pend]; congr 1; omega
theorem pend_s {b : List Int} {i : Nat} (hi : i < b.length - 1) (h : bt b i = 0) (he : pend b = nz b i (b.length - 1 - i)) : pend b = nz b (i + 1) (b.length - 1 - (i + 1)) := by
  rw [he, show b.length - 1 - i = (b.length - 1 - (i + 1)) + 1 by omega, nz_s h]
theorem pad_bad {b : List Int} {i : Nat} (h1 : ¬ b.length = 0) (h2 : ¬ (lst b = 0 ∨ (b.length : Int) < lst b)) (hi : i < b.length - 1) (h : ¬ bt b i = 0) (he : pend b = nz b i (b.length - 1 - i)) : pd b = 0 ∧ pw b = i := by
  have e : pend b = i := by rw [he, show b.length - 1 - i = (b.length - 1 - (i + 1)) + 1 by omega, nz_n h]
  have := pd_2 h1 h2 (by omega)
  rw [this.1, this.2, e]; exact ⟨rfl, rfl⟩
theorem pad_ok {b : List Int} {i : Nat} (h1 : ¬ b.length = 0) (h2 : ¬ (lst b = 0 ∨ (b.length : Int) < lst b)) (hi : i = b.length - 1) (he : pend b = nz b i (b.length - 1 - i)) : pd b = lst b ∧ pw b = 0 := by
  have e : pend b = b.length - 1 := by rw [he, hi, Nat.sub_self]; rfl
  exact pd_3 h1 h2 e
theorem pad_lo {b : List Int} (h : b.length = 0 ∨ lst b = 0 ∨ (b.length : Int) < lst b) : pd b = 0 ∧ pw b = imax ((b.length : Int) - 1) 0 := by
  by_cases h1 : b.length = 0
  · have := pd_0 h1
    rw [this.1, this.2, h1]; exact ⟨rfl, rfl⟩
  · have := pd_1 h1 (h.resolve_left h1)
    rw [this.1, this.2, imax]; split <;> omega
end Sp
namespace Sp
theorem cut11 (b : List Int) : bt (cut b 1 1) 0 = bt b 1 := by
  match b with
  | [] => rfl
  | [_] => rfl
  | _ :: _ :: _ => rfl
theorem cut_le {b : List Int} {p n : Int} {m : Nat} (hn : 0 ≤ n) (hp : 0 ≤ p) (h : n ≤ m) : (cut b p n).length ≤ m := by simp only [cut, List.length_drop, List.length_take]; omega
theorem dX_b {b : List Int} : (bt b 0 / 16 % 2 * 16 != 0) = dX b := by
  rw [dX]
  by_cases h : bt b 0 / 16 % 2 = 1
  · simp [h]
  · have : bt b 0 / 16 % 2 = 0 := by omega
    simp [this]
theorem dG_b {b : List Int} : (bt b 0 / 32 % 2 * 32 != 0) = dG b := by
  rw [dG]
  by_cases h : bt b 0 / 32 % 2 = 1
  · simp [h]
  · have : bt b 0 / 32 % 2 = 0 := by omega
    simp [this]
theorem u16_2 {b : List Int} (hb : ∀ x ∈ b, 0 ≤ x ∧ x ≤ 255) (i : Nat) : IntKind.u16.wrap (v2 b i) = v2 b i := by
  have := v2_rng hb i
  exact wrap_u16 (by omega) (by omega)
end Sp
namespace Sp
theorem dA_f {b : List Int} (hx : dX b = false) : dA b = 12 + 4 * dM b ∧ dNd b = 12 + 4 * dM b ∧ dSz b = 0 := by
  rw [dA, need_f hx, sz_f hx]; exact ⟨rfl, rfl, rfl⟩
theorem dA_t {b : List Int} (hx : dX b = true) : dA b = 16 + 4 * dM b + dSz b ∧ dNd b = 16 + 4 * dM b ∧ (dSz b : Int) = 4 * (v2 b (12 + 4 * dM b + 2)).toNat := by
  rw [dA, need_t hx, sz_t hx]; exact ⟨rfl, rfl, by omega⟩
theorem rest_j {b : List Int} {p : Int} (h : p = dA b) : b.drop (Int.toNat p) = rest b := by rw [rest, h]; rfl
theorem pay_g {b : List Int} (hb : ∀ x ∈ b, 0 ≤ x ∧ x ≤ 255) (hl : b.length ≤ 100000) (hg : dG b = true) : (rest b).take (Int.toNat (IntKind.i64.wrap (((rest b).length : Int) - pd (rest b)))) = pay b := by
  have h1 := pd_rng (rest_in hb)
  have h2 := rest_len b
  rw [wrap_i64 (by omega) (by omega), pay, dP, if_pos hg]; congr 1; omega
theorem pay_n {b : List Int} (hg : dG b = false) : pay b = rest b := by
  rw [pay, dP, if_neg (by simp [hg])]; exact List.take_of_length_le (by omega)
theorem dP_t {b : List Int} (hg : dG b = true) : dP b = pd (rest b) := if_pos hg
theorem dP_f {b : List Int} (hg : dG b = false) : dP b = 0 := if_neg (by simp [hg])
theorem cp_all (l : List Int) : (((([] : List Int) ++ l.take (min l.length l.length)) ++ (List.replicate l.length 0).drop (min l.length l.length)).drop 0).take (Int.toNat (l.length : Int)) = l := by simp
theorem nG {b : List Int} (hg : dG b = false) : ¬ (dG b = true ∧ pd (rest b) = 0) := by simp [hg]
end Sp
theorem okF {b : List Int} (hx : Sp.dX b = false) : aP (Sp.pk b) = [.c (.bool (decide (127 < Sp.bt b 1))), .c (.int .u8 (Sp.bt b 1 % 128)), .c (.int .u16 (Sp.v2 b 2)), .c (.int .u32 (Sp.v4 b 4)), .c (.int .u32 (Sp.v4 b 8)), .ri .u32 (Sp.mxl b (Sp.dM b)), .c (.bool false), .c (.int .u16 0), .ri .u8 [], .ri .u8 (Sp.pay b), .c (.int .i64 (Sp.dP b))] := by
  have h := Sp.dA_f hx
  have e : (b.take (Sp.dA b)).drop (Sp.dNd b) = [] := List.drop_eq_nil_of_le (by rw [List.length_take]; omega)
  simp only [aP, Sp.pk, e, hx]; rfl
namespace Sp
theorem pay_g2 {b : List Int} (hb : ∀ x ∈ b, 0 ≤ x ∧ x ≤ 255) (hg : dG b = true) : (rest b).take (Int.toNat (((rest b).length : Int) - pd (rest b))) = pay b := by
  have h1 := pd_rng (rest_in hb)
  rw [pay, dP, if_pos hg]; congr 1; omega
theorem pay_len (b : List Int) : (pay b).length = (rest b).length - (dP b).toNat := by rw [pay, List.length_take]; omega
end Sp
namespace Sp
theorem sz_w {b : List Int} {j : Nat} (hb : ∀ x ∈ b, 0 ≤ x ∧ x ≤ 255) (hx : dX b = true) (hj : j = dM b) (h : 16 + 4 * (dM b : Int) ≤ b.length) : IntKind.i64.wrap (4 * IntKind.i64.wrap (val (cut b (12 + 4 * (j : Int) + 2) 2))) = (dSz b : Int) := by
  subst hj
  have h2 := v2_rng hb (12 + 4 * dM b + 2)
  rw [cut2 (i := 12 + 4 * dM b + 2) (by omega) (by omega), wrap_i64 (x := v2 b _) (by omega) (by omega), wrap_i64 (by omega) (by omega), sz_t hx]; omega
theorem ek_w {b : List Int} {j : Nat} (hb : ∀ x ∈ b, 0 ≤ x ∧ x ≤ 255) (hj : j = dM b) (h : 16 + 4 * (dM b : Int) ≤ b.length) : IntKind.u16.wrap (val (cut b (12 + 4 * (j : Int)) 2)) = v2 b (12 + 4 * dM b) := by
  subst hj
  rw [cut2 (i := 12 + 4 * dM b) (by omega) (by omega), u16_2 hb]
theorem xt_w {b : List Int} {j : Nat} (hx : dX b = true) (hj : j = dM b) : cut b (12 + 4 * (j : Int) + 2 + 2) (dSz b) = (b.take (dA b)).drop (dNd b) := by
  have h := dA_t hx
  rw [cut]; congr 1
  · omega
  · congr 1; omega
theorem tk_all (l : List Int) : (((([] : List Int) ++ l)).drop 0).take l.length = l := by simp
end Sp
theorem okT {b : List Int} (hx : Sp.dX b = true) : aP (Sp.pk b) = [.c (.bool (decide (127 < Sp.bt b 1))), .c (.int .u8 (Sp.bt b 1 % 128)), .c (.int .u16 (Sp.v2 b 2)), .c (.int .u32 (Sp.v4 b 4)), .c (.int .u32 (Sp.v4 b 8)), .ri .u32 (Sp.mxl b (Sp.dM b)), .c (.bool true), .c (.int .u16 (Sp.v2 b (12 + 4 * Sp.dM b))), .ri .u8 ((b.take (Sp.dA b)).drop (Sp.dNd b)), .ri .u8 (Sp.pay b), .c (.int .i64 (Sp.dP b))] := by
  simp only [aP, Sp.pk, hx, if_true]

end Go.Proofs.Ytcnklcnehpkfaaa
