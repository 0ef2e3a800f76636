/-
  A part of the walk: contracts of functions, each proved once.
-/
import Derived.Test.YtmghbhaocfehnaaEvList
import Derived.Test.YtmghbhaocfehnaaK27D
namespace Go.Proofs.Ytmghbhaocfehnaa
open Go Go.Ev
set_option linter.unusedVariables false
set_option linter.unusedSimpArgs false
set_option maxRecDepth 20000
namespace Sp
def lim (e : Int) : Int := if e = 0 then 4 else if e = 1 then 8 else if e = 2 then 16 else if e = 3 then 32 else if e = 4 then 64 else if e = 5 then 128 else if e = 6 then 256 else 512
theorem lim_eq (m : Int) : 4 * pw (expo m).toNat = lim (expo m) := by
  have h := expo_range m
  generalize expo m = e at h
  have h : e = 0 ∨ e = 1 ∨ e = 2 ∨ e = 3 ∨ e = 4 ∨ e = 5 ∨ e = 6 ∨ e = 7 := by omega
  rcases h with h | h | h | h | h | h | h | h <;> subst h <;> rfl
theorem eight (m : Int) : m < 256 ∨ (256 ≤ m ∧ m < 512) ∨ (512 ≤ m ∧ m < 1024) ∨ (1024 ≤ m ∧ m < 2048) ∨ (2048 ≤ m ∧ m < 4096) ∨ (4096 ≤ m ∧ m < 8192) ∨ (8192 ≤ m ∧ m < 16384) ∨ 16384 ≤ m := by omega
theorem sh8_0 (y : Int) : sh8 y 0 = 1 * y := by simp [sh8]
theorem lim_0 : lim 0 = 4 := by simp [lim]
theorem ex_0 {m : Int} (h : m < 256) : expo m = 0 ∧ shr3 m = m / 8 := by
  simp only [expo, shr3]; constructor <;> (repeat' split) <;> omega
theorem sh8_1 (y : Int) : sh8 y 1 = 2 * y := by simp [sh8]
theorem lim_1 : lim 1 = 8 := by simp [lim]
theorem ex_1 {m : Int} (h : 256 ≤ m ∧ m < 512) : expo m = 1 ∧ shr3 m = m / 16 := by
  simp only [expo, shr3]; constructor <;> (repeat' split) <;> omega
theorem sh8_2 (y : Int) : sh8 y 2 = 4 * y := by simp [sh8]
theorem lim_2 : lim 2 = 16 := by simp [lim]
theorem ex_2 {m : Int} (h : 512 ≤ m ∧ m < 1024) : expo m = 2 ∧ shr3 m = m / 32 := by
  simp only [expo, shr3]; constructor <;> (repeat' split) <;> omega
theorem sh8_3 (y : Int) : sh8 y 3 = 8 * y := by simp [sh8]
theorem lim_3 : lim 3 = 32 := by simp [lim]
theorem ex_3 {m : Int} (h : 1024 ≤ m ∧ m < 2048) : expo m = 3 ∧ shr3 m = m / 64 := by
  simp only [expo, shr3]; constructor <;> (repeat' split) <;> omega
theorem sh8_4 (y : Int) : sh8 y 4 = 16 * y := by simp [sh8]
theorem lim_4 : lim 4 = 64 := by simp [lim]
theorem ex_4 {m : Int} (h : 2048 ≤ m ∧ m < 4096) : expo m = 4 ∧ shr3 m = m / 128 := by
  simp only [expo, shr3]; constructor <;> (repeat' split) <;> omega
theorem sh8_5 (y : Int) : sh8 y 5 = 32 * y := by simp [sh8]
theorem lim_5 : lim 5 = 128 := by simp [lim]
theorem ex_5 {m : Int} (h : 4096 ≤ m ∧ m < 8192) : expo m = 5 ∧ shr3 m = m / 256 := by
  simp only [expo, shr3]; constructor <;> (repeat' split) <;> omega
theorem sh8_6 (y : Int) : sh8 y 6 = 64 * y := by simp [sh8]
theorem lim_6 : lim 6 = 256 := by simp [lim]
theorem ex_6 {m : Int} (h : 8192 ≤ m ∧ m < 16384) : expo m = 6 ∧ shr3 m = m / 512 := by
  simp only [expo, shr3]; constructor <;> (repeat' split) <;> omega
theorem sh8_7 (y : Int) : sh8 y 7 = 128 * y := by simp [sh8]
theorem lim_7 : lim 7 = 512 := by simp [lim]
theorem ex_7 {m : Int} (h : 16384 ≤ m) : expo m = 7 ∧ shr3 m = m / 1024 := by
  simp only [expo, shr3]; constructor <;> (repeat' split) <;> omega
theorem fmu_of {b k q : Int} (h1 : (255 - b) / 16 % 8 = k) (h2 : (255 - b) % 16 = q) : fmu b = if 127 < 255 - b then -(sh8 (8 * q + 132) k - 132) else sh8 (8 * q + 132) k - 132 := by subst h1; subst h2; rfl
theorem fa_of {c k q : Int} (h1 : c / 16 % 8 = k) (h2 : c % 16 = q) : fa0 c = if c < 128 then -(if 0 < k then sh8 (16 * q + 264) (k - 1) else 16 * q + 8) else (if 0 < k then sh8 (16 * q + 264) (k - 1) else 16 * q + 8) := by subst h1; subst h2; rfl
theorem near1 {x : Int} (h : -32635 ≤ x ∧ x ≤ 32635) : fmu (mu x) - x ≤ lim (expo (mag x)) ∧ x - fmu (mu x) ≤ lim (expo (mag x)) := by
  have hm : mag x = (if x < 0 then -x else x) + 132 := by simp only [mag, imin, imax]; split <;> split <;> split <;> omega
  simp only [mu, hm]
  by_cases hs : x < 0
  · simp only [if_pos hs]
    have h0 : 132 ≤ -x + 132 ∧ -x + 132 ≤ 32767 := by omega
    generalize hmm : -x + 132 = m at h0
    obtain rfl : x = 132 - m := by omega
    clear hm hmm h
    rcases eight m with h | h | h | h | h | h | h | h
    · obtain ⟨e1, e2⟩ := ex_0 h; rw [e1, e2, fmu_of (k := 0) (q := m / 8 % 16) (by omega) (by omega), if_pos (by omega), sh8_0, lim_0]; omega
    · obtain ⟨e1, e2⟩ := ex_1 h; rw [e1, e2, fmu_of (k := 1) (q := m / 16 % 16) (by omega) (by omega), if_pos (by omega), sh8_1, lim_1]; omega
    · obtain ⟨e1, e2⟩ := ex_2 h; rw [e1, e2, fmu_of (k := 2) (q := m / 32 % 16) (by omega) (by omega), if_pos (by omega), sh8_2, lim_2]; omega
    · obtain ⟨e1, e2⟩ := ex_3 h; rw [e1, e2, fmu_of (k := 3) (q := m / 64 % 16) (by omega) (by omega), if_pos (by omega), sh8_3, lim_3]; omega
    · obtain ⟨e1, e2⟩ := ex_4 h; rw [e1, e2, fmu_of (k := 4) (q := m / 128 % 16) (by omega) (by omega), if_pos (by omega), sh8_4, lim_4]; omega
    · obtain ⟨e1, e2⟩ := ex_5 h; rw [e1, e2, fmu_of (k := 5) (q := m / 256 % 16) (by omega) (by omega), if_pos (by omega), sh8_5, lim_5]; omega
    · obtain ⟨e1, e2⟩ := ex_6 h; rw [e1, e2, fmu_of (k := 6) (q := m / 512 % 16) (by omega) (by omega), if_pos (by omega), sh8_6, lim_6]; omega
    · obtain ⟨e1, e2⟩ := ex_7 h; rw [e1, e2, fmu_of (k := 7) (q := m / 1024 % 16) (by omega) (by omega), if_pos (by omega), sh8_7, lim_7]; omega
  · simp only [if_neg hs]
    have h0 : 132 ≤ x + 132 ∧ x + 132 ≤ 32767 := by omega
    generalize hmm : x + 132 = m at h0
    obtain rfl : x = m - 132 := by omega
    clear hm hmm h
    rcases eight m with h | h | h | h | h | h | h | h
    · obtain ⟨e1, e2⟩ := ex_0 h; rw [e1, e2, fmu_of (k := 0) (q := m / 8 % 16) (by omega) (by omega), if_neg (by omega), sh8_0, lim_0]; omega
    · obtain ⟨e1, e2⟩ := ex_1 h; rw [e1, e2, fmu_of (k := 1) (q := m / 16 % 16) (by omega) (by omega), if_neg (by omega), sh8_1, lim_1]; omega
    · obtain ⟨e1, e2⟩ := ex_2 h; rw [e1, e2, fmu_of (k := 2) (q := m / 32 % 16) (by omega) (by omega), if_neg (by omega), sh8_2, lim_2]; omega
    · obtain ⟨e1, e2⟩ := ex_3 h; rw [e1, e2, fmu_of (k := 3) (q := m / 64 % 16) (by omega) (by omega), if_neg (by omega), sh8_3, lim_3]; omega
    · obtain ⟨e1, e2⟩ := ex_4 h; rw [e1, e2, fmu_of (k := 4) (q := m / 128 % 16) (by omega) (by omega), if_neg (by omega), sh8_4, lim_4]; omega
    · obtain ⟨e1, e2⟩ := ex_5 h; rw [e1, e2, fmu_of (k := 5) (q := m / 256 % 16) (by omega) (by omega), if_neg (by omega), sh8_5, lim_5]; omega
    · obtain ⟨e1, e2⟩ := ex_6 h; rw [e1, e2, fmu_of (k := 6) (q := m / 512 % 16) (by omega) (by omega), if_neg (by omega), sh8_6, lim_6]; omega
    · obtain ⟨e1, e2⟩ := ex_7 h; rw [e1, e2, fmu_of (k := 7) (q := m / 1024 % 16) (by omega) (by omega), if_neg (by omega), sh8_7, lim_7]; omega
theorem near2 {x : Int} (hx : -32768 ≤ x ∧ x ≤ 32767) : fa (a x) - x ≤ imax (lim (expo (mg2 x))) 8 ∧ x - fa (a x) ≤ imax (lim (expo (mg2 x))) 8 := by
  simp only [fa, a, xor_xor (a0_range hx)]
  by_cases hs : x < 0
  · simp only [a0, mg2, if_pos hs]
    have h0 : 0 ≤ -x - 1 ∧ -x - 1 ≤ 32767 := by omega
    generalize hmm : -x - 1 = m at h0
    obtain rfl : x = -m - 1 := by omega
    clear hmm
    rcases eight m with h | h | h | h | h | h | h | h
    · obtain ⟨e1, e2⟩ := ex_0 h; rw [e1, e2, if_pos h, fa_of (k := 0) (q := m / 16) (by omega) (by omega), if_pos (by omega), if_neg (by omega)]; simp only [imax, lim_0]; omega
    · obtain ⟨e1, e2⟩ := ex_1 h; rw [e1, e2, if_neg (by omega), fa_of (k := 1) (q := m / 16 % 16) (by omega) (by omega), if_pos (by omega), if_pos (by omega), show (1 : Int) - 1 = 0 from rfl, sh8_0]; simp only [imax, lim_1]; omega
    · obtain ⟨e1, e2⟩ := ex_2 h; rw [e1, e2, if_neg (by omega), fa_of (k := 2) (q := m / 32 % 16) (by omega) (by omega), if_pos (by omega), if_pos (by omega), show (2 : Int) - 1 = 1 from rfl, sh8_1]; simp only [imax, lim_2]; omega
    · obtain ⟨e1, e2⟩ := ex_3 h; rw [e1, e2, if_neg (by omega), fa_of (k := 3) (q := m / 64 % 16) (by omega) (by omega), if_pos (by omega), if_pos (by omega), show (3 : Int) - 1 = 2 from rfl, sh8_2]; simp only [imax, lim_3]; omega
    · obtain ⟨e1, e2⟩ := ex_4 h; rw [e1, e2, if_neg (by omega), fa_of (k := 4) (q := m / 128 % 16) (by omega) (by omega), if_pos (by omega), if_pos (by omega), show (4 : Int) - 1 = 3 from rfl, sh8_3]; simp only [imax, lim_4]; omega
    · obtain ⟨e1, e2⟩ := ex_5 h; rw [e1, e2, if_neg (by omega), fa_of (k := 5) (q := m / 256 % 16) (by omega) (by omega), if_pos (by omega), if_pos (by omega), show (5 : Int) - 1 = 4 from rfl, sh8_4]; simp only [imax, lim_5]; omega
    · obtain ⟨e1, e2⟩ := ex_6 h; rw [e1, e2, if_neg (by omega), fa_of (k := 6) (q := m / 512 % 16) (by omega) (by omega), if_pos (by omega), if_pos (by omega), show (6 : Int) - 1 = 5 from rfl, sh8_5]; simp only [imax, lim_6]; omega
    · obtain ⟨e1, e2⟩ := ex_7 h; rw [e1, e2, if_neg (by omega), fa_of (k := 7) (q := m / 1024 % 16) (by omega) (by omega), if_pos (by omega), if_pos (by omega), show (7 : Int) - 1 = 6 from rfl, sh8_6]; simp only [imax, lim_7]; omega
  · simp only [a0, mg2, if_neg hs]
    have h0 : 0 ≤ x := by omega
    rcases eight x with h | h | h | h | h | h | h | h
    · obtain ⟨e1, e2⟩ := ex_0 h; rw [e1, e2, if_pos h, fa_of (k := 0) (q := x / 16) (by omega) (by omega), if_neg (by omega), if_neg (by omega)]; simp only [imax, lim_0]; omega
    · obtain ⟨e1, e2⟩ := ex_1 h; rw [e1, e2, if_neg (by omega), fa_of (k := 1) (q := x / 16 % 16) (by omega) (by omega), if_neg (by omega), if_pos (by omega), show (1 : Int) - 1 = 0 from rfl, sh8_0]; simp only [imax, lim_1]; omega
    · obtain ⟨e1, e2⟩ := ex_2 h; rw [e1, e2, if_neg (by omega), fa_of (k := 2) (q := x / 32 % 16) (by omega) (by omega), if_neg (by omega), if_pos (by omega), show (2 : Int) - 1 = 1 from rfl, sh8_1]; simp only [imax, lim_2]; omega
    · obtain ⟨e1, e2⟩ := ex_3 h; rw [e1, e2, if_neg (by omega), fa_of (k := 3) (q := x / 64 % 16) (by omega) (by omega), if_neg (by omega), if_pos (by omega), show (3 : Int) - 1 = 2 from rfl, sh8_2]; simp only [imax, lim_3]; omega
    · obtain ⟨e1, e2⟩ := ex_4 h; rw [e1, e2, if_neg (by omega), fa_of (k := 4) (q := x / 128 % 16) (by omega) (by omega), if_neg (by omega), if_pos (by omega), show (4 : Int) - 1 = 3 from rfl, sh8_3]; simp only [imax, lim_4]; omega
    · obtain ⟨e1, e2⟩ := ex_5 h; rw [e1, e2, if_neg (by omega), fa_of (k := 5) (q := x / 256 % 16) (by omega) (by omega), if_neg (by omega), if_pos (by omega), show (5 : Int) - 1 = 4 from rfl, sh8_4]; simp only [imax, lim_5]; omega
    · obtain ⟨e1, e2⟩ := ex_6 h; rw [e1, e2, if_neg (by omega), fa_of (k := 6) (q := x / 512 % 16) (by omega) (by omega), if_neg (by omega), if_pos (by omega), show (6 : Int) - 1 = 5 from rfl, sh8_5]; simp only [imax, lim_6]; omega
    · obtain ⟨e1, e2⟩ := ex_7 h; rw [e1, e2, if_neg (by omega), fa_of (k := 7) (q := x / 1024 % 16) (by omega) (by omega), if_neg (by omega), if_pos (by omega), show (7 : Int) - 1 = 6 from rfl, sh8_6]; simp only [imax, lim_7]; omega
theorem lim_rng (m : Int) : 4 ≤ lim (expo m) ∧ lim (expo m) ≤ 512 := by
  simp only [lim]; repeat' split
  all_goals omega
theorem le_pw {j : Nat} {m : Int} (h : (j : Int) ≤ expo m) (h2 : expo m ≤ j) : 4 * pw j = lim (expo m) := by
  rw [← lim_eq]; congr 2; omega
theorem again_mu : ∀ b : Fin 256, fmu (mu (fmu b.val)) = fmu b.val := by decide +kernel
theorem again_a : ∀ b : Fin 256, fa (a (fa b.val)) = fa b.val := by decide +kernel
structure Again (n : Int) (b : List Int) : Prop where
  l1 : (up n b).length = b.length
  l2 : (pk n (up n b)).length = b.length
  e2 : pkE n b.length = 0
  u : up n (pk n (up n b)) = up n b
theorem again_all {n : Int} {b : List Int} (hb : ∀ x ∈ b, 0 ≤ x ∧ x ≤ 255) (h : pkE n b.length = 0) : Again n b := by
  have h8 : (n = 1 ∨ n = 2) ∧ (b.length : Int) ≤ 8000 := by
    simp only [pkE] at h
    split at h
    · rename_i hn; split at h
      · exact ⟨hn, by omega⟩
      · omega
    · omega
  obtain ⟨hn, hl⟩ := h8
  rcases hn with rfl | rfl
  · have e1 := up1 (l := b) hl
    have e2 := pk1 (l := b.map fmu) (by simpa using hl)
    have e3 := up1 (l := (b.map fmu).map mu) (by simpa using hl)
    refine ⟨by rw [e1]; simp, by rw [e1, e2]; simp, h, ?_⟩
    rw [e1, e2, e3, List.map_map, List.map_map]
    refine List.map_congr_left fun x hx => ?_
    have hr := hb x hx
    have := again_mu ⟨x.toNat, by omega⟩
    simpa [Int.toNat_of_nonneg hr.1] using this
  · have e1 := up2 (l := b) hl
    have e2 := pk2 (l := b.map fa) (by simpa using hl)
    have e3 := up2 (l := (b.map fa).map a) (by simpa using hl)
    refine ⟨by rw [e1]; simp, by rw [e1, e2]; simp, h, ?_⟩
    rw [e1, e2, e3, List.map_map, List.map_map]
    refine List.map_congr_left fun x hx => ?_
    have hr := hb x hx
    have := again_a ⟨x.toNat, by omega⟩
    simpa [Int.toNat_of_nonneg hr.1] using this
theorem up_none {n : Int} {b : List Int} (h : ¬ pkE n b.length = 0) : up n b = [] := by
  simp only [pkE] at h
  refine upn ?_
  by_cases hn : n = 1 ∨ n = 2
  · rw [if_pos hn] at h; split at h
    · exact absurd rfl h
    · left; omega
  · right; omega
theorem up_range {n : Int} {b : List Int} (hb : ∀ x ∈ b, 0 ≤ x ∧ x ≤ 255) : ∀ x ∈ up n b, -32768 ≤ x ∧ x ≤ 32767 := by
  intro x hx
  simp only [up] at hx
  split at hx
  · obtain ⟨y, hy, rfl⟩ := List.mem_map.1 hx; exact fmu_rng (hb y hy)
  · split at hx
    · obtain ⟨y, hy, rfl⟩ := List.mem_map.1 hx; exact fa_range (hb y hy)
    · cases hx
theorem pk_range {n : Int} {l : List Int} (hl : ∀ x ∈ l, -32768 ≤ x ∧ x ≤ 32767) : ∀ x ∈ pk n l, 0 ≤ x ∧ x ≤ 255 := by
  intro x hx
  simp only [pk] at hx
  split at hx
  · obtain ⟨y, hy, rfl⟩ := List.mem_map.1 hx; exact mu_range (hl y hy)
  · split at hx
    · obtain ⟨y, hy, rfl⟩ := List.mem_map.1 hx; exact a_range (hl y hy)
    · cases hx
theorem up_len {n : Int} {b : List Int} : (up n b).length ≤ b.length := by
  simp only [up]; repeat' split
  all_goals simp
end Sp

end Go.Proofs.Ytmghbhaocfehnaa
