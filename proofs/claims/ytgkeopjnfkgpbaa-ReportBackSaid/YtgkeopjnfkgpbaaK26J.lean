/-
  A part of the walk: contracts of functions, each proved once.
-/
import Derived.Test.YtgkeopjnfkgpbaaEvRun
import Derived.Test.YtgkeopjnfkgpbaaK26I
namespace Go.Proofs.Ytgkeopjnfkgpbaa
open Go Go.Ev
set_option linter.unusedVariables false
set_option linter.unusedSimpArgs false
set_option maxRecDepth 20000
namespace Sp
def has (ar : List Bool) (i : Nat) : Bool := ar.getD i default || (decide (i = 0) || decide (i + 1 = ar.length))
def pres (f : Int) (ar : List Bool) (j : Nat) : List Int := ((List.range j).filter (has ar)).map fun (i : Nat) => f + (i : Int)
theorem pres_t {f : Int} {ar : List Bool} {j : Nat} (h : has ar j = true) : pres f ar (j + 1) = pres f ar j ++ [f + j] := by
  simp [pres, List.range_succ, h]
theorem pres_f {f : Int} {ar : List Bool} {j : Nat} (h : has ar j = false) : pres f ar (j + 1) = pres f ar j := by
  simp [pres, List.range_succ, h]
theorem pres_len (f : Int) (ar : List Bool) (j : Nat) : (pres f ar j).length ≤ j := by
  simp only [pres, List.length_map]
  exact Nat.le_trans (List.length_filter_le _ _) (by simp)
theorem pres_mem {f : Int} {ar : List Bool} {j : Nat} : ∀ x ∈ pres f ar j, f ≤ x ∧ x < f + j := by
  intro x hx
  simp only [pres, List.mem_map, List.mem_filter, List.mem_range] at hx
  obtain ⟨i, ⟨h1, _⟩, rfl⟩ := hx
  omega
theorem pres_0 {f : Int} {ar : List Bool} (h : 2 ≤ ar.length) : (pres f ar ar.length).getD 0 0 = f := by
  have e : List.range ar.length = 0 :: (List.range (ar.length - 1)).map (· + 1) := by
    obtain ⟨n, hn⟩ : ∃ n, ar.length = n + 1 := ⟨ar.length - 1, by omega⟩
    rw [hn, List.range_succ_eq_map]; rfl
  have h0 : has ar 0 = true := by simp [has]
  simp only [pres, e, List.filter_cons, h0, if_true, List.map_cons]
  simp
theorem pres_last {f : Int} {ar : List Bool} (h : 2 ≤ ar.length) : (pres f ar ar.length).length ≠ 0 ∧ (pres f ar ar.length).getD ((pres f ar ar.length).length - 1) 0 = f + (ar.length : Int) - 1 := by
  obtain ⟨n, hn⟩ : ∃ n, ar.length = n + 1 := ⟨ar.length - 1, by omega⟩
  have h1 : has ar n = true := by simp [has, hn]
  have e := pres_t (f := f) h1
  rw [hn, e]
  refine ⟨by simp, ?_⟩
  simp; omega
structure LI where
  i : Nat
  b : Int
  h : Int
def sti (x : LI) : Stats := if x.i = 0 then z0 else ⟨true, x.b, x.h, (x.i : Int), 0, 0, 5, 0⟩
def nxi (x : LI) (q : Int) : LI := ⟨x.i + 1, if x.i = 0 then q else imin x.b q, if x.i = 0 then q else imax x.h q⟩
def inl (f : Int) (n m tu : Nat) (L : List Int) (x : LI) : Prop := x.i ≤ m ∧ (0 < x.i → f ≤ x.b ∧ x.b ≤ x.h ∧ x.h ≤ f + n - 1) ∧ (∀ k, k < x.i → x.b ≤ L.getD ((k + tu) % m) 0 ∧ L.getD ((k + tu) % m) 0 ≤ x.h)
theorem inl_nx {f : Int} {n m tu : Nat} {L : List Int} {x : LI} (hx : inl f n m tu L x) (hi : x.i < m) (hL : ∀ y ∈ L, f ≤ y ∧ y < f + n) (hm : L.length = m) : inl f n m tu L (nxi x (L.getD ((x.i + tu) % m) 0)) := by
  obtain ⟨h1, h2, h3⟩ := hx
  have hlt : (x.i + tu) % m < L.length := by rw [hm]; exact Nat.mod_lt _ (by omega)
  have hq := getD_mem hL (d := 0) hlt
  refine ⟨by show x.i + 1 ≤ m; omega, fun _ => ?_, fun k hk => ?_⟩
  · simp only [nxi]
    by_cases h0 : x.i = 0
    · rw [if_pos h0, if_pos h0]; omega
    · rw [if_neg h0, if_neg h0]
      have := h2 (by omega)
      simp only [imin, imax]; split <;> split <;> omega
  · have hk : k < x.i + 1 := hk
    simp only [nxi]
    by_cases h0 : x.i = 0
    · rw [if_pos h0, if_pos h0]
      have e : k = x.i := by omega
      rw [e]; omega
    · rw [if_neg h0, if_neg h0]
      by_cases e : k = x.i
      · rw [e]; simp only [imin, imax]; split <;> split <;> omega
      · have := h3 k (by omega)
        simp only [imin, imax]; split <;> split <;> omega
theorem rot {m tu : Nat} (hm : 0 < m) {i : Nat} (hi : i < m) : ∃ k, k < m ∧ (k + tu) % m = i := by
  refine ⟨(i + (m - tu % m)) % m, Nat.mod_lt _ hm, ?_⟩
  have h1 := Nat.mod_lt tu hm
  have h2 := Nat.div_add_mod tu m
  rw [Nat.mod_add_mod, show i + (m - tu % m) + tu = i + m * (tu / m + 1) by rw [Nat.mul_add, Nat.mul_one]; omega, Nat.add_mul_mod_self_left, Nat.mod_eq_of_lt hi]
theorem inl_end {f : Int} {ar : List Bool} {tu : Nat} {x : LI} (h : 2 ≤ ar.length) (hx : inl f ar.length (pres f ar ar.length).length tu (pres f ar ar.length) x) (hi : (pres f ar ar.length).length ≤ x.i) : x.b = f ∧ x.h = f + ar.length - 1 ∧ x.i = (pres f ar ar.length).length ∧ 0 < x.i := by
  obtain ⟨h1, h2, h3⟩ := hx
  obtain ⟨hl, hlast⟩ := pres_last (f := f) h
  have e : x.i = (pres f ar ar.length).length := by omega
  have h4 := h2 (by omega)
  obtain ⟨k0, hk0, e0⟩ := rot (tu := tu) (show 0 < (pres f ar ar.length).length by omega) (i := 0) (by omega)
  obtain ⟨k1, hk1, e1⟩ := rot (tu := tu) (show 0 < (pres f ar ar.length).length by omega) (i := (pres f ar ar.length).length - 1) (by omega)
  have a := h3 k0 (by omega)
  have b := h3 k1 (by omega)
  rw [e0, pres_0 h] at a
  rw [e1, hlast] at b
  exact ⟨by omega, by omega, e, by omega⟩
theorem sti_ok {x : LI} {f : Int} {n : Nat} (hf : 0 ≤ f ∧ f ≤ 4294967295) (hn : n ≤ 100) (hi : x.i ≤ 100) (h : 0 < x.i → f ≤ x.b ∧ x.b ≤ x.h ∧ x.h ≤ f + n - 1) : okP (sti x) := by
  simp only [sti]
  by_cases h0 : x.i = 0
  · rw [if_pos h0]; decide
  · rw [if_neg h0]; have := h (by omega); simp only [okP]; omega
theorem sti_arr {x : LI} {q f : Int} {n : Nat} (hf : 0 ≤ f ∧ f ≤ 4294967295) (hn : n ≤ 100) (hi : x.i ≤ 100) (h : 0 < x.i → f ≤ x.b ∧ x.b ≤ x.h ∧ x.h ≤ f + n - 1) (hq : f ≤ q ∧ q < f + n) : arr (sti x) q (8 * q + 5) (8 * q) = sti (nxi x q) := by
  have hp : arrP (sti x) q (8 * q + 5) (8 * q) := ⟨sti_ok hf hn hi h, by simp only [in48]; omega, by simp only [in48]; omega, by simp only [in48]; omega⟩
  by_cases h0 : x.i = 0
  · rw [arr_new hp (by simp [sti, h0, z0])]
    simp only [sti, nxi, h0]; simp; omega
  · have e : sti x = ⟨true, x.b, x.h, (x.i : Int), 0, 0, 5, 0⟩ := by simp only [sti]; rw [if_neg h0]
    have hp' : arrP ⟨true, x.b, x.h, (x.i : Int), 0, 0, 5, 0⟩ q (8 * q + 5) (8 * q) := e ▸ hp
    have e5 : 8 * q + 5 - 8 * q = 5 := by omega
    rw [e, arr_on hp' rfl]
    simp [sti, nxi, h0, dd, imax, e5]
theorem sum_1 {f m n : Int} (hf : 0 ≤ f ∧ f ≤ 4294967295) (hn : 2 ≤ n ∧ n ≤ 100) (hm : 1 ≤ m ∧ m ≤ n) :
    sumB ⟨true, f, f + n - 1, m, 0, 0, 5, 0⟩ 1 2 3 = ⟨1, if 0 < n - m then imin (256 * (n - m) / n) 255 else 0, n - m, (f + n - 1) % 4294967296, 0, 2, 3⟩ ∧ sumS ⟨true, f, f + n - 1, m, 0, 0, 5, 0⟩ = ⟨true, f, f + n - 1, m, n, m, 5, 0⟩ := by
  have hk : okP ⟨true, f, f + n - 1, m, 0, 0, 5, 0⟩ := by simp only [okP]; omega
  have e : exd ⟨true, f, f + n - 1, m, 0, 0, 5, 0⟩ = n := by simp only [exd]; omega
  have e1 : fx ⟨true, f, f + n - 1, m, 0, 0, 5, 0⟩ = n := by simp only [fx, e]; omega
  have e2 : fy ⟨true, f, f + n - 1, m, 0, 0, 5, 0⟩ = n - m := by simp only [fy, e1]; omega
  have e3 : lst ⟨true, f, f + n - 1, m, 0, 0, 5, 0⟩ = n - m := by rw [e_mid (by rw [e]; show -8388608 ≤ n - m; omega) (by rw [e]; show n - m ≤ 8388607; omega), e]
  obtain ⟨a, b⟩ := sum_on (s := ⟨true, f, f + n - 1, m, 0, 0, 5, 0⟩) 1 2 3 (ok_t hk) rfl
  rw [a, b, e, e3]
  refine ⟨?_, rfl⟩
  simp only [frac, e1, e2]
  have : (0 < n ∧ 0 < n - m) ↔ 0 < n - m := ⟨fun h => h.2, fun h => ⟨by omega, h⟩⟩
  simp only [this]; rfl
theorem sum_2 {f m n : Int} (hf : 0 ≤ f ∧ f ≤ 4294967295) (hn : 2 ≤ n ∧ n ≤ 100) (hm : 1 ≤ m ∧ m ≤ n) :
    (sumB ⟨true, f, f + n - 1, m, n, m, 5, 0⟩ 1 2 3).l = n - m ∧ (sumB ⟨true, f, f + n - 1, m, n, m, 5, 0⟩ 1 2 3).f = 0 := by
  have hk : okP ⟨true, f, f + n - 1, m, n, m, 5, 0⟩ := by simp only [okP]; omega
  have e : exd ⟨true, f, f + n - 1, m, n, m, 5, 0⟩ = n := by simp only [exd]; omega
  have e1 : fx ⟨true, f, f + n - 1, m, n, m, 5, 0⟩ = 0 := by simp only [fx, e]; omega
  obtain ⟨a, _⟩ := sum_on (s := ⟨true, f, f + n - 1, m, n, m, 5, 0⟩) 1 2 3 (ok_t hk) rfl
  rw [a]
  refine ⟨?_, ?_⟩
  · show lst _ = _
    rw [e_mid (by rw [e]; show -8388608 ≤ n - m; omega) (by rw [e]; show n - m ≤ 8388607; omega), e]
  · show frac _ = _
    simp only [frac, e1]; rw [if_neg (by omega)]
theorem ixl {i m : Nat} {t : Int} (ht : 0 ≤ t ∧ t ≤ 255) (hi : i ≤ 100) : Int.tmod (IntKind.i64.wrap ((i : Int) + IntKind.i64.wrap t)) (m : Int) = (((i + t.toNat) % m : Nat) : Int) := by
  obtain ⟨n, rfl⟩ := Int.eq_ofNat_of_zero_le ht.1
  rw [wrap_i64 (x := (n : Int)) (by omega) (by omega), wrap_i64 (by omega) (by omega), Int.tmod_eq_emod_of_nonneg (by omega), Int.toNat_natCast, Int.natCast_emod, Int.natCast_add]
theorem prng {f : Int} {ar : List Bool} (hf : 0 ≤ f ∧ f ≤ 4294967295) (hn : ar.length ≤ 100) (k : Nat) : 0 ≤ (pres f ar ar.length).getD k 0 ∧ (pres f ar ar.length).getD k 0 ≤ 4294967395 :=
  getD_in (P := fun x => 0 ≤ x ∧ x ≤ 4294967395) (l := pres f ar ar.length) (fun x hx => by have := pres_mem x hx; omega) (by omega) k
theorem w8 {q : Int} (h : 0 ≤ q ∧ q ≤ 4294967395) : IntKind.i64.wrap (8 * q) = 8 * q ∧ IntKind.i64.wrap (8 * q + 5) = 8 * q + 5 := ⟨wrap_i64 (by omega) (by omega), wrap_i64 (by omega) (by omega)⟩
theorem sti_step {f : Int} {ar : List Bool} {tu : Nat} {x : LI} (hf : 0 ≤ f ∧ f ≤ 4294967295) (hn : ar.length ≤ 100) (hx : inl f ar.length (pres f ar ar.length).length tu (pres f ar ar.length) x) (hi : x.i < (pres f ar ar.length).length) :
    arr (sti x) ((pres f ar ar.length).getD ((x.i + tu) % (pres f ar ar.length).length) 0) (8 * (pres f ar ar.length).getD ((x.i + tu) % (pres f ar ar.length).length) 0 + 5) (8 * (pres f ar ar.length).getD ((x.i + tu) % (pres f ar ar.length).length) 0) = sti (nxi x ((pres f ar ar.length).getD ((x.i + tu) % (pres f ar ar.length).length) 0)) := by
  have hl := pres_len f ar ar.length
  exact sti_arr hf hn (by omega) hx.2.1 (getD_mem pres_mem (Nat.mod_lt _ (by omega)))
theorem sti_end {f : Int} {ar : List Bool} {tu : Nat} {x : LI} (h : 2 ≤ ar.length) (hx : inl f ar.length (pres f ar ar.length).length tu (pres f ar ar.length) x) (hi : (pres f ar ar.length).length ≤ x.i) : sti x = ⟨true, f, f + ar.length - 1, (pres f ar ar.length).length, 0, 0, 5, 0⟩ := by
  obtain ⟨a, b, c, d⟩ := inl_end h hx hi
  simp only [sti]; rw [if_neg (by omega), a, b, c]
theorem plen {f : Int} {ar : List Bool} (h : 2 ≤ ar.length) : 1 ≤ (pres f ar ar.length).length ∧ (pres f ar ar.length).length ≤ ar.length := by
  have := pres_len f ar ar.length
  have := (pres_last (f := f) h).1
  omega
theorem has_t {ar : List Bool} {j : Nat} (h : (ar.getD j false = true ∨ j = 0) ∨ (j : Int) = (ar.length : Int) - 1) : has ar j = true := by
  simp only [has, Bool.or_eq_true, decide_eq_true_eq]
  rcases h with (h | h) | h
  · exact .inl h
  · exact .inr (.inl h)
  · exact .inr (.inr (by omega))
theorem has_f {ar : List Bool} {j : Nat} (h : (ar.getD j false = false ∧ ¬ j = 0) ∧ ¬ (j : Int) = (ar.length : Int) - 1) : has ar j = false := by
  simp only [has, Bool.or_eq_false_iff, decide_eq_false_iff_not]
  exact ⟨h.1.1, h.1.2, by omega⟩
theorem ixe {i m : Nat} {t : Int} (ht : 0 ≤ t ∧ t ≤ 255) : Int.toNat (((i : Int) + t) % (m : Int)) = (i + t.toNat) % m := by
  obtain ⟨n, rfl⟩ := Int.eq_ofNat_of_zero_le ht.1
  rw [← Int.natCast_add, ← Int.natCast_emod, Int.toNat_natCast, Int.toNat_natCast]
theorem los_f {d n : Int} (hd : 0 ≤ d ∧ d ≤ 100) (hn : 2 ≤ n ∧ n ≤ 100) : IntKind.i64.wrap (if 0 < d then imin (256 * d / n) 255 else 0) = imin (256 * d / n) 255 ∧ IntKind.i64.wrap (256 * d / n) = 256 * d / n ∧ IntKind.i64.wrap (256 * d) = 256 * d := by
  have h1 := Int.ediv_nonneg (a := 256 * d) (b := n) (by omega) (by omega)
  have h2 := Int.ediv_le_self n (a := 256 * d) (by omega)
  refine ⟨?_, wrap_i64 (by omega) (by omega), wrap_i64 (by omega) (by omega)⟩
  by_cases h : 0 < d
  · rw [if_pos h]; refine wrap_i64 ?_ ?_ <;> (simp only [imin]; split <;> omega)
  · have e : d = 0 := by omega
    subst e; simp [imin]; rfl
end Sp
def aB (b : Bool) : List AV := [.c (.bool b)]
theorem open_B : ∀ c, Fits [.bool] c → ∃ x, c = aB x ∧ True := by
  intro c h
  simp only [Fits, Ev.Fit] at h
  obtain ⟨_, _, rfl, ⟨b0, rfl⟩, rfl⟩ := h
  exact ⟨b0, rfl, trivial⟩

end Go.Proofs.Ytgkeopjnfkgpbaa
