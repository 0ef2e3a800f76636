/-
  A part of the walk: contracts of functions, each proved once.
-/
import Derived.Test.YtllomeekbocfmaaEvRow
import Derived.Test.YtllomeekbocfmaaK29E
namespace Go.Proofs.Ytllomeekbocfmaa
open Go Go.Ev
set_option linter.unusedVariables false
set_option linter.unusedSimpArgs false
set_option maxRecDepth 20000
namespace Sp
def redv (f less : List Int) (j : Nat) : Int := if (j : Int) < less.length then Int.tdiv (f.getD j 0 * (less.getD j 0 - 32768)) 32768 else f.getD j 0
def red (f less : List Int) (j : Nat) : List Int := (List.range j).map (redv f less)
theorem red_len (f less : List Int) (j : Nat) : (red f less j).length = j := by simp [red]
theorem red_succ (f less : List Int) (j : Nat) : red f less (j + 1) = red f less j ++ [redv f less j] := by simp [red, List.range_succ]
theorem scale_abs {x k : Int} (hk : -32768 ≤ k ∧ k ≤ 32767) : (Int.tdiv (x * k) 32768).natAbs ≤ x.natAbs := by
  rw [Int.natAbs_tdiv, Int.natAbs_mul]
  have : k.natAbs ≤ 32768 := by omega
  show x.natAbs * k.natAbs / 32768 ≤ x.natAbs
  have h := Nat.mul_le_mul_left x.natAbs this
  exact Nat.div_le_of_le_mul (by rw [Nat.mul_comm 32768]; exact h)
theorem redv_abs {f less : List Int} (hl : ∀ x ∈ less, 0 ≤ x ∧ x ≤ 65535) (j : Nat) : (redv f less j).natAbs ≤ (f.getD j 0).natAbs := by
  have h := getD_in hl (by omega) (d := 0) j
  simp only [redv]; split
  · exact scale_abs (by omega)
  · exact Nat.le_refl _
theorem redv_rng {f less : List Int} (hf : ∀ x ∈ f, -32768 ≤ x ∧ x ≤ 32767) (hl : ∀ x ∈ less, 0 ≤ x ∧ x ≤ 65535) (j : Nat) : -32768 ≤ redv f less j ∧ redv f less j ≤ 32768 := by
  have h := redv_abs (f := f) hl j
  have h2 := getD_in hf (by omega) (d := 0) j
  omega
theorem redv_top {f less : List Int} (hf : ∀ x ∈ f, -32768 ≤ x ∧ x ≤ 32767) (hl : ∀ x ∈ less, 0 ≤ x ∧ x ≤ 65535) (j : Nat) : IntKind.i16.wrap (redv f less j) = redv f less j ∨ redv f less j = 32768 := by
  have := redv_rng hf hl j
  by_cases h : redv f less j = 32768
  · exact .inr h
  · exact .inl (wrap_i16 (by omega) (by omega))
def cut (x : Int) : Int := IntKind.i16.wrap x
def redc (f less : List Int) (j : Nat) : List Int := (red f less j).map cut
theorem redc_len (f less : List Int) (j : Nat) : (redc f less j).length = j := by simp [redc, red]
theorem redc_succ (f less : List Int) (j : Nat) : redc f less (j + 1) = redc f less j ++ [IntKind.i16.wrap (redv f less j)] := by simp [redc, red_succ, cut]
theorem cut_abs {x : Int} (h : -32768 ≤ x ∧ x ≤ 32768) : (cut x).natAbs = x.natAbs ∧ -32768 ≤ cut x ∧ cut x ≤ 32767 := by
  by_cases h1 : x = 32768
  · subst h1; decide
  · have : cut x = x := wrap_i16 (by omega) (by omega)
    rw [this]; omega
theorem redc_in {f less : List Int} (hf : ∀ x ∈ f, -32768 ≤ x ∧ x ≤ 32767) (hl : ∀ x ∈ less, 0 ≤ x ∧ x ≤ 65535) (j : Nat) : ∀ x ∈ redc f less j, -32768 ≤ x ∧ x ≤ 32767 := by
  intro x hx
  simp only [redc, red, List.mem_map, List.mem_range] at hx
  obtain ⟨_, ⟨i, _, rfl⟩, rfl⟩ := hx
  exact (cut_abs (redv_rng hf hl i)).2
theorem sq_app (a b : List Int) : sq (a ++ b) = sq a + sq b := by simp [sq]
theorem abs_sq {x y : Int} (h : x.natAbs ≤ y.natAbs) : x * x ≤ y * y := by
  rw [← Int.natAbs_mul_self' x, ← Int.natAbs_mul_self' y]
  have := Nat.mul_le_mul h h
  omega
theorem sq_redc {f less : List Int} (hf : ∀ x ∈ f, -32768 ≤ x ∧ x ≤ 32767) (hl : ∀ x ∈ less, 0 ≤ x ∧ x ≤ 65535) : ∀ j, j ≤ f.length → sq (redc f less j) ≤ sq (f.take j)
  | 0, _ => by simp [redc, red, sq]
  | j + 1, h => by
    have ih := sq_redc hf hl j (by omega)
    have h1 := cut_abs (redv_rng hf hl j)
    have h2 := abs_sq (x := cut (redv f less j)) (y := f.getD j 0) (by rw [h1.1]; exact redv_abs hl j)
    have e : sq [IntKind.i16.wrap (redv f less j)] = cut (redv f less j) * cut (redv f less j) := by simp [sq, cut]
    rw [redc_succ, sq_app, sq_take (by omega), e]; omega
theorem lg_mono {p q : Int} (h1 : 1 ≤ p) (h : p ≤ q) : lg p ≤ lg q := by
  simp only [lg]
  have h0 : p.toNat ≠ 0 := by omega
  have h2 : q.toNat ≠ 0 := by omega
  have : p.toNat.log2 ≤ q.toNat.log2 := by
    rw [Nat.le_log2 h2]; have := Nat.log2_self_le h0; omega
  omega
theorem lev_mono {f g : List Int} (hf : ∀ x ∈ f, -32768 ≤ x ∧ x ≤ 32767) (hg : ∀ x ∈ g, -32768 ≤ x ∧ x ≤ 32767) (hn : g.length = f.length) (h : sq g ≤ sq f) : lev f ≤ lev g := by
  have h0 := sq_rng hg
  by_cases h1 : sq g < g.length ∨ sq g = 0
  · rw [lev_127 h1]
    by_cases h2 : sq f < f.length ∨ sq f = 0
    · rw [lev_127 h2]; omega
    · obtain ⟨e, a, b, c⟩ := lev_p hf (by omega)
      have := lg_rng ⟨a, b⟩
      omega
  · obtain ⟨e, a, b, c⟩ := lev_p hg (by omega)
    obtain ⟨e2, a2, b2, c2⟩ := lev_p hf (by omega)
    have h3 : sq g / g.length ≤ sq f / f.length := by
      rw [hn]; exact Int.ediv_le_ediv (by omega) h
    have := lg_mono a h3
    omega
theorem lev_red {f less : List Int} (hf : ∀ x ∈ f, -32768 ≤ x ∧ x ≤ 32767) (hl : ∀ x ∈ less, 0 ≤ x ∧ x ≤ 65535) : lev f ≤ lev (redc f less f.length) := by
  refine lev_mono hf (redc_in hf hl _) (redc_len _ _ _) ?_
  have := sq_redc hf hl f.length (Nat.le_refl _)
  rwa [List.take_length] at this
theorem red_1 {f less : List Int} (hf : ∀ x ∈ f, -32768 ≤ x ∧ x ≤ 32767) (hl : ∀ x ∈ less, 0 ≤ x ∧ x ≤ 65535) {j : Nat} (h : j < less.length) : IntKind.i64.wrap (Int.tdiv (IntKind.i64.wrap (IntKind.i64.wrap (f.getD j 0) * IntKind.i64.wrap (IntKind.i64.wrap (less.getD j 0) - 32768))) 32768) = redv f less j := by
  have h1 := getD_in hf (by omega) (d := 0) j
  have h2 := getD_in hl (by omega) (d := 0) j
  have h3 := redv_rng hf hl j
  have h4 : (f.getD j 0 * (less.getD j 0 - 32768)).natAbs ≤ 32768 * 32768 := by
    rw [Int.natAbs_mul]; exact Nat.mul_le_mul (by omega) (by omega)
  have e : redv f less j = Int.tdiv (f.getD j 0 * (less.getD j 0 - 32768)) 32768 := by simp only [redv]; rw [if_pos (by omega)]
  rw [wrap_i64 (x := f.getD j 0) (by omega) (by omega), wrap_i64 (x := less.getD j 0) (by omega) (by omega), wrap_i64 (x := less.getD j 0 - 32768) (by omega) (by omega), wrap_i64 (x := f.getD j 0 * _) (by omega) (by omega), ← e, wrap_i64 (by omega) (by omega)]
theorem red_2 {f less : List Int} {j : Nat} (h : less.length ≤ j) : f.getD j 0 = redv f less j := by simp only [redv]; rw [if_neg (by omega)]
end Sp
theorem con_Levels (f less : List Int) (hf : ∀ x ∈ f, -32768 ≤ x ∧ x ≤ 32767) (hl : ∀ x ∈ less, 0 ≤ x ∧ x ≤ 65535) : Con Try.prog L0 4 [] [.ri .i16 f, .ri .u16 less] [] (.c (.bool true)) := by
  refine con_of_vc E_ok mixed Try.func4 rfl Try.call4 (Nat.le_of_ble_eq_true rfl) ?_
  have hv := Sp.lev_red hf hl
  refine VC.seq ?_
  refine VC.region (E := E) (C := C4) E_ok mixed (by first | exact fun _ => rfl | exact fun h => by cases h) [0, 1, 4, 5, 6, 7, 8, 9, 10, 11, 12, 13, 14, 15, 16, 17, 18, 19, 20, 21, 22, 23, 24, 25, 26, 27, 28, 29, 30, 31, 32, 33, 34, 35, 36, 37, 38, 39, 40, 41, 42, 43, 44, 45, 46, 47, 48, 49, 50, 51, 52, 53] (st' := St.mk [(0, AV.ri IntKind.i16 f), (1, AV.ri IntKind.u16 less), (4, AV.c (Value.bool false))] []) (ps := []) (by kernel_rfl) (.nil) ?_
  refine seqK_n ?_
  refine VC.seq ?_
  refine VC.seq ?_
  refine VC.region (E := E) (C := C4) E_ok mixed (by first | exact fun _ => rfl | exact fun h => by cases h) [0, 1, 4, 5, 6, 7, 10, 11, 12, 13, 14, 15, 16, 17, 18, 19, 20, 21, 22, 23, 24, 25, 26, 27, 28, 29, 30, 31, 32, 33, 34, 35, 36, 37, 38, 39, 40, 41, 42, 43, 44, 45, 46, 47, 48, 49, 50, 51, 52, 53] (st' := St.mk [(0, AV.ri IntKind.i16 f), (1, AV.ri IntKind.u16 less), (4, AV.c (Value.bool false)), (10, AV.c (Value.bool (decide (1000 < (↑(List.length f) : Int)))))] []) (ps := []) (by kernel_rfl) (.nil) ?_
  refine seqK_n ?_
  refine VC.cond (b := decide (1000 < (↑(List.length f) : Int))) (by kernel_rfl) (fun h1 => ?_) (fun h1 => ?_)
  ·
    simp at h1
    refine VC.seq ?_
    refine VC.region (E := E) (C := C4) E_ok mixed (by first | exact fun _ => rfl | exact fun h => by cases h) [0, 1, 4, 5, 6, 7, 12, 13, 14, 15, 16, 17, 18, 19, 20, 21, 22, 23, 24, 25, 26, 27, 28, 29, 30, 31, 32, 33, 34, 35, 36, 37, 38, 39, 40, 41, 42, 43, 44, 45, 46, 47, 48, 49, 50, 51, 52, 53] (st' := St.mk [(0, AV.ri IntKind.i16 f), (1, AV.ri IntKind.u16 less), (4, AV.c (Value.bool true))] []) (ps := [Con Try.prog L0 (15 : Nat) [] [] [] (AV.c (Value.bool true)), true = true ∨ True ∧ ∀ (o : HObj), o ∈ [] → HObj.nr o]) (by kernel_rfl) (.cons (by exact con_lives) (.cons (by simp) (.nil))) ?_
    refine seqK_n ?_
    refine VC.ret ?_
    refine seqK_r ?_
    exact Fin.all [] (.inr rfl) (l := [AV.c (Value.bool true)]) (ps := []) (by kernel_rfl) (by kernel_rfl) (.nil) (All.of (l' := []) (by kernel_rfl) (.nil)) (show AV.c (Value.bool true) = AV.c (Value.bool true) by with_reducible rfl)
  ·
    simp at h1
    refine VC.skip ?_
    refine seqK_n ?_
    refine VC.seq ?_
    refine VC.seq ?_
    refine VC.region (E := E) (C := C4) E_ok mixed (by first | exact fun _ => rfl | exact fun h => by cases h) [0, 1, 4, 5, 6, 7, 16, 17, 18, 19, 20, 21, 22, 23, 24, 25, 26, 27, 28, 29, 30, 31, 32, 33, 34, 35, 36, 37, 38, 39, 40, 41, 42, 43, 44, 45, 46, 47, 48, 49, 50, 51, 52, 53] (st' := St.mk [(0, AV.ri IntKind.i16 f), (1, AV.ri IntKind.u16 less), (4, AV.c (Value.bool false)), (16, AV.c (Value.bool (Sp.lev f != Sp.lev f)))] []) (ps := [Con Try.prog L0 (16 : Nat) [] [AV.ri IntKind.i16 f] [] (AV.c (Value.int IntKind.u8 (Sp.lev f))), true = true ∨ True ∧ ∀ (o : HObj), o ∈ [] → HObj.nr o, Con Try.prog L0 (17 : Nat) [] [AV.ri IntKind.i16 f] [] (AV.c (Value.int IntKind.u8 (Sp.lev f))), true = true ∨ True ∧ ∀ (o : HObj), o ∈ [] → HObj.nr o]) (by kernel_rfl) (.cons (by exact con_Level _ hf (by omega)) (.cons (by simp) (.cons (by exact con_rLevel _ hf (by omega)) (.cons (by simp) (.nil))))) ?_
    refine seqK_n ?_
    refine VC.cond (b := Sp.lev f != Sp.lev f) (by kernel_rfl) (fun h2 => ?_) (fun h2 => ?_)
    ·
      simp at h2
    ·
      simp at h2
      refine VC.skip ?_
      refine seqK_n ?_
      refine VC.seq ?_
      refine VC.region (E := E) (C := C4) E_ok mixed (by first | exact fun _ => rfl | exact fun h => by cases h) [0, 1, 4, 5, 6, 7, 17, 18, 19, 20, 21, 22, 23, 24, 25, 26, 27, 28, 29, 30, 31, 32, 33, 34, 35, 36, 37, 38, 39, 40, 41, 42, 43, 44, 45, 46, 47, 48, 49, 50, 51, 52, 53] (st' := St.mk [(0, AV.ri IntKind.i16 f), (1, AV.ri IntKind.u16 less), (4, AV.c (Value.bool false)), (5, AV.c (Value.slice none 0 0))] []) (ps := []) (by kernel_rfl) (.nil) ?_
      refine seqK_n ?_
      refine VC.seq ?_
      refine VC.seq ?_
      refine VC.region (E := E) (C := C4) E_ok mixed (by first | exact fun _ => rfl | exact fun h => by cases h) [0, 1, 4, 5, 6, 7, 17, 18, 19, 20, 21, 22, 23, 24, 25, 26, 27, 28, 29, 30, 31, 32, 33, 34, 35, 36, 37, 38, 39, 40, 41, 42, 43, 44, 45, 46, 47, 48, 49, 50, 51, 52, 53] (st' := St.mk [(0, AV.ri IntKind.i16 f), (1, AV.ri IntKind.u16 less), (4, AV.c (Value.bool false)), (5, AV.c (Value.slice none 0 0)), (6, AV.c (Value.int IntKind.i64 0))] []) (ps := []) (by kernel_rfl) (.nil) ?_
      refine seqK_n ?_
      refine VC.block ?_
      refine VC.ent (Ent.nil 5 (HObj.oi 40 .i16 []) (by first | exact .inl ⟨_, _, rfl⟩ | exact .inr ⟨_, _, rfl⟩) (by kernel_rfl)) ?_
      refine VC.loop (Y := {j : Nat // j ≤ f.length}) (fun j => ⟨[(0, .ri .i16 f), (1, .ri .u16 less), (4, .c (.bool false)), (5, .s 0 0 j.1 j.1), (6, .c (.int .i64 (j.1 : Nat)))], [.oi 40 .i16 (Sp.redc f less j.1)]⟩) (fun j => (f.length - j.1)) ⟨0, by omega⟩ ?_ ?_
      ·
        exact Ent.map [0] (by kernel_rfl) (All.of (l' := [HObj.oi (40 : TypeId) IntKind.i16 (Sp.redc f less (0 : Nat)) = HObj.dead ∨ HObj.oi (40 : TypeId) IntKind.i16 [] = HObj.oi (40 : TypeId) IntKind.i16 (Sp.redc f less (0 : Nat))]) (by kernel_rfl) (.cons (by exact .inr rfl) (.nil))) (All.of (l' := [some (AV.ri IntKind.i16 f) = some (AV.ri IntKind.i16 f), some (AV.ri IntKind.u16 less) = some (AV.ri IntKind.u16 less), some (AV.c (Value.bool false)) = some (AV.c (Value.bool false)), some (AV.s (0 : Nat) (0 : Nat) (0 : Nat) (0 : Nat)) = some (AV.s (0 : Nat) (0 : Nat) (0 : Nat) (0 : Nat)), some (AV.c (Value.int IntKind.i64 (0 : Int))) = some (AV.c (Value.int IntKind.i64 (0 : Int)))]) (by kernel_rfl) (.cons (by with_reducible rfl) (.cons (by with_reducible rfl) (.cons (by with_reducible rfl) (.cons (by with_reducible rfl) (.cons (by with_reducible rfl) (.nil)))))))
      intro ⟨j, hj⟩
      refine VC.seq ?_
      refine VC.seq ?_
      refine VC.region (E := E) (C := C4) E_ok mixed (by first | exact fun _ => rfl | exact fun h => by cases h) [0, 1, 4, 5, 6, 7, 20, 21, 22, 23, 24, 25, 26, 27, 28, 29, 30, 31, 32, 33, 34, 35, 36, 37, 38, 39, 40, 41, 42, 43, 44, 45, 46, 47, 48, 49, 50, 51, 52, 53] (st' := St.mk [(0, AV.ri IntKind.i16 f), (1, AV.ri IntKind.u16 less), (4, AV.c (Value.bool false)), (5, AV.s 0 0 j j), (6, AV.c (Value.int IntKind.i64 (↑j : Int))), (20, AV.c (Value.bool (decide ((↑j : Int) < (↑(List.length f) : Int)))))] [HObj.oi 40 IntKind.i16 (Sp.redc f less j)]) (ps := []) (by kernel_rfl) (.nil) ?_
      refine seqK_n ?_
      refine VC.cond (b := decide ((↑j : Int) < (↑(List.length f) : Int))) (by kernel_rfl) (fun h3 => ?_) (fun h3 => ?_)
      ·
        simp at h3
        refine VC.skip ?_
        refine seqK_n ?_
        refine VC.seq ?_
        refine VC.block ?_
        refine VC.seq ?_
        refine VC.regionE (E := E) (C := C4) E_ok mixed (by first | exact fun _ => rfl | exact fun h => by cases h) [0, 1, 4, 5, 6, 7, 21, 22, 28, 29, 30, 31, 32, 33, 34, 35, 36, 37, 38, 39, 40, 41, 42, 43, 44, 45, 46, 47, 48, 49, 50, 51, 52, 53] (st' := St.mk [(0, AV.ri IntKind.i16 f), (1, AV.ri IntKind.u16 less), (4, AV.c (Value.bool false)), (5, AV.s 0 0 j j), (6, AV.c (Value.int IntKind.i64 (↑j : Int))), (7, AV.c (Value.int IntKind.i64 (IntKind.wrap IntKind.i64 (List.getD f (Int.toNat (↑j : Int) * 1) 0))))] [HObj.oi 40 IntKind.i16 (Sp.redc f less j)]) (ps := [(0 : Int) ≤ (↑j : Int), (↑j : Int) < (↑(List.length f) : Int), Int.toNat (↑j : Int) * (1 : Nat) < List.length f]) (by kernel_rfl) (.cons (by omega) (.cons (by omega) (.cons (by omega) (.nil)))) (st'' := St.mk [(0, AV.ri IntKind.i16 f), (1, AV.ri IntKind.u16 less), (4, AV.c (Value.bool false)), (5, AV.s 0 0 j j), (6, AV.c (Value.int IntKind.i64 (↑j : Int))), (7, AV.c (Value.int IntKind.i64 (IntKind.wrap IntKind.i64 (List.getD f j 0))))] [HObj.oi 40 IntKind.i16 (Sp.redc f less j)]) (by (simp (disch := omega) only [wrap_i8, wrap_i16, wrap_i32, wrap_i64, wrap_u8, wrap_u16, wrap_u32, wrap_u64, Int.tdiv_eq_ediv_of_nonneg, Int.tmod_eq_emod_of_nonneg, Int.toNat_natCast, Int.reduceToNat, Nat.mul_one, Nat.zero_add, Nat.add_zero, Nat.one_mul, Int.one_mul, Int.zero_add, Int.add_zero, Int.mul_one, List.drop_zero, List.take_length, Int.zero_sub, List.length_map, List.length_set]) <;> rfl) ?_
        refine seqK_n ?_
        refine VC.seq ?_
        refine VC.seq ?_
        refine VC.region (E := E) (C := C4) E_ok mixed (by first | exact fun _ => rfl | exact fun h => by cases h) [0, 1, 4, 5, 6, 7, 21, 22, 31, 32, 33, 34, 35, 36, 37, 38, 39, 40, 41, 42, 43, 44, 45, 46, 47, 48, 49, 50, 51, 52, 53] (st' := St.mk [(0, AV.ri IntKind.i16 f), (1, AV.ri IntKind.u16 less), (4, AV.c (Value.bool false)), (5, AV.s 0 0 j j), (6, AV.c (Value.int IntKind.i64 (↑j : Int))), (7, AV.c (Value.int IntKind.i64 (IntKind.wrap IntKind.i64 (List.getD f j 0)))), (31, AV.c (Value.bool (decide ((↑j : Int) < (↑(List.length less) : Int)))))] [HObj.oi 40 IntKind.i16 (Sp.redc f less j)]) (ps := []) (by kernel_rfl) (.nil) ?_
        refine seqK_n ?_
        refine VC.cond (b := decide ((↑j : Int) < (↑(List.length less) : Int))) (by kernel_rfl) (fun h4 => ?_) (fun h4 => ?_)
        ·
          simp at h4
          refine VC.regionE (E := E) (C := C4) E_ok mixed (by first | exact fun _ => rfl | exact fun h => by cases h) [0, 1, 4, 5, 6, 7, 21, 22, 41, 42, 43, 44, 45, 46, 47, 48, 49, 50, 51, 52, 53] (st' := St.mk [(0, AV.ri IntKind.i16 f), (1, AV.ri IntKind.u16 less), (4, AV.c (Value.bool false)), (5, AV.s 0 0 j j), (6, AV.c (Value.int IntKind.i64 (↑j : Int))), (7, AV.c (Value.int IntKind.i64 (IntKind.wrap IntKind.i64 (Int.tdiv (IntKind.wrap IntKind.i64 (IntKind.wrap IntKind.i64 (List.getD f j 0) * IntKind.wrap IntKind.i64 (IntKind.wrap IntKind.i64 (List.getD less (Int.toNat (↑j : Int) * 1) 0) - 32768))) 32768))))] [HObj.oi 40 IntKind.i16 (Sp.redc f less j)]) (ps := [(0 : Int) ≤ (↑j : Int), (↑j : Int) < (↑(List.length less) : Int), Int.toNat (↑j : Int) * (1 : Nat) < List.length less, (32768 : Int) ≠ (0 : Int)]) (by kernel_rfl) (.cons (by omega) (.cons (by omega) (.cons (by omega) (.cons (by trivial) (.nil))))) (st'' := St.mk [(0, AV.ri IntKind.i16 f), (1, AV.ri IntKind.u16 less), (4, AV.c (Value.bool false)), (5, AV.s 0 0 j j), (6, AV.c (Value.int IntKind.i64 (↑j : Int))), (7, AV.c (Value.int IntKind.i64 (IntKind.wrap IntKind.i64 (Int.tdiv (IntKind.wrap IntKind.i64 (IntKind.wrap IntKind.i64 (List.getD f j 0) * IntKind.wrap IntKind.i64 (IntKind.wrap IntKind.i64 (List.getD less j 0) - 32768))) 32768))))] [HObj.oi 40 IntKind.i16 (Sp.redc f less j)]) (by (simp (disch := omega) only [wrap_i8, wrap_i16, wrap_i32, wrap_i64, wrap_u8, wrap_u16, wrap_u32, wrap_u64, Int.tdiv_eq_ediv_of_nonneg, Int.tmod_eq_emod_of_nonneg, Int.toNat_natCast, Int.reduceToNat, Nat.mul_one, Nat.zero_add, Nat.add_zero, Nat.one_mul, Int.one_mul, Int.zero_add, Int.add_zero, Int.mul_one, List.drop_zero, List.take_length, Int.zero_sub, List.length_map, List.length_set]) <;> rfl) ?_
          refine seqK_n ?_
          refine VC.region (E := E) (C := C4) E_ok mixed (by first | exact fun _ => rfl | exact fun h => by cases h) [0, 1, 4, 5, 6, 21, 22, 46, 47, 48, 49, 50, 51, 52, 53] (st' := St.mk [(0, AV.ri IntKind.i16 f), (1, AV.ri IntKind.u16 less), (4, AV.c (Value.bool false)), (5, AV.s 2 0 (j + 1) (j + 1)), (6, AV.c (Value.int IntKind.i64 (↑j : Int)))] [HObj.dead, HObj.oi 40 IntKind.i16 [IntKind.wrap IntKind.i16 (IntKind.wrap IntKind.i64 (Int.tdiv (IntKind.wrap IntKind.i64 (IntKind.wrap IntKind.i64 (List.getD f j 0) * IntKind.wrap IntKind.i64 (IntKind.wrap IntKind.i64 (List.getD less j 0) - 32768))) 32768))], HObj.oi 40 IntKind.i16 (Sp.redc f less j ++ [IntKind.wrap IntKind.i16 (IntKind.wrap IntKind.i64 (Int.tdiv (IntKind.wrap IntKind.i64 (IntKind.wrap IntKind.i64 (List.getD f j 0) * IntKind.wrap IntKind.i64 (IntKind.wrap IntKind.i64 (List.getD less j 0) - 32768))) 32768))])]) (ps := [(1 : Nat) ≤ (1000 : Nat), (j + (1 : Nat)) * (2 : Nat) ≤ (140737488355328 : Nat), j + (1 : Nat) ≤ (9223372036854775807 : Nat), j = List.length (Sp.redc f less j), j = j, (1 : Nat) ≤ (1 : Nat)]) (by kernel_rfl) (.cons (by trivial) (.cons (by omega) (.cons (by omega) (.cons (by rw [Sp.redc_len]) (.cons (by trivial) (.cons (by trivial) (.nil))))))) ?_
          refine blockK_n ?_
          refine seqK_n ?_
          refine VC.regionE (E := E) (C := C4) E_ok mixed (by first | exact fun _ => rfl | exact fun h => by cases h) [0, 1, 4, 5, 6, 46, 47, 48, 49, 50, 51, 52, 53] (st' := St.mk [(0, AV.ri IntKind.i16 f), (1, AV.ri IntKind.u16 less), (4, AV.c (Value.bool false)), (5, AV.s 2 0 (j + 1) (j + 1)), (6, AV.c (Value.int IntKind.i64 (IntKind.wrap IntKind.i64 ((↑j : Int) + 1))))] [HObj.dead, HObj.oi 40 IntKind.i16 [IntKind.wrap IntKind.i16 (IntKind.wrap IntKind.i64 (Int.tdiv (IntKind.wrap IntKind.i64 (IntKind.wrap IntKind.i64 (List.getD f j 0) * IntKind.wrap IntKind.i64 (IntKind.wrap IntKind.i64 (List.getD less j 0) - 32768))) 32768))], HObj.oi 40 IntKind.i16 (Sp.redc f less j ++ [IntKind.wrap IntKind.i16 (IntKind.wrap IntKind.i64 (Int.tdiv (IntKind.wrap IntKind.i64 (IntKind.wrap IntKind.i64 (List.getD f j 0) * IntKind.wrap IntKind.i64 (IntKind.wrap IntKind.i64 (List.getD less j 0) - 32768))) 32768))])]) (ps := []) (by kernel_rfl) (.nil) (st'' := St.mk [(0, AV.ri IntKind.i16 f), (1, AV.ri IntKind.u16 less), (4, AV.c (Value.bool false)), (5, AV.s 2 0 (j + 1) (j + 1)), (6, AV.c (Value.int IntKind.i64 ((↑j : Int) + 1)))] [HObj.dead, HObj.oi 40 IntKind.i16 [IntKind.wrap IntKind.i16 (IntKind.wrap IntKind.i64 (Int.tdiv (IntKind.wrap IntKind.i64 (IntKind.wrap IntKind.i64 (List.getD f j 0) * IntKind.wrap IntKind.i64 (IntKind.wrap IntKind.i64 (List.getD less j 0) - 32768))) 32768))], HObj.oi 40 IntKind.i16 (Sp.redc f less j ++ [IntKind.wrap IntKind.i16 (IntKind.wrap IntKind.i64 (Int.tdiv (IntKind.wrap IntKind.i64 (IntKind.wrap IntKind.i64 (List.getD f j 0) * IntKind.wrap IntKind.i64 (IntKind.wrap IntKind.i64 (List.getD less j 0) - 32768))) 32768))])]) (by (simp (disch := omega) only [wrap_i8, wrap_i16, wrap_i32, wrap_i64, wrap_u8, wrap_u16, wrap_u32, wrap_u64, Int.tdiv_eq_ediv_of_nonneg, Int.tmod_eq_emod_of_nonneg, Int.toNat_natCast, Int.reduceToNat, Nat.mul_one, Nat.zero_add, Nat.add_zero, Nat.one_mul, Int.one_mul, Int.zero_add, Int.add_zero, Int.mul_one, List.drop_zero, List.take_length, Int.zero_sub, List.length_map, List.length_set]) <;> rfl) ?_
          refine loopK_n (⟨j + 1, by omega⟩) ?_ ?_
          ·
            exact (show List.length f - (j + 1) < List.length f - j by omega)
          ·
            exact Ent.map [2] (by kernel_rfl) (All.of (l' := [HObj.oi (40 : TypeId) IntKind.i16 (Sp.redc f less (j + (1 : Nat))) = HObj.dead ∨ HObj.oi (40 : TypeId) IntKind.i16 (Sp.redc f less j ++ [IntKind.wrap IntKind.i16 (IntKind.wrap IntKind.i64 (Int.tdiv (IntKind.wrap IntKind.i64 (IntKind.wrap IntKind.i64 (List.getD f j (0 : Int)) * IntKind.wrap IntKind.i64 (IntKind.wrap IntKind.i64 (List.getD less j (0 : Int)) - (32768 : Int)))) (32768 : Int)))]) = HObj.oi (40 : TypeId) IntKind.i16 (Sp.redc f less (j + (1 : Nat)))]) (by kernel_rfl) (.cons (by exact .inr (by rw [Sp.redc_succ, ← Sp.red_1 hf hl h4])) (.nil))) (All.of (l' := [some (AV.ri IntKind.i16 f) = some (AV.ri IntKind.i16 f), some (AV.ri IntKind.u16 less) = some (AV.ri IntKind.u16 less), some (AV.c (Value.bool false)) = some (AV.c (Value.bool false)), some (AV.s (2 : Nat) (0 : Nat) (j + (1 : Nat)) (j + (1 : Nat))) = some (AV.s (2 : Nat) (0 : Nat) (j + (1 : Nat)) (j + (1 : Nat))), some (AV.c (Value.int IntKind.i64 ((↑j : Int) + (1 : Int)))) = some (AV.c (Value.int IntKind.i64 (↑(j + (1 : Nat)) : Int)))]) (by kernel_rfl) (.cons (by with_reducible rfl) (.cons (by with_reducible rfl) (.cons (by with_reducible rfl) (.cons (by with_reducible rfl) (.cons (by trivial) (.nil)))))))
        ·
          simp at h4
          refine VC.skip ?_
          refine seqK_n ?_
          refine VC.region (E := E) (C := C4) E_ok mixed (by first | exact fun _ => rfl | exact fun h => by cases h) [0, 1, 4, 5, 6, 21, 22, 46, 47, 48, 49, 50, 51, 52, 53] (st' := St.mk [(0, AV.ri IntKind.i16 f), (1, AV.ri IntKind.u16 less), (4, AV.c (Value.bool false)), (5, AV.s 2 0 (j + 1) (j + 1)), (6, AV.c (Value.int IntKind.i64 (↑j : Int)))] [HObj.dead, HObj.oi 40 IntKind.i16 [IntKind.wrap IntKind.i16 (IntKind.wrap IntKind.i64 (List.getD f j 0))], HObj.oi 40 IntKind.i16 (Sp.redc f less j ++ [IntKind.wrap IntKind.i16 (IntKind.wrap IntKind.i64 (List.getD f j 0))])]) (ps := [(1 : Nat) ≤ (1000 : Nat), (j + (1 : Nat)) * (2 : Nat) ≤ (140737488355328 : Nat), j + (1 : Nat) ≤ (9223372036854775807 : Nat), j = List.length (Sp.redc f less j), j = j, (1 : Nat) ≤ (1 : Nat)]) (by kernel_rfl) (.cons (by trivial) (.cons (by omega) (.cons (by omega) (.cons (by rw [Sp.redc_len]) (.cons (by trivial) (.cons (by trivial) (.nil))))))) ?_
          refine blockK_n ?_
          refine seqK_n ?_
          refine VC.regionE (E := E) (C := C4) E_ok mixed (by first | exact fun _ => rfl | exact fun h => by cases h) [0, 1, 4, 5, 6, 46, 47, 48, 49, 50, 51, 52, 53] (st' := St.mk [(0, AV.ri IntKind.i16 f), (1, AV.ri IntKind.u16 less), (4, AV.c (Value.bool false)), (5, AV.s 2 0 (j + 1) (j + 1)), (6, AV.c (Value.int IntKind.i64 (IntKind.wrap IntKind.i64 ((↑j : Int) + 1))))] [HObj.dead, HObj.oi 40 IntKind.i16 [IntKind.wrap IntKind.i16 (IntKind.wrap IntKind.i64 (List.getD f j 0))], HObj.oi 40 IntKind.i16 (Sp.redc f less j ++ [IntKind.wrap IntKind.i16 (IntKind.wrap IntKind.i64 (List.getD f j 0))])]) (ps := []) (by kernel_rfl) (.nil) (st'' := St.mk [(0, AV.ri IntKind.i16 f), (1, AV.ri IntKind.u16 less), (4, AV.c (Value.bool false)), (5, AV.s 2 0 (j + 1) (j + 1)), (6, AV.c (Value.int IntKind.i64 ((↑j : Int) + 1)))] [HObj.dead, HObj.oi 40 IntKind.i16 [IntKind.wrap IntKind.i16 (IntKind.wrap IntKind.i64 (List.getD f j 0))], HObj.oi 40 IntKind.i16 (Sp.redc f less j ++ [IntKind.wrap IntKind.i16 (IntKind.wrap IntKind.i64 (List.getD f j 0))])]) (by (simp (disch := omega) only [wrap_i8, wrap_i16, wrap_i32, wrap_i64, wrap_u8, wrap_u16, wrap_u32, wrap_u64, Int.tdiv_eq_ediv_of_nonneg, Int.tmod_eq_emod_of_nonneg, Int.toNat_natCast, Int.reduceToNat, Nat.mul_one, Nat.zero_add, Nat.add_zero, Nat.one_mul, Int.one_mul, Int.zero_add, Int.add_zero, Int.mul_one, List.drop_zero, List.take_length, Int.zero_sub, List.length_map, List.length_set]) <;> rfl) ?_
          refine loopK_n (⟨j + 1, by omega⟩) ?_ ?_
          ·
            exact (show List.length f - (j + 1) < List.length f - j by omega)
          ·
            exact Ent.map [2] (by kernel_rfl) (All.of (l' := [HObj.oi (40 : TypeId) IntKind.i16 (Sp.redc f less (j + (1 : Nat))) = HObj.dead ∨ HObj.oi (40 : TypeId) IntKind.i16 (Sp.redc f less j ++ [IntKind.wrap IntKind.i16 (IntKind.wrap IntKind.i64 (List.getD f j (0 : Int)))]) = HObj.oi (40 : TypeId) IntKind.i16 (Sp.redc f less (j + (1 : Nat)))]) (by kernel_rfl) (.cons (by exact .inr (by rw [Sp.redc_succ, ← Sp.red_2 (f := f) h4, wrap_i64 (x := f.getD j 0) (by have := getD_in hf (by omega) (d := 0) j; omega) (by have := getD_in hf (by omega) (d := 0) j; omega)])) (.nil))) (All.of (l' := [some (AV.ri IntKind.i16 f) = some (AV.ri IntKind.i16 f), some (AV.ri IntKind.u16 less) = some (AV.ri IntKind.u16 less), some (AV.c (Value.bool false)) = some (AV.c (Value.bool false)), some (AV.s (2 : Nat) (0 : Nat) (j + (1 : Nat)) (j + (1 : Nat))) = some (AV.s (2 : Nat) (0 : Nat) (j + (1 : Nat)) (j + (1 : Nat))), some (AV.c (Value.int IntKind.i64 ((↑j : Int) + (1 : Int)))) = some (AV.c (Value.int IntKind.i64 (↑(j + (1 : Nat)) : Int)))]) (by kernel_rfl) (.cons (by with_reducible rfl) (.cons (by with_reducible rfl) (.cons (by with_reducible rfl) (.cons (by with_reducible rfl) (.cons (by trivial) (.nil)))))))
      ·
        simp at h3
        refine VC.exit ?_
        refine seqK_x ?_
        refine loopK_x ?_
        refine blockK_x ?_
        refine seqK_n ?_
        refine VC.seq ?_
        refine VC.regionE (E := E) (C := C4) E_ok mixed (by first | exact fun _ => rfl | exact fun h => by cases h) [4] (st' := St.mk [(4, AV.c (Value.bool (if decide (Sp.lev f ≤ Sp.lev (List.take j (List.drop 0 (Sp.redc f less j)))) = true then true else false)))] [HObj.oi 40 IntKind.i16 (Sp.redc f less j)]) (ps := [Con Try.prog L0 (16 : Nat) [] [AV.ri IntKind.i16 (List.take j (List.drop (0 : Nat) (Sp.redc f less j)))] [] (AV.c (Value.int IntKind.u8 (Sp.lev (List.take j (List.drop (0 : Nat) (Sp.redc f less j)))))), false = true ∨ True ∧ ∀ (o : HObj), o ∈ [] → HObj.nr o, j ≤ j, (0 : Nat) + j ≤ List.length (Sp.redc f less j), Con Try.prog L0 (16 : Nat) [] [AV.ri IntKind.i16 f] [] (AV.c (Value.int IntKind.u8 (Sp.lev f))), true = true ∨ True ∧ ∀ (o : HObj), o ∈ [] → HObj.nr o, decide (Sp.lev f ≤ Sp.lev (List.take j (List.drop (0 : Nat) (Sp.redc f less j)))) = true → Con Try.prog L0 (15 : Nat) [] [] [] (AV.c (Value.bool true)) ∧ (true = true ∨ True ∧ ∀ (o : HObj), o ∈ [] → HObj.nr o) ∧ True, decide (Sp.lev f ≤ Sp.lev (List.take j (List.drop (0 : Nat) (Sp.redc f less j)))) = true → decide (Sp.lev f ≤ Sp.lev (List.take j (List.drop (0 : Nat) (Sp.redc f less j)))) = true ∧ True, decide (Sp.lev f ≤ Sp.lev (List.take j (List.drop (0 : Nat) (Sp.redc f less j)))) = false → True]) (by kernel_rfl) (.cons (by rw [List.drop_zero, List.take_of_length_le (by rw [Sp.redc_len]; omega)]; exact con_Level _ (Sp.redc_in hf hl _) (by rw [Sp.redc_len]; omega)) (.cons (by simp) (.cons (by omega) (.cons (by rw [Sp.redc_len]; omega) (.cons (by exact con_Level _ hf (by omega)) (.cons (by simp) (.cons ((fun g1 => ⟨(by exact con_lives), ⟨(by simp), trivial⟩⟩)) (.cons (by exact fun h => ⟨h, trivial⟩) (.cons (by exact fun _ => trivial) (.nil)))))))))) (st'' := St.mk [(4, AV.c (Value.bool (if decide (Sp.lev f ≤ Sp.lev (List.take j (Sp.redc f less j))) = true then true else false)))] [HObj.oi 40 IntKind.i16 (Sp.redc f less j)]) (by (simp (disch := omega) only [wrap_i8, wrap_i16, wrap_i32, wrap_i64, wrap_u8, wrap_u16, wrap_u32, wrap_u64, Int.tdiv_eq_ediv_of_nonneg, Int.tmod_eq_emod_of_nonneg, Int.toNat_natCast, Int.reduceToNat, Nat.mul_one, Nat.zero_add, Nat.add_zero, Nat.one_mul, Int.one_mul, Int.zero_add, Int.add_zero, Int.mul_one, List.drop_zero, List.take_length, Int.zero_sub, List.length_map, List.length_set]) <;> rfl) ?_
        refine seqK_n ?_
        refine VC.ret ?_
        exact Fin.all [] (.inr rfl) (l := [AV.c (Value.bool (if decide (Sp.lev f ≤ Sp.lev (List.take j (Sp.redc f less j))) = true then true else false))]) (ps := []) (by kernel_rfl) (by kernel_rfl) (.nil) (All.of (l' := []) (by kernel_rfl) (.nil)) (show AV.c (Value.bool (if decide (Sp.lev f ≤ Sp.lev (List.take j (Sp.redc f less j))) = true then true else false)) = AV.c (Value.bool true) by have e : f.length = j := (by omega); rw [e] at hv; rw [List.take_of_length_le (by rw [Sp.redc_len]; omega)]; simp [hv])

end Go.Proofs.Ytllomeekbocfmaa
