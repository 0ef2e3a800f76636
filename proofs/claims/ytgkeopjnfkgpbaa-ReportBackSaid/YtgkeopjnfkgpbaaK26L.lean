/-
  A part of the walk: contracts of functions, each proved once.
-/
import Derived.Test.YtgkeopjnfkgpbaaEvRun
import Derived.Test.YtgkeopjnfkgpbaaK26K
namespace Go.Proofs.Ytgkeopjnfkgpbaa
open Go Go.Ev
set_option linter.unusedVariables false
set_option linter.unusedSimpArgs false
set_option maxRecDepth 20000
namespace Sp
def eaE : List Rep → Int
  | [] => 0
  | r :: l => if chk r = 0 then eaE l else chk r
def flat (l : List Rep) : List Int := l.flatMap bytes
def eaB (l : List Rep) : List Int := if eaE l = 0 then flat l else []
theorem eaE_app : ∀ {l m : List Rep}, eaE l = 0 → eaE (l ++ m) = eaE m
  | [], _, _ => rfl
  | r :: l, m, h => by
    simp only [eaE] at h
    simp only [List.cons_append, eaE]
    split at h
    · rename_i hc; rw [if_pos hc]; exact eaE_app h
    · rename_i hc; exact (hc h).elim
theorem ea_split {l : List Rep} {j : Nat} (hj : j < l.length) : l = l.take j ++ l.getD j default :: l.drop (j + 1) := by
  rw [List.getD_eq_getElem?_getD, List.getElem?_eq_getElem hj, Option.getD_some, List.getElem_cons_drop, List.take_append_drop]
theorem ea_bad {l : List Rep} {j : Nat} (hj : j < l.length) (h : eaE (l.take j) = 0) (h2 : ¬ chk (l.getD j default) = 0) : eaE l = chk (l.getD j default) ∧ eaB l = [] := by
  have e : eaE l = chk (l.getD j default) := by
    rw [ea_split hj, eaE_app h, ← ea_split hj]; simp only [eaE]; rw [if_neg h2]
  exact ⟨e, by simp only [eaB]; rw [if_neg (by rw [e]; exact h2)]⟩
theorem ea_step {l : List Rep} {j : Nat} (hj : j < l.length) (h : eaE (l.take j) = 0) (h2 : chk (l.getD j default) = 0) : eaE (l.take (j + 1)) = 0 := by
  rw [take_succ_getD (d := default) hj, eaE_app h]; simp only [eaE]; rw [if_pos h2]
theorem ea_out {l : List Rep} {j : Nat} (hj : j < l.length) : flat (l.take (j + 1)) = flat (l.take j) ++ bytes (l.getD j default) := by
  simp only [flat]; rw [take_succ_getD (d := default) hj]; simp
theorem ea_end {l : List Rep} {j : Nat} (hj : l.length ≤ j) (h : eaE (l.take j) = 0) : eaE l = 0 ∧ eaB l = flat (l.take j) := by
  rw [List.take_of_length_le hj] at h ⊢
  exact ⟨h, by simp only [eaB]; rw [if_pos h]⟩
theorem bytes_len {r : Rep} (h : chk r = 0) : (bytes r).length ≤ 1000 := by
  have h2 := chk_le h
  have := cur_len (r := r) (j := r.bl.length) (Nat.le_refl _) h2
  rwa [cur_end (Nat.le_refl _)] at this
theorem flat_len2 : ∀ {l : List Rep}, eaE l = 0 → (flat l).length ≤ 1000 * l.length
  | [], _ => by simp [flat]
  | r :: l, h => by
    simp only [eaE] at h
    split at h
    · rename_i hc
      have := bytes_len hc
      have := flat_len2 h
      simp only [flat] at this ⊢; simp only [List.flatMap_cons, List.length_append, List.length_cons]; omega
    · rename_i hc; exact (hc h).elim
theorem dZ_ge (b : List Int) : 8 ≤ dZ b := by simp only [dZ, size]; split <;> omega
theorem dN_pos {b : List Int} (h : dE b = 0) : dN b = dZ b ∧ dZ b ≤ b.length := by
  simp only [dE] at h
  simp only [dN]
  split at h
  · cases h
  · split at h
    · cases h
    · split at h
      · cases h
      · split at h
        · cases h
        · split at h
          · cases h
          · rename_i h1 h2 h3 h4 h5
            rw [if_neg h1, if_neg h2, if_neg h3, if_neg h4, if_neg h5]; omega
def da (b : List Int) : List Rep × Int × Int :=
  if b = [] then ([], 0, 0) else if h : ¬ dE b = 0 then ([], dN b, dE b) else
    if (da (b.drop (dN b).toNat)).2.2 = 0 then (dR b :: (da (b.drop (dN b).toNat)).1, 0, 0) else ([], dN b + (da (b.drop (dN b).toNat)).2.1, (da (b.drop (dN b).toNat)).2.2)
termination_by b.length
decreasing_by all_goals (have h1 := dN_pos (Classical.not_not.1 h); have h2 := dZ_ge b; simp only [List.length_drop]; omega)
def cat (out : List Rep) (p : Int) (x : List Rep × Int × Int) : List Rep × Int × Int := if x.2.2 = 0 then (out ++ x.1, 0, 0) else ([], p + x.2.1, x.2.2)
theorem da_nil : da [] = ([], 0, 0) := by rw [da, if_pos rfl]
theorem da_bad {b : List Int} (h0 : b ≠ []) (h : ¬ dE b = 0) : da b = ([], dN b, dE b) := by rw [da, if_neg h0, dif_pos h]
theorem da_e {b : List Int} (h : (da b).2.2 = 0) : (da b).2.1 = 0 := by
  by_cases h0 : b = []
  · subst h0; rw [da_nil]
  · by_cases h1 : dE b = 0
    · rw [da, if_neg h0, dif_neg (by simp [h1])] at h ⊢
      split
      · rfl
      · rename_i h2; rw [if_neg h2] at h; exact (h2 h).elim
    · rw [da_bad h0 h1] at h; exact (h1 h).elim
theorem cat_step {b : List Int} {out : List Rep} {p : Int} (h0 : b ≠ []) (h : dE b = 0) : cat out p (da b) = cat (out ++ [dR b]) (p + dN b) (da (b.drop (dN b).toNat)) := by
  rw [da, if_neg h0, dif_neg (by simp [h])]
  by_cases h2 : (da (b.drop (dN b).toNat)).2.2 = 0
  · rw [if_pos h2]; simp [cat, h2]
  · rw [if_neg h2]; simp only [cat]; rw [if_neg h2, if_neg h2]; simp only [Prod.mk.injEq, true_and, and_true]; omega
theorem cat_0 (b : List Int) : da b = cat [] 0 (da b) := by
  simp only [cat]; split
  · rename_i h
    have := da_e h
    rw [List.nil_append]
    exact Prod.ext rfl (Prod.ext this h)
  · rename_i h
    have e : (da b).1 = [] := by
      by_cases h0 : b = []
      · subst h0; rw [da_nil]
      · by_cases h1 : dE b = 0
        · rw [da, if_neg h0, dif_neg (by simp [h1])] at h ⊢
          split
          · rename_i h2; rw [if_pos h2] at h; exact (h rfl).elim
          · rfl
        · rw [da_bad h0 h1]
    rw [Int.zero_add]; exact Prod.ext e rfl
def smallP (l : List Rep) : Prop := (∀ r ∈ l, r.bl.length ≤ 40) ∧ l.length ≤ 20
def fewB (l : List Rep) : Bool := (l.all fun r => decide (r.bl.length ≤ 40)) && decide (l.length ≤ 20)
theorem few_step {l : List Rep} {j : Nat} (hj : j < l.length) (h : ((l.take j).all fun r => decide (r.bl.length ≤ 40)) = true) (h2 : (l.getD j default).bl.length ≤ 40) : ((l.take (j + 1)).all fun r => decide (r.bl.length ≤ 40)) = true := by
  rw [take_succ_getD (d := default) hj, List.all_append, h]; simp [-List.getD_eq_getElem?_getD, h2]
theorem few_f {l : List Rep} {j : Nat} (hj : j < l.length) (h2 : 40 < (l.getD j default).bl.length) : fewB l = false := by
  have : (l.all fun r => decide (r.bl.length ≤ 40)) = false := by
    rw [List.all_eq_false]
    refine ⟨l.getD j default, ?_, by simp [-List.getD_eq_getElem?_getD]; exact h2⟩
    rw [List.getD_eq_getElem?_getD, List.getElem?_eq_getElem hj]; exact List.getElem_mem hj
  simp only [fewB, this, Bool.false_and]
theorem few_e {l : List Rep} {j : Nat} (hj : l.length ≤ j) (h : ((l.take j).all fun r => decide (r.bl.length ≤ 40)) = true) : decide ((l.length : Int) ≤ 20) = fewB l := by
  rw [List.take_of_length_le hj] at h
  simp only [fewB, h, Bool.true_and]; rw [Bool.eq_iff_iff]; simp; omega
theorem rok_get {l : List Rep} (h : ∀ r ∈ l, rok r) (j : Nat) : rok (l.getD j default) := getD_in h (by refine ⟨?_, ?_, ?_, ?_, ?_, fun x hx => by cases hx⟩ <;> first | (simp only [r32]; decide) | decide) j
theorem drop_in {b : List Int} (hb : ∀ x ∈ b, 0 ≤ x ∧ x ≤ 255) (k : Nat) : ∀ x ∈ b.drop k, 0 ≤ x ∧ x ≤ 255 := fun x hx => hb x (List.mem_of_mem_drop hx)
def DI (b : List Int) (s : Nat × List Rep) : Prop := s.1 ≤ b.length ∧ s.2.length ≤ s.1 ∧ da b = cat s.2 s.1 (da (b.drop s.1))
theorem DI_0 (b : List Int) : DI b (0, []) := ⟨Nat.zero_le _, Nat.le_refl _, by rw [List.drop_zero]; exact cat_0 b⟩
def dnx (b : List Int) (s : Nat × List Rep) : Nat × List Rep := (s.1 + (dN (b.drop s.1)).toNat, s.2 ++ [dR (b.drop s.1)])
theorem DI_n {b : List Int} {s : Nat × List Rep} (h : dE (b.drop s.1) = 0) : 8 ≤ dN (b.drop s.1) ∧ dN (b.drop s.1) ≤ (b.length - s.1 : Nat) := by
  have h1 := dN_pos h
  have h2 := dZ_ge (b.drop s.1)
  rw [List.length_drop] at h1
  omega
theorem DI_step {b : List Int} {s : Nat × List Rep} (hs : DI b s) (hlt : s.1 < b.length) (h : dE (b.drop s.1) = 0) : DI b (dnx b s) := by
  obtain ⟨a, c, d⟩ := hs
  have h1 := DI_n h
  have h0 : b.drop s.1 ≠ [] := fun e => by have := congrArg List.length e; simp at this; omega
  refine ⟨by simp only [dnx]; omega, by simp only [dnx, List.length_append, List.length_singleton]; omega, ?_⟩
  rw [d, cat_step h0 h, List.drop_drop]
  have e : ((s.1 + (dN (b.drop s.1)).toNat : Nat) : Int) = s.1 + dN (b.drop s.1) := by omega
  simp only [dnx, e]
theorem DI_bad {b : List Int} {s : Nat × List Rep} (hs : DI b s) (hlt : s.1 < b.length) (h : ¬ dE (b.drop s.1) = 0) : da b = ([], s.1 + dN (b.drop s.1), dE (b.drop s.1)) := by
  have h0 : b.drop s.1 ≠ [] := fun e => by have := congrArg List.length e; simp at this; omega
  rw [hs.2.2, da_bad h0 h]; simp only [cat]; rw [if_neg h]
theorem DI_end {b : List Int} {s : Nat × List Rep} (hs : DI b s) (hge : b.length ≤ s.1) : da b = (s.2, 0, 0) := by
  rw [hs.2.2, List.drop_of_length_le hge, da_nil]; simp [cat]
theorem dN_rng (b : List Int) : 0 ≤ dN b ∧ dN b ≤ 772 + b.length := by
  have h := dZ_ge b
  have h2 : dZ b ≤ 772 ∨ ¬ dZ b ≤ 772 := by omega
  have h3 : dZ b ≤ 772 := by
    have : dM b ≤ 31 := by simp only [dM]; omega
    simp only [dZ, size]; split <;> omega
  simp only [dN]; repeat' split
  all_goals omega
theorem rep_ext {a b : Rep} (h1 : a.snd = b.snd) (h2 : a.src = b.src) (h3 : a.clk = b.clk) (h4 : a.t = b.t) (h5 : a.p = b.p) (h6 : a.o = b.o) (h7 : a.bl = b.bl) : a = b := by cases a; cases b; simp_all
theorem blk_ext {a b : Blk} (h1 : a.s = b.s) (h2 : a.f = b.f) (h3 : a.l = b.l) (h4 : a.h = b.h) (h5 : a.j = b.j) (h6 : a.la = b.la) (h7 : a.d = b.d) : a = b := by cases a; cases b; simp_all
end Sp
def Sp.decR : List AV → Sp.Rep
  | [.c (.bool s), .c (.int _ a), .c (.int _ c), .c (.int _ t), .c (.int _ p), .c (.int _ o), .rr _ l] => ⟨s, a, c, t, p, o, l.map decK⟩
  | [.c (.bool s), .c (.int _ a), .c (.int _ c), .c (.int _ t), .c (.int _ p), .c (.int _ o), _] => ⟨s, a, c, t, p, o, []⟩
  | _ => default
theorem Sp.decR_aR (r : Sp.Rep) : Sp.decR (aR r) = r := by
  show (⟨r.snd, r.src, r.clk, r.t, r.p, r.o, (r.bl.map aK).map decK⟩ : Rep) = r
  rw [decK_map]
theorem Sp.decR_map (l : List Sp.Rep) : (l.map aR).map Sp.decR = l := by
  rw [List.map_map]; exact List.map_id'' (fun x => decR_aR x) l

end Go.Proofs.Ytgkeopjnfkgpbaa
