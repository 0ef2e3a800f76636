/-
  Plain facts about lists of numbers, as walks want them.
-/
import Derived.Test.YtcnklcnehpkfaaaEvR
namespace Go.Ev
open Go
set_option linter.unusedVariables false
set_option linter.unusedSimpArgs false

@[simp] theorem strEq_self (x : ByteArray) : strEq x x = true := by simp [strEq]
theorem take_two {α : Type} (a b : List α) : List.take (a.length + b.length) (a ++ b) = a ++ b := List.take_of_length_le (by simp)
theorem getD_mem {α : Type} {l : List α} {d : α} {P : α → Prop} (hl : ∀ x ∈ l, P x) {j : Nat} (hj : j < l.length) : P (l.getD j d) := by
  rw [List.getD_eq_getElem?_getD, List.getElem?_eq_getElem hj]; exact hl _ (List.getElem_mem hj)
theorem getD_in {α : Type} {l : List α} {d : α} {P : α → Prop} (hl : ∀ x ∈ l, P x) (hd : P d) (j : Nat) : P (l.getD j d) := by
  rcases Nat.lt_or_ge j l.length with h | h
  · exact getD_mem hl h
  · rw [List.getD_eq_getElem?_getD, List.getElem?_eq_none h]; exact hd
theorem take_succ_getD {α : Type} {l : List α} {d : α} {j : Nat} (hj : j < l.length) : l.take (j + 1) = l.take j ++ [l.getD j d] := by
  rw [List.take_succ_eq_append_getElem hj, List.getD_eq_getElem?_getD, List.getElem?_eq_getElem hj]; rfl
theorem map_take_succ {α β : Type} {f : α → β} {l : List α} {d : α} {j : Nat} (hj : j < l.length) : (l.take j).map f ++ [f (l.getD j d)] = (l.take (j + 1)).map f := by
  rw [take_succ_getD (d := d) hj]; simp
theorem take_end {α : Type} {l : List α} {j : Nat} (h1 : j ≤ l.length) (h2 : l.length ≤ j) : l.take j = l := List.take_of_length_le h2

/-- A row that is filled from its head on. -/
def Sp.rowm {α : Type} (f : α → Int) (l : List α) (j : Nat) : List Int := (l.take j).map f ++ List.replicate (l.length - j) 0
theorem Sp.rowm_len {α : Type} (f : α → Int) (l : List α) (j : Nat) (h : j ≤ l.length) : (Sp.rowm f l j).length = l.length := by simp [Sp.rowm]; omega
theorem Sp.rowm_zero {α : Type} (f : α → Int) (l : List α) : Sp.rowm f l 0 = List.replicate l.length 0 := by simp [Sp.rowm]
theorem Sp.rowm_end {α : Type} {f : α → Int} {l : List α} {j : Nat} (h1 : j ≤ l.length) (h2 : l.length ≤ j) : Sp.rowm f l j = l.map f := by
  obtain rfl : j = l.length := by omega
  simp [Sp.rowm]
theorem Sp.rowm_set {α : Type} (f : α → Int) {l : List α} {d : α} {j : Nat} (hj : j < l.length) : (Sp.rowm f l j).set j (f (l.getD j d)) = Sp.rowm f l (j + 1) := by
  have h1 : ((l.take j).map f).length = j := by simp; omega
  have h2 : l.length - j = (l.length - (j + 1)) + 1 := by omega
  simp only [Sp.rowm]
  rw [h2, List.replicate_succ, List.set_append_right _ _ (by omega), h1, Nat.sub_self, List.set_cons_zero, take_succ_getD (d := d) hj]
  simp

theorem take_step {x y : List Int} {j : Nat} (hj : j < x.length) (hl : (x.length : Int) = y.length) (h : x.take j = y.take j) (h3 : (x[j]?).getD 0 = (y[j]?).getD (0 : Int)) : x.take (j + 1) = y.take (j + 1) := by
  have hy : j < y.length := by omega
  rw [List.getElem?_eq_getElem hj, List.getElem?_eq_getElem hy] at h3
  simp only [Option.getD_some] at h3
  rw [List.take_succ_eq_append_getElem hj, List.take_succ_eq_append_getElem hy, h, h3]
theorem same_end {x y : List Int} {j : Nat} (hj : j ≤ x.length) (h2 : x.length ≤ j) (hl : (x.length : Int) = y.length) (h : x.take j = y.take j) : AV.c (Value.bool true) = AV.c (Value.bool (x == y)) := by
  obtain rfl : j = x.length := by omega
  rw [List.take_length, show x.length = y.length from by omega, List.take_length] at h
  subst h; simp
theorem same_len {x y : List Int} (hl : ¬ (x.length : Int) = y.length) : AV.c (Value.bool false) = AV.c (Value.bool (x == y)) := by
  have : (x == y) = false := by rw [beq_eq_false_iff_ne]; rintro rfl; exact hl rfl
  rw [this]
theorem same_ne {x y : List Int} {j : Nat} (h3 : ¬ (x[j]?).getD 0 = (y[j]?).getD (0 : Int)) : AV.c (Value.bool false) = AV.c (Value.bool (x == y)) := by
  have : (x == y) = false := by rw [beq_eq_false_iff_ne]; rintro rfl; exact h3 rfl
  rw [this]
end Go.Ev
