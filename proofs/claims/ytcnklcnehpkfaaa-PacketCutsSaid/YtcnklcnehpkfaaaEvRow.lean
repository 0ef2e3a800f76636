/-
  Rows that a function gives: the cells of a row whose number is not a numeral.
-/
import Derived.Test.YtcnklcnehpkfaaaEvList
import Derived.Test.YtcnklcnehpkfaaaEvOpen
namespace Go.Ev
open Go
set_option linter.unusedVariables false
set_option linter.unusedSimpArgs false

theorem nlLL_iff {l : List (List AV)} : nlLL l ↔ ∀ c ∈ l, nlL c := by
  induction l with
  | nil => simp [nlLL]
  | cons c l ih => simp [nlLL, ih]
theorem nlLL_map {α : Type} {a : α → List AV} {L : List α} (h : ∀ x, nlL (a x)) : nlLL (L.map a) := by
  rw [nlLL_iff]; intro c hc
  obtain ⟨x, _, rfl⟩ := List.mem_map.1 hc
  exact h x

theorem roCells_of {x : AV} : ∀ {n off : Nat} {row : List AV}, row.length = n → (∀ i, i < n → ∃ p, roCell x (off + i) = some (row.getD i (.c undef), p) ∧ All p) → Sp.roAt x off n row
  | 0, off, row, h, _ => by
    obtain rfl : row = [] := List.length_eq_zero_iff.1 h
    exact ⟨[], by simp [roCells], by simp [All]⟩
  | n + 1, off, row, h, hc => by
    match row, h with
    | y :: r, h =>
      obtain ⟨p, h1, h2⟩ := hc 0 (by omega)
      obtain ⟨ps, h3, h4⟩ := roCells_of (x := x) (n := n) (off := off + 1) (row := r) (by simpa using h) fun i hi => by
        obtain ⟨p, a, b⟩ := hc (i + 1) (by omega)
        exact ⟨p, by rw [show off + 1 + i = off + (i + 1) from by omega]; simpa using a, b⟩
      simp only [Nat.add_zero, List.getD_cons_zero] at h1
      refine ⟨p ++ ps, by simp [roCells, h1, h3], ?_⟩
      clear h1 h3 hc
      induction p with
      | nil => exact h4
      | cons q p ih => exact ⟨h2.1, ih h2.2⟩

theorem ownCells_of {o : HObj} : ∀ {n off : Nat} {row : List AV}, row.length = n → (∀ i, i < n → ∃ p, o.cell (off + i) = some (row.getD i (.c undef), p) ∧ All p) → Sp.ownAt o off n row
  | 0, off, row, h, _ => by
    obtain rfl : row = [] := List.length_eq_zero_iff.1 h
    exact ⟨[], by simp [HObj.cells], by simp [All]⟩
  | n + 1, off, row, h, hc => by
    match row, h with
    | y :: r, h =>
      obtain ⟨p, h1, h2⟩ := hc 0 (by omega)
      obtain ⟨ps, h3, h4⟩ := ownCells_of (o := o) (n := n) (off := off + 1) (row := r) (by simpa using h) fun i hi => by
        obtain ⟨p, a, b⟩ := hc (i + 1) (by omega)
        exact ⟨p, by rw [show off + 1 + i = off + (i + 1) from by omega]; simpa using a, b⟩
      simp only [Nat.add_zero, List.getD_cons_zero] at h1
      refine ⟨p ++ ps, by simp [HObj.cells, h1, h3], ?_⟩
      clear h1 h3 hc
      induction p with
      | nil => exact h4
      | cons q p ih => exact ⟨h2.1, ih h2.2⟩

theorem row_place {off j sz k i : Nat} (ho : off = j * sz + k) (hk : k + i < sz) : (off + i) / sz = j ∧ (off + i) % sz = k + i := by
  subst ho
  have h0 : 0 < sz := by omega
  rw [show j * sz + k + i = (k + i) + sz * j from by rw [Nat.mul_comm]; omega]
  exact ⟨by rw [Nat.add_mul_div_left _ _ h0, Nat.div_eq_of_lt hk]; omega, by rw [Nat.add_mul_mod_self_left, Nat.mod_eq_of_lt hk]⟩

theorem row_get {l : List (List AV)} {j k n sz : Nat} {c row : List AV} (hj : l[j]? = some c) (hc : c.length = sz) (hk : k + n ≤ sz) (hr : row = (c.drop k).take n) {i : Nat} (hi : i < n) : ((l[j]?).bind (·[k + i]?)) = some (row.getD i (.c undef)) := by
  rw [hj, Option.bind_some, hr, List.getD_eq_getElem?_getD, List.getElem?_take_of_lt hi, List.getElem?_drop, List.getElem?_eq_getElem (by omega)]; rfl

theorem ro_list {l : List (List AV)} {sz j k n off : Nat} {c row : List AV} (ho : off = j * sz + k) (hj : l[j]? = some c) (hc : c.length = sz) (hk : k + n ≤ sz) (hr : row = (c.drop k).take n) : Sp.roAt (.rr sz l) off n row := by
  refine roCells_of (by rw [hr]; simp; omega) fun i hi => ?_
  obtain ⟨h1, h2⟩ := row_place ho (show k + i < sz by omega)
  refine ⟨[], ?_, by simp [All]⟩
  simp only [roCell, h1, h2, row_get hj hc hk hr hi]; rfl

theorem own_list {t : Nat} {l : List (List AV)} {sz j k n off : Nat} {c row : List AV} (ho : off = j * sz + k) (hj : l[j]? = some c) (hc : c.length = sz) (hk : k + n ≤ sz) (hr : row = (c.drop k).take n) : Sp.ownAt (.oo t sz l) off n row := by
  refine ownCells_of (by rw [hr]; simp; omega) fun i hi => ?_
  obtain ⟨h1, h2⟩ := row_place ho (show k + i < sz by omega)
  refine ⟨[], ?_, by simp [All]⟩
  have hg := row_get hj hc hk hr hi
  match l, hj, hg with
  | [], hj, _ => simp at hj
  | [c'], hj, hg =>
    have : j = 0 := by
      rcases Nat.eq_zero_or_pos j with h | h
      · exact h
      · simp [List.getElem?_eq_none (show ([c'] : List (List AV)).length ≤ j by simp; omega)] at hj
    subst this
    simp only [List.getElem?_cons_zero, Option.some.injEq] at hj
    subst hj
    simp only [List.getElem?_cons_zero, Option.bind_some] at hg
    simp only [HObj.cell]
    rw [show off + i = k + i from by omega, hg]; rfl
  | a :: b :: r, hj, hg => simp only [HObj.cell, h1, h2, hg]; rfl

section
variable {α : Type} {a : α → List AV} {L : List α} {d : α} {sz j k n off : Nat} {row : List AV}
theorem map_get (hj : j < L.length) : (L.map a)[j]? = some (a (L.getD j d)) := by
  rw [List.getElem?_map, List.getD_eq_getElem?_getD, List.getElem?_eq_getElem hj]; rfl
theorem Sp.ro_row (d : α) (hj : j < L.length) (ho : off = j * sz + k) (ha : ∀ x, (a x).length = sz) (hk : k + n ≤ sz) (hr : row = ((a (L.getD j d)).drop k).take n) : Sp.roAt (.rr sz (L.map a)) off n row :=
  ro_list ho (map_get hj) (ha _) hk hr
theorem Sp.own_row {t : Nat} (d : α) (hj : j < L.length) (ho : off = j * sz + k) (ha : ∀ x, (a x).length = sz) (hk : k + n ≤ sz) (hr : row = ((a (L.getD j d)).drop k).take n) : Sp.ownAt (.oo t sz (L.map a)) off n row :=
  own_list ho (map_get hj) (ha _) hk hr
end

theorem all_append {p q : List Prop} (h : All p) (h2 : All q) : All (p ++ q) := by
  induction p with
  | nil => exact h2
  | cons x p ih => exact ⟨h.1, ih h.2⟩
theorem set_one {t : Nat} {l : List (List AV)} {sz j k off : Nat} {c : List AV} (x : AV) (ho : off = j * sz + k) (hj : l[j]? = some c) (hc : c.length = sz) (hk : k < sz) : ∃ p, (HObj.oo t sz l).setCell off x = some (.oo t sz (l.set j (c.set k x)), p) ∧ All p := by
  obtain ⟨h1, h2⟩ := row_place (i := 0) ho (show k + 0 < sz by omega)
  simp only [Nat.add_zero] at h1 h2
  have hjl : j < l.length := by
    rcases Nat.lt_or_ge j l.length with h | h
    · exact h
    · rw [List.getElem?_eq_none h] at hj; cases hj
  match l, hj, hjl with
  | [], hj, _ => simp at hj
  | [c'], hj, hjl =>
    have : j = 0 := by simpa using hjl
    subst this
    simp only [List.getElem?_cons_zero, Option.some.injEq] at hj
    subst hj
    have ek : off = k := by omega
    subst ek
    exact ⟨[off < c'.length], by simp [HObj.setCell], by simp only [All, and_true]; omega⟩
  | a :: b :: r, hj, hjl =>
    refine ⟨[off / sz < (a :: b :: r).length, off % sz < sz], ?_, ?_⟩
    · simp only [HObj.setCell, h1, h2]
      congr 3
      apply List.ext_getElem?; intro i
      rw [List.getElem?_modify, List.getElem?_set]
      by_cases h : j = i
      · subst h; rw [if_pos rfl, if_pos hjl, hj]; simp
      · simp [h]
    · simp only [All, h1, h2]; exact ⟨hjl, by omega, trivial⟩
theorem set_list {t : Nat} {sz j : Nat} : ∀ {xs : List AV} {k off : Nat} {l : List (List AV)} {c : List AV}, off = j * sz + k → l[j]? = some c → c.length = sz → k + xs.length ≤ sz → Sp.setAt (.oo t sz l) off xs (.oo t sz (l.set j (c.take k ++ xs ++ c.drop (k + xs.length))))
  | [], k, off, l, c, ho, hj, hc, hk => by
    refine ⟨[], ?_, by simp [All]⟩
    have : l.set j c = l := by
      apply List.ext_getElem?; intro i
      rw [List.getElem?_set]
      split
      · rename_i h; subst h; rw [hj]; split <;> simp_all
      · rfl
    simp [HObj.setCells, this]
  | x :: xs, k, off, l, c, ho, hj, hc, hk => by
    simp only [List.length_cons] at hk
    obtain ⟨p, e1, e2⟩ := set_one (t := t) x ho hj hc (by omega)
    have hjl : j < l.length := by
      rcases Nat.lt_or_ge j l.length with h | h
      · exact h
      · rw [List.getElem?_eq_none h] at hj; cases hj
    obtain ⟨ps, e3, e4⟩ := set_list (t := t) (xs := xs) (k := k + 1) (off := off + 1) (l := l.set j (c.set k x)) (c := c.set k x) (by rw [ho]; rfl) (by rw [List.getElem?_set_self hjl]) (by simpa using hc) (by omega)
    refine ⟨p ++ ps, ?_, all_append e2 e4⟩
    simp only [HObj.setCells, Option.bind_eq_bind, e1]
    rw [Option.bind_some, e3, Option.bind_some]
    congr 3
    rw [List.set_set, List.length_cons, show k + 1 + xs.length = k + (xs.length + 1) from by omega]
    congr 1
    rw [List.drop_set_of_lt (by omega), List.take_set]
    have : (c.take (k + 1)).set k x = c.take k ++ [x] := by
      rw [List.take_succ_eq_append_getElem (by omega), List.set_append_right _ _ (by simp; omega)]
      simp [show min k c.length = k by omega]
    rw [this]; simp
theorem Sp.set_row {α : Type} {a : α → List AV} {L : List α} {t sz j k off : Nat} {xs : List AV} (d x' : α) (hj : j < L.length) (ho : off = j * sz + k) (ha : ∀ x, (a x).length = sz) (hk : k + xs.length ≤ sz) (hx : a x' = (a (L.getD j d)).take k ++ xs ++ (a (L.getD j d)).drop (k + xs.length)) : Sp.setAt (.oo t sz (L.map a)) off xs (.oo t sz ((L.set j x').map a)) := by
  have h := set_list (t := t) ho (map_get (a := a) (d := d) hj) (ha _) hk
  rw [← hx] at h
  rwa [List.map_set]
theorem take_stepG {α : Type} [Inhabited α] {x y : List α} {j : Nat} (hj : j < x.length) (hl : (x.length : Int) = y.length) (h : x.take j = y.take j) (h3 : x.getD j default = y.getD j default) : x.take (j + 1) = y.take (j + 1) := by
  have hy : j < y.length := by omega
  rw [take_succ_getD (d := default) hj, take_succ_getD (d := default) hy, h, h3]
theorem same_endG {α : Type} [DecidableEq α] {x y : List α} {j : Nat} (hj : j ≤ x.length) (h2 : x.length ≤ j) (hl : (x.length : Int) = y.length) (h : x.take j = y.take j) : decide (x = y) = true := by
  obtain rfl : j = x.length := by omega
  rw [List.take_length, show x.length = y.length from by omega, List.take_length] at h
  simpa using h
theorem same_neG {α : Type} [DecidableEq α] [Inhabited α] {x y : List α} {j : Nat} (h3 : ¬ x.getD j default = y.getD j default) : decide (x = y) = false := by
  rw [decide_eq_false_iff_not]; rintro rfl; exact h3 rfl
theorem same_lenG {α : Type} [DecidableEq α] {x y : List α} (hl : ¬ (x.length : Int) = y.length) : decide (x = y) = false := by
  rw [decide_eq_false_iff_not]; rintro rfl; exact hl rfl
theorem same_neG' {α : Type} [DecidableEq α] [Inhabited α] {x y : List α} {j : Nat} (h3 : ¬ (x[j]?).getD default = (y[j]?).getD default) : decide (x = y) = false := by
  rw [decide_eq_false_iff_not]; rintro rfl; exact h3 rfl
theorem renLL_append {g : Nat → Nat} {l r : List (List AV)} : renLL g (l ++ r) = renLL g l ++ renLL g r := by
  induction l with
  | nil => rfl
  | cons c l ih => simp only [List.cons_append, renLL, ih]
theorem renLL_map {α : Type} (a : α → List AV) {g : Nat → Nat} {L : List α} (h : ∀ x, renL g (a x) = a x) : renLL g (L.map a) = L.map a := by
  induction L with
  | nil => rfl
  | cons c l ih => simp only [List.map_cons, renLL, ih, h]
theorem rows_of {α : Type} (a : α → List AV) (Q : α → Prop) {ss : List CS} {l : List (List AV)} (h : ∀ c ∈ l, Fits ss c) (hf : ∀ c, Fits ss c → ∃ x, c = a x ∧ Q x) : ∃ L : List α, l = L.map a ∧ ∀ x ∈ L, Q x := by
  induction l with
  | nil => exact ⟨[], rfl, by simp⟩
  | cons c l ih =>
    obtain ⟨L, h1, h2⟩ := ih fun c hc => h c (by simp [hc])
    obtain ⟨x, h3, h4⟩ := hf c (h c (by simp))
    exact ⟨x :: L, by simp [h1, h3], fun y hy => by
      rcases List.mem_cons.1 hy with rfl | hy
      · exact h4
      · exact h2 y hy⟩
end Go.Ev
