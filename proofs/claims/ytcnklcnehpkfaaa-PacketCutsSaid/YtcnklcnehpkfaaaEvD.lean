/-
  The executor is right, operation by operation.
-/
import Derived.Test.YtcnklcnehpkfaaaEvC
namespace Go.Ev
open Go Go.RowKit
set_option linter.unusedVariables false
set_option linter.unusedSimpArgs false

/-- What the executor is told of the types is so. -/
def EnvOK (P : Program) (E : Env) : Prop := ∀ t ti, E t = some ti →
  (∃ d, P.underlying t = some d ∧ view d = ti.v) ∧ (∃ i z, P.info? t = some i ∧ i.size = ti.size ∧ i.bytes = ti.bytes ∧ i.zero = some z ∧ z.cells.toList = ti.zero) ∧
  ti.zero.length = ti.size ∧ (∀ v ∈ ti.zero, v.oneCell' = true) ∧ (∀ fs, ti.v = .struct fs → P.eqGuardType P.depth t = false ∧ P.stoodInHeld t = false)

theorem All_iff {l : List Prop} : All l ↔ ∀ p ∈ l, p := by
  induction l with
  | nil => simp [All]
  | cons p l ih => rw [All, ih]; exact ⟨fun h q hq => (List.mem_cons.1 hq).elim (fun e => e ▸ h.1) (h.2 q), fun h => ⟨h p (by simp), fun q hq => h q (by simp [hq])⟩⟩
theorem All_append {l r : List Prop} : All (l ++ r) ↔ All l ∧ All r := by
  simp only [All_iff, List.mem_append]
  exact ⟨fun h => ⟨fun p hp => h p (.inl hp), fun p hp => h p (.inr hp)⟩, fun h p hp => hp.elim (h.1 p) (h.2 p)⟩

section
variable {F : Nat → Prop} {w : World} {ρ : Ren}

theorem AR.one : ∀ {x : AV} {v : Value}, AR F w ρ x v → x.one = true → v.oneCell' = true
  | .c _, _, h, h1 => by simp only [AR] at h; subst h; exact h1
  | .p _ _, _, h, _ => by simp only [AR] at h; obtain ⟨_, _, _, rfl⟩ := h; rfl
  | .gp _ _, _, h, _ => by simp only [AR] at h; subst h; rfl
  | .s _ _ _ _, _, h, _ => by simp only [AR] at h; obtain ⟨_, _, rfl⟩ := h; rfl
  | .x _ _ _ _, _, h, _ => by simp only [AR] at h; obtain ⟨_, _, rfl⟩ := h; rfl
  | .q _ _, _, h, _ => by simp only [AR] at h; obtain ⟨_, _, _, _, rfl⟩ := h; rfl
  | .ri _ _, _, h, _ => by simp only [AR] at h; obtain ⟨_, _, rfl, _⟩ := h; rfl
  | .rr _ _, _, h, _ => by simp only [AR] at h; obtain ⟨_, _, rfl, _⟩ := h; rfl
  | .f _ _, _, h, _ => by simp only [AR] at h; obtain ⟨_, rfl, _⟩ := h; rfl
  | .i _ _, _, h, _ => by simp only [AR] at h; obtain ⟨_, rfl, _⟩ := h; rfl
  | .a _, _, _, h1 => by simp [AV.one] at h1
  | .t _, _, _, h1 => by simp [AV.one] at h1
  | .g _ _, _, _, h1 => by simp [AV.one] at h1

theorem AR.cells {x : AV} {v : Value} (h : AR F w ρ x v) (h1 : (cellsOf x).all AV.one = true) : ARL F w ρ (cellsOf x) v.cells.toList := by
  have hone : ∀ (y : AV), cellsOf y = [y] → AR F w ρ y v → (cellsOf y).all AV.one = true → ARL F w ρ (cellsOf y) v.cells.toList := by
    intro y e hy hh
    rw [e] at hh ⊢
    simp only [List.all_cons, List.all_nil, Bool.and_true] at hh
    have := hy.one hh
    have hv : v.cells = #[v] := by cases v <;> first | rfl | simp [Value.oneCell'] at this
    rw [hv]
    simp only [ARL]
    exact ⟨v, [], rfl, hy, rfl⟩
  cases x with
  | a l =>
    simp only [AR] at h; obtain ⟨vs, rfl, h2⟩ := h
    exact h2
  | _ => exact hone _ rfl h h1

theorem ARL.one : ∀ {l : List AV} {vs : List Value}, ARL F w ρ l vs → l.all AV.one = true → ∀ u ∈ vs, u.oneCell' = true
  | [], vs, h, _, u, hu => by simp only [ARL] at h; subst h; cases hu
  | x :: l, vs, h, h1, u, hu => by
    simp only [ARL] at h; obtain ⟨v, r, rfl, h2, h3⟩ := h
    simp only [List.all_cons, Bool.and_eq_true] at h1
    rcases List.mem_cons.1 hu with rfl | hu
    · exact h2.one h1.1
    · exact h3.one h1.2 u hu

theorem ARL.consts {l : List Value} : ARL F w ρ (l.map .c) l := by
  induction l with
  | nil => simp [ARL]
  | cons v l ih => simp only [List.map_cons, ARL]; exact ⟨v, l, rfl, by simp [AR], ih⟩

/-- A live block's place. -/
theorem HR.oi_at {n : Nat} {e : TypeId} {k : IntKind} {l : List Int} {b sl : Nat} (h : HR F w ρ n (.oi e k l)) (hn : ρ n = some ⟨some b, sl⟩) :
    w.ownsRow 0 e 1 (.slice (some ⟨b, 0, none⟩) l.length (l.length + sl)) l.length (l.map (Value.int k)) := by
  obtain ⟨lo, h1, h2⟩ := h
  rw [hn] at h1
  obtain rfl := Option.some.inj h1
  exact h2

theorem HR.oo_at {n : Nat} {e : TypeId} {sz : Nat} {l : List (List AV)} {b sl : Nat} (h : HR F w ρ n (.oo e sz l)) (hn : ρ n = some ⟨some b, sl⟩) :
    ∃ xs, w.ownsRow 0 e sz (.slice (some ⟨b, 0, none⟩) l.length (l.length + sl)) l.length xs ∧ ARL F w ρ l.flatten xs ∧ ∀ c ∈ l, c.length = sz ∧ ∀ x ∈ c, x.one = true := by
  obtain ⟨lo, xs, h1, h2, h3, h4⟩ := h
  rw [hn] at h1
  obtain rfl := Option.some.inj h1
  exact ⟨xs, h2, h3, h4⟩

theorem flatten_at {sz : Nat} : ∀ {l : List (List AV)}, (∀ c ∈ l, c.length = sz) → ∀ {i j : Nat} {c : List AV} {x : AV}, l[i]? = some c → c[j]? = some x → l.flatten[i * sz + j]? = some x
  | [], _, i, j, c, x, hi, _ => by simp at hi
  | d :: l, h, i, j, c, x, hi, hj => by
    have hd := h d (by simp)
    cases i with
    | zero =>
      simp at hi; subst hi
      have hlt : j < d.length := (List.getElem?_eq_some_iff.1 hj).1
      simp only [Nat.zero_mul, Nat.zero_add, List.flatten_cons]
      rw [List.getElem?_append_left hlt]; exact hj
    | succ i =>
      simp only [List.getElem?_cons_succ] at hi
      have := flatten_at (fun c hc => h c (by simp [hc])) hi hj
      simp only [List.flatten_cons]
      rw [List.getElem?_append_right (by rw [hd, Nat.add_mul]; omega), hd]
      rw [show (i + 1) * sz + j - sz = i * sz + j from by rw [Nat.add_mul]; omega]
      exact this

theorem flatten_length {sz : Nat} : ∀ {l : List (List AV)}, (∀ c ∈ l, c.length = sz) → l.flatten.length = l.length * sz
  | [], _ => by simp
  | d :: l, h => by
    have hd := h d (by simp)
    have ih := flatten_length (l := l) (fun c hc => h c (List.mem_cons_of_mem _ hc))
    simp only [List.flatten_cons, List.length_append, List.length_cons, hd, ih, Nat.add_mul]
    omega

theorem HObj.cell_sound {n : Nat} {o : HObj} {b sl off : Nat} {x : AV} {ps : List Prop} (h : HR F w ρ n o) (hn : ρ n = some ⟨some b, sl⟩) (hc : o.cell off = some (x, ps)) (hp : All ps) :
    x.one = true ∧ ∃ v, w.cell? ⟨b, off, none⟩ = some v ∧ AR F w ρ x v := by
  have rec' : ∀ {e : TypeId} {sz : Nat} {l : List (List AV)}, o = .oo e sz l → ∀ {i j : Nat} {c : List AV}, off = i * sz + j → l[i]? = some c → c[j]? = some x → x.one = true ∧ ∃ v, w.cell? ⟨b, off, none⟩ = some v ∧ AR F w ρ x v := by
    intro e sz l ho i j c hoff hi hj
    subst ho
    obtain ⟨xs, h2, h3, h4⟩ := h.oo_at hn
    have hx := flatten_at (fun c hc => (h4 c hc).1) hi hj
    obtain ⟨v, hv, hr⟩ := h3.get _ _ hx
    have hlt : i * sz + j < l.length * sz := by
      rw [← flatten_length fun c hc => (h4 c hc).1]; exact (List.getElem?_eq_some_iff.1 hx).1
    exact ⟨(h4 c (List.mem_of_getElem? hi)).2 x (List.mem_of_getElem? hj), v, by rw [hoff, h2.cellAt _ hlt, hv], hr⟩
  cases o with
  | dead => simp [HObj.cell] at hc
  | oi e k l =>
    simp only [HObj.cell, Option.some.injEq, Prod.mk.injEq] at hc
    obtain ⟨rfl, rfl⟩ := hc
    have hlt : off < l.length := hp.1
    refine ⟨rfl, .int k (l.getD off 0), ?_, by simp [AR]⟩
    rw [(h.oi_at hn).cellAt off (by omega)]
    simp [List.getD, List.getElem?_eq_getElem hlt]
  | oo e sz l =>
    match l, hc with
    | [c], hc =>
      simp only [HObj.cell, Option.map_eq_some_iff, Prod.mk.injEq] at hc
      obtain ⟨y, hy, rfl, rfl⟩ := hc
      exact rec' rfl (i := 0) (j := off) (c := c) (by omega) (by simp) hy
    | [], hc => simp [HObj.cell] at hc
    | c1 :: c2 :: r, hc =>
      simp only [HObj.cell, Option.map_eq_some_iff, Option.bind_eq_some_iff, Prod.mk.injEq] at hc
      obtain ⟨y, ⟨c, hi, hj⟩, rfl, rfl⟩ := hc
      exact rec' rfl (i := off / sz) (j := off % sz) (c := c) (by rw [Nat.mul_comm]; exact (Nat.div_add_mod off sz).symm) hi hj

theorem HObj.cells_sound {n : Nat} {o : HObj} {b sl : Nat} (h : HR F w ρ n o) (hn : ρ n = some ⟨some b, sl⟩) : ∀ {m off : Nat} {l : List AV} {ps : List Prop}, o.cells off m = some (l, ps) → All ps →
    l.length = m ∧ l.all AV.one = true ∧ ∃ vs, ARL F w ρ l vs ∧ ∀ j u, vs[j]? = some u → w.cell? ⟨b, off + j, none⟩ = some u
  | 0, off, l, ps, hc, _ => by
    simp only [HObj.cells, Option.some.injEq, Prod.mk.injEq] at hc
    obtain ⟨rfl, rfl⟩ := hc
    exact ⟨rfl, rfl, [], by simp [ARL], by simp⟩
  | m + 1, off, l, ps, hc, hp => by
    simp only [HObj.cells, Option.bind_eq_bind, Option.bind_eq_some_iff, Option.some.injEq, Prod.mk.injEq, Prod.exists] at hc
    obtain ⟨x, p, hx, r, qs, hr, rfl, rfl⟩ := hc
    rw [All_append] at hp
    obtain ⟨h1, v, hv, hav⟩ := HObj.cell_sound h hn hx hp.1
    obtain ⟨h2, h3, vs, h4, h5⟩ := HObj.cells_sound h hn hr hp.2
    refine ⟨by simp [h2], by simp [h1, h3], v :: vs, by simp only [ARL]; exact ⟨v, vs, rfl, hav, h4⟩, fun j u hu => ?_⟩
    cases j with
    | zero => simp at hu; subst hu; exact hv
    | succ j => simp at hu; have := h5 j u hu; rwa [show off + 1 + j = off + (j + 1) from by omega] at this

theorem roCell_sound {x y : AV} {ps : List Prop} {ad : Addr} {len cap off : Nat} (h : AR F w ρ x (.slice (some ad) len cap)) (hc : roCell x off = some (y, ps)) (hp : All ps) :
    y.one = true ∧ ∃ v, w.cell? (ad.add off) = some v ∧ AR F w ρ y v := by
  cases x with
  | ri k l =>
    simp only [roCell, Option.some.injEq, Prod.mk.injEq] at hc
    obtain ⟨rfl, rfl⟩ := hc
    have hlt : off < l.length := hp.1
    simp only [AR] at h
    obtain ⟨ao, cap', e, _, _, _, h4⟩ := h
    simp only [Value.slice.injEq] at e
    obtain ⟨rfl, _, _⟩ := e
    obtain ⟨ad', e1, _, e3⟩ := h4 off _ (List.getElem?_eq_getElem hlt)
    obtain rfl := Option.some.inj e1
    exact ⟨rfl, _, e3, by simp [AR, List.getD, List.getElem?_eq_getElem hlt]⟩
  | rr sz l =>
    simp only [roCell, Option.map_eq_some_iff, Option.bind_eq_some_iff, Prod.mk.injEq] at hc
    obtain ⟨z, ⟨c, hi, hj⟩, rfl, rfl⟩ := hc
    simp only [AR] at h
    obtain ⟨ao, cap', e, _, _, _, h4⟩ := h
    simp only [Value.slice.injEq] at e
    obtain ⟨rfl, _, _⟩ := e
    obtain ⟨ad', e1, eF, _, e4⟩ := h4.get _ _ hi
    obtain rfl := Option.some.inj e1
    have := (ARC.mono (F := F) (w := w) (w' := w) (ρ' := ρ) (fun b hb => ⟨hb, rfl⟩) (fun _ _ h => by cases h) (by assumption) _ _ e4).get _ _ hj
    rw [show (0 + off / sz) * sz + off % sz = off from by rw [Nat.zero_add, Nat.mul_comm]; exact Nat.div_add_mod off sz] at this
    exact this
  | _ => simp [roCell] at hc

theorem Addr.add_add (a : Addr) (i j : Nat) : (a.add i).add j = a.add (i + j) := by
  unfold Addr.add
  by_cases hi : i = 0
  · subst hi; simp
  · by_cases hj : j = 0
    · subst hj; simp [hi]
    · simp [hi, hj, Nat.add_assoc]

theorem roCells_sound {x : AV} {ad : Addr} {len cap : Nat} (h : AR F w ρ x (.slice (some ad) len cap)) : ∀ {m off : Nat} {l : List AV} {ps : List Prop}, roCells x off m = some (l, ps) → All ps →
    l.length = m ∧ l.all AV.one = true ∧ ∃ vs, ARL F w ρ l vs ∧ ∀ j u, vs[j]? = some u → w.cell? (ad.add (off + j)) = some u
  | 0, off, l, ps, hc, _ => by
    simp only [roCells, Option.some.injEq, Prod.mk.injEq] at hc
    obtain ⟨rfl, rfl⟩ := hc
    exact ⟨rfl, rfl, [], by simp [ARL], by simp⟩
  | m + 1, off, l, ps, hc, hp => by
    simp only [roCells, Option.bind_eq_bind, Option.bind_eq_some_iff, Option.some.injEq, Prod.mk.injEq, Prod.exists] at hc
    obtain ⟨y, p, hx, r, qs, hr, rfl, rfl⟩ := hc
    rw [All_append] at hp
    obtain ⟨h1, v, hv, hav⟩ := roCell_sound h hx hp.1
    obtain ⟨h2, h3, vs, h4, h5⟩ := roCells_sound h hr hp.2
    refine ⟨by simp [h2], by simp [h1, h3], v :: vs, by simp only [ARL]; exact ⟨v, vs, rfl, hav, h4⟩, fun j u hu => ?_⟩
    cases j with
    | zero => simp at hu; subst hu; exact hv
    | succ j => simp at hu; have := h5 j u hu; rwa [show off + 1 + j = off + (j + 1) from by omega] at this
end

section
variable {P : Program} {L : Lay} {E : Env} {X : Nat → Prop} {w0 : World} {F : Nat → Prop} {w : World} {ρ : Ren} {h look : Nat → HObj}

/-- The cells at an address: they lie there. (One cell or more; the address's own place is plain where there is a cell.) -/
theorem cellsAt_sound (M : Mem L X w0 F w ρ h) (hlook : ∀ n, (look n).live → look n = h n) {ad : AV} {v : Value} {m : Nat} {l : List AV} {ps : List Prop} (had : AR F w ρ ad v) (hc : cellsAt L look ad m = some (l, ps)) (hp : All ps) :
    l.length = m ∧ l.all AV.one = true ∧ ∃ A vs, v = .pointer (some A) ∧ ARL F w ρ l vs ∧ ∀ j u, vs[j]? = some u → w.cell? (A.add j) = some u := by
  cases ad with
  | p n off =>
    simp only [AR] at had
    obtain ⟨b, sl, hn, rfl⟩ := had
    simp only [cellsAt] at hc
    have hh : HR F w ρ n (look n) := by
      by_cases hl : (look n).live
      · rw [hlook n hl]; exact M.heap n
      · cases hx : look n with
        | dead => trivial
        | oi _ _ _ => rw [hx] at hl; exact (hl trivial).elim
        | oo _ _ _ => rw [hx] at hl; exact (hl trivial).elim
    obtain ⟨h1, h2, vs, h3, h4⟩ := HObj.cells_sound hh hn hc hp
    exact ⟨h1, h2, ⟨b, off, none⟩, vs, rfl, h3, fun j u hu => by rw [Addr.add_lit]; exact h4 j u hu⟩
  | gp g off =>
    simp only [AR] at had
    subst had
    simp only [cellsAt] at hc
    split at hc
    · rename_i g' k r hfind
      simp only [Option.some.injEq, Prod.mk.injEq] at hc
      obtain ⟨rfl, rfl⟩ := hc
      have hlt : off < r.length := hp.1
      have hmem := List.mem_of_find?_eq_some hfind
      have hg : g' = g := by simpa using List.find?_some hfind
      subst hg
      refine ⟨rfl, rfl, ⟨g', off, none⟩, [.int k (r.getD off 0)], rfl, by simp [ARL, AR], fun j u hu => ?_⟩
      cases j with
      | zero =>
        simp at hu; subst hu
        rw [Addr.add_zero']
        exact (M.lay g' k r hmem).2 off _ (by simp [List.getElem?_eq_getElem hlt])
      | succ j => simp at hu
    · cases hc
  | q x off =>
    simp only [AR] at had
    obtain ⟨ad, len, cap, hx, rfl⟩ := had
    simp only [cellsAt] at hc
    obtain ⟨h1, h2, vs, h3, h4⟩ := roCells_sound hx hc hp
    refine ⟨h1, h2, ad.add off, vs, rfl, h3, fun j u hu => ?_⟩
    rw [Addr.add_add]; exact h4 j u hu
  | _ => simp [cellsAt] at hc
end
end Go.Ev
