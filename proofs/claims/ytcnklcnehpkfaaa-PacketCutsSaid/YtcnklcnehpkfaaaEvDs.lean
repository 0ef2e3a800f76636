/-
  The executor is right: a region that draws its order. The order of the text is as good as any.
-/
import Derived.Test.YtcnklcnehpkfaaaEvDr
namespace Go.Ev
open Go Go.RowKit
set_option linter.unusedVariables false
set_option linter.unusedSimpArgs false

/-- A state with what a step made of it. -/
theorem put_facts {N : Nat} {st st' : St} {o : Oper} {out : Out} (h : put N st o out = some st') :
    st'.h.length = st.h.length + out.news.length ∧ (∀ d, look1 st'.t d = if o.dst = some d then some out.v else look1 st.t d) ∧
    (∀ n, st'.h.getD n .dead = eff (fun n => st.h.getD n .dead) st.h.length out.ws out.news n) ∧ (∀ d, o.dst = some d → d < N) := by
  unfold put at h
  have hws : ∀ p ∈ out.ws, p.1 < st.h.length := by
    split at h
    · rename_i hall
      intro p hp
      simpa using List.all_eq_true.1 hall p hp
    · cases h
  have hget : ∀ n, (setAll out.ws (st.h ++ out.news)).getD n .dead = eff (fun n => st.h.getD n .dead) st.h.length out.ws out.news n := fun n => by
    rw [setAll_get _ _ _ fun p hp => by rw [List.length_append]; have := hws p hp; omega]
    simp only [eff]
    cases look2 out.ws n with
    | some o => rfl
    | none =>
      simp only
      by_cases h1 : n < st.h.length
      · rw [if_neg (by omega)]; simp [List.getD, List.getElem?_append_left h1]
      · by_cases h2 : n < st.h.length + out.news.length
        · rw [if_pos (by omega)]; simp [List.getD, List.getElem?_append_right (Nat.le_of_not_lt h1)]
        · rw [if_neg (by omega)]
          simp only [List.getD]
          rw [List.getElem?_eq_none (by rw [List.length_append]; omega), List.getElem?_eq_none (by omega)]
  rw [if_pos (by rw [List.all_eq_true]; intro p hp; exact decide_eq_true (hws p hp))] at h
  cases hd : o.dst with
  | none =>
    rw [hd] at h
    simp only [Option.some.injEq] at h
    subst h
    exact ⟨by rw [setAll_length, List.length_append], fun d => by simp, hget, fun d h => by cases h⟩
  | some d =>
    rw [hd] at h
    simp only at h
    split at h
    · rename_i hlt
      simp only [Option.some.injEq] at h
      subst h
      refine ⟨by rw [setAll_length, List.length_append], fun d' => ?_, hget, fun d' h => by cases h; exact hlt⟩
      simp only [look1, Option.some.injEq]
    · cases h

/-- What the order of the text makes, operation by operation. -/
structure Tr (P : Program) (L : Lay) (E : Env) (C : Tab) (N : Nat) (ops : Array Oper) (T : Nat → St) (O : Nat → Out) (sg : List Sig) (i : Nat) (o : Oper) : Prop where
  step : evStep P L E C (fun n => (T i).h.getD n .dead) (T i).h.length (T i).t ops o = some (O i)
  len : (T (i + 1)).h.length = (T i).h.length + (O i).news.length
  slot : ∀ d, look1 (T (i + 1)).t d = if o.dst = some d then some (O i).v else look1 (T i).t d
  heap : ∀ n, (T (i + 1)).h.getD n .dead = eff (fun n => (T i).h.getD n .dead) (T i).h.length (O i).ws (O i).news n
  sig : sg[i]? = some (sigOf (T i).t (fun n => (T i).h.getD n .dead) (T i).h.length o (O i))
  all : All (O i).os
  dst : ∀ d, o.dst = some d → d < N

theorem evOps_trace {P : Program} {L : Lay} {E : Env} {C : Tab} {N : Nat} {ops : Array Oper} : ∀ {l : List Oper} {st st' : St} {ps : List Prop} {sg : List Sig}, evOps P L E C N ops l st = some (st', ps, sg) → All ps →
    ∃ (T : Nat → St) (O : Nat → Out), T 0 = st ∧ T l.length = st' ∧ ∀ i o, l[i]? = some o → Tr P L E C N ops T O sg i o
  | [], st, st', ps, sg, h, _ => by
    simp only [evOps, Option.some.injEq, Prod.mk.injEq] at h
    obtain ⟨rfl, _⟩ := h
    exact ⟨fun _ => st, fun _ => ⟨.c undef, [], [], []⟩, rfl, rfl, fun i o hi => by simp at hi⟩
  | o :: l, st, st', ps, sg, h, hp => by
    simp only [evOps, Option.bind_eq_bind, Option.bind_eq_some_iff, Option.some.injEq, Prod.mk.injEq, Prod.exists] at h
    obtain ⟨out, hout, st1, hput, st2, qs, sg', hr, rfl, rfl, rfl⟩ := h
    rw [All_append] at hp
    obtain ⟨T, O, h0, h1, h2⟩ := evOps_trace hr hp.2
    obtain ⟨f1, f2, f3, f4⟩ := put_facts hput
    refine ⟨fun i => match i with | 0 => st | i + 1 => T i, fun i => match i with | 0 => out | i + 1 => O i, rfl, h1, fun i o' hi => ?_⟩
    cases i with
    | zero =>
      simp only [List.getElem?_cons_zero, Option.some.injEq] at hi
      subst hi
      exact ⟨hout, by simp only [h0]; exact f1, by simp only [h0]; exact f2, by simp only [h0]; exact f3, rfl, hp.1, f4⟩
    | succ i =>
      simp only [List.getElem?_cons_succ] at hi
      have := h2 i o' hi
      exact ⟨this.step, this.len, this.slot, this.heap, by simpa using this.sig, this.all, this.dst⟩

section sets
variable (ops : Array Oper) (T : Nat → St) (O : Nat → Out)

def dstAt (i : Nat) : Option Tmp := (ops[i]?).bind (·.dst)

/-- What the slots hold when the operations of a set are done. -/
def slotAt (S : Nat → Bool) : Nat → Nat → Option AV
  | 0, d => look1 (T 0).t d
  | i + 1, d => if S i = true ∧ dstAt ops i = some d then some (O i).v else slotAt S i d

def heapAt (S : Nat → Bool) : Nat → Nat → HObj
  | 0, n => (T 0).h.getD n .dead
  | i + 1, n => if S i = true then eff (heapAt S i) (T i).h.length (O i).ws (O i).news n else heapAt S i n

def wrAt (i : Nat) : List Nat := (O i).ws.map (·.1) ++ List.range' (T i).h.length (O i).news.length

variable {ops T O}

theorem look2_out {α : Type} : ∀ {l : List (Nat × α)} {n : Nat}, n ∉ l.map (·.1) → look2 l n = none
  | [], _, _ => rfl
  | (m, x) :: l, n, h => by
    simp only [List.map_cons, List.mem_cons, not_or] at h
    simp only [look2]
    rw [if_neg fun e => h.1 e.symm]; exact look2_out h.2
theorem look2_in {α : Type} : ∀ {l : List (Nat × α)} {n : Nat}, n ∈ l.map (·.1) → ∃ x, look2 l n = some x
  | [], _, h => by simp at h
  | (m, x) :: l, n, h => by
    simp only [look2]
    by_cases e : m = n
    · exact ⟨x, by rw [if_pos e]⟩
    · rw [if_neg e]
      simp only [List.map_cons, List.mem_cons] at h
      exact look2_in (h.resolve_left fun e' => e e'.symm)

theorem eff_out {h : Nat → HObj} {i n : Nat} (hn : n ∉ wrAt T O i) : eff h (T i).h.length (O i).ws (O i).news n = h n := by
  simp only [wrAt, List.mem_append, not_or, List.mem_range'_1, not_and] at hn
  simp only [eff, look2_out hn.1]
  rw [if_neg fun e => absurd e.2 (by have := hn.2 e.1; omega)]
theorem eff_in {h h' : Nat → HObj} {i n : Nat} (hn : n ∈ wrAt T O i) : eff h (T i).h.length (O i).ws (O i).news n = eff h' (T i).h.length (O i).ws (O i).news n := by
  simp only [wrAt, List.mem_append, List.mem_range'_1] at hn
  simp only [eff]
  cases hl : look2 (O i).ws n with
  | some o => rfl
  | none =>
    rcases hn with hn | hn
    · obtain ⟨x, hx⟩ := look2_in hn; rw [hl] at hx; cases hx
    · simp only; rw [if_pos (by omega), if_pos (by omega)]

theorem slotAt_skip {S : Nat → Bool} {d i : Nat} : ∀ {m : Nat}, i ≤ m → (∀ j, i ≤ j → j < m → S j = true → dstAt ops j ≠ some d) → slotAt ops T O S m d = slotAt ops T O S i d
  | m, him, h => by
    induction m with
    | zero => obtain rfl : i = 0 := by omega
              rfl
    | succ m ih =>
      rcases Nat.lt_or_ge m i with h1 | h1
      · obtain rfl : i = m + 1 := by omega
        rfl
      · simp only [slotAt]
        rw [if_neg fun e => h m h1 (by omega) e.1 e.2]
        exact ih h1 fun j h2 h3 => h j h2 (by omega)

theorem heapAt_skip {S : Nat → Bool} {n i : Nat} : ∀ {m : Nat}, i ≤ m → (∀ j, i ≤ j → j < m → S j = true → n ∉ wrAt T O j) → heapAt T O S m n = heapAt T O S i n
  | m, him, h => by
    induction m with
    | zero => obtain rfl : i = 0 := by omega
              rfl
    | succ m ih =>
      rcases Nat.lt_or_ge m i with h1 | h1
      · obtain rfl : i = m + 1 := by omega
        rfl
      · simp only [heapAt]
        have := ih h1 fun j h2 h3 => h j h2 (by omega)
        split
        · rename_i hs
          rw [eff_out (h m h1 (by omega) hs)]; exact this
        · exact this

variable {P : Program} {L : Lay} {E : Env} {C : Tab} {N : Nat} {sg : List Sig}

theorem slotAt_agree (tr : ∀ i o, ops[i]? = some o → Tr P L E C N ops T O sg i o) {S : Nat → Bool} {d : Nat} : ∀ {i : Nat}, i ≤ ops.size → (∀ j, j < i → dstAt ops j = some d → S j = true) → slotAt ops T O S i d = look1 (T i).t d
  | 0, _, _ => rfl
  | i + 1, hi, h => by
    obtain ⟨o, ho⟩ : ∃ o, ops[i]? = some o := ⟨ops[i], Array.getElem?_eq_getElem (by omega)⟩
    have ih := slotAt_agree tr (i := i) (by omega) fun j hj => h j (by omega)
    rw [(tr i o ho).slot]
    have hd : dstAt ops i = o.dst := by simp [dstAt, ho]
    simp only [slotAt, hd]
    by_cases e : o.dst = some d
    · rw [if_pos e, if_pos ⟨h i (by omega) (by rw [hd, e]), e⟩]
    · rw [if_neg e, if_neg fun e' => e e'.2]; exact ih

theorem heapAt_agree (tr : ∀ i o, ops[i]? = some o → Tr P L E C N ops T O sg i o) {S : Nat → Bool} {n : Nat} : ∀ {i : Nat}, i ≤ ops.size → (∀ j, j < i → n ∈ wrAt T O j → S j = true) → heapAt T O S i n = (T i).h.getD n .dead
  | 0, _, _ => rfl
  | i + 1, hi, h => by
    obtain ⟨o, ho⟩ : ∃ o, ops[i]? = some o := ⟨ops[i], Array.getElem?_eq_getElem (by omega)⟩
    have ih := heapAt_agree tr (i := i) (by omega) fun j hj => h j (by omega)
    rw [(tr i o ho).heap]
    simp only [heapAt]
    by_cases e : n ∈ wrAt T O i
    · rw [if_pos (h i (by omega) e)]; exact eff_in e
    · rw [eff_out (h := fun n => (T i).h.getD n .dead) e]
      split
      · rw [eff_out e]; exact ih
      · exact ih

def addS (S : Nat → Bool) (i : Nat) : Nat → Bool := fun j => j == i || S j

theorem slotAt_add {S : Nat → Bool} {i d : Nat} (hi : S i = false) : ∀ {m : Nat}, i < m → (∀ j, i < j → j < m → S j = true → ∀ d, dstAt ops i = some d → dstAt ops j ≠ some d) →
    slotAt ops T O (addS S i) m d = if dstAt ops i = some d then some (O i).v else slotAt ops T O S m d
  | m, him, h => by
    have below : ∀ m, m ≤ i → slotAt ops T O (addS S i) m d = slotAt ops T O S m d := by
      intro m hm
      induction m with
      | zero => rfl
      | succ m ih =>
        simp only [slotAt, ih (by omega)]
        have : addS S i m = S m := by simp only [addS]; rw [show (m == i) = false from by simp; omega]; rfl
        rw [this]
    induction m with
    | zero => omega
    | succ m ih =>
      rcases Nat.lt_or_ge i m with h1 | h1
      · have ih := ih h1 fun j h2 h3 => h j h2 (by omega)
        have hm : addS S i m = S m := by simp only [addS]; rw [show (m == i) = false from by simp; omega]; rfl
        simp only [slotAt, hm]
        by_cases e : S m = true ∧ dstAt ops m = some d
        · rw [if_pos e, if_neg fun e' => h m h1 (by omega) e.1 d e' e.2, if_pos e]
        · rw [if_neg e, ih, if_neg e]
      · obtain rfl : i = m := by omega
        have hm : addS S i i = true := by simp [addS]
        simp only [slotAt, hm, hi, Bool.false_eq_true, false_and, if_false, true_and]
        rw [below i (Nat.le_refl _)]

theorem heapAt_add {S : Nat → Bool} {i n : Nat} (hi : S i = false) : ∀ {m : Nat}, i < m → (∀ j, i < j → j < m → S j = true → ∀ n, n ∈ wrAt T O i → n ∉ wrAt T O j) →
    heapAt T O (addS S i) m n = eff (heapAt T O S m) (T i).h.length (O i).ws (O i).news n
  | m, him, h => by
    have below : ∀ m, m ≤ i → heapAt T O (addS S i) m = heapAt T O S m := by
      intro m hm
      induction m with
      | zero => rfl
      | succ m ih =>
        funext n
        simp only [heapAt, ih (by omega)]
        have : addS S i m = S m := by simp only [addS]; rw [show (m == i) = false from by simp; omega]; rfl
        rw [this]
    induction m with
    | zero => omega
    | succ m ih =>
      rcases Nat.lt_or_ge i m with h1 | h1
      · have ih := ih h1 fun j h2 h3 => h j h2 (by omega)
        have hm : addS S i m = S m := by simp only [addS]; rw [show (m == i) = false from by simp; omega]; rfl
        simp only [heapAt, hm]
        by_cases e : n ∈ wrAt T O i
        · have e1 : ∀ h h', eff h (T i).h.length (O i).ws (O i).news n = eff h' (T i).h.length (O i).ws (O i).news n := fun h h' => eff_in e
          cases hs : S m with
          | false => rw [if_neg (by simp), ih]; exact e1 _ _
          | true =>
            rw [if_pos rfl, eff_out (i := m) (h m h1 (by omega) hs n e), ih]; exact e1 _ _
        · have e1 : ∀ h, eff h (T i).h.length (O i).ws (O i).news n = h n := fun h => eff_out e
          rw [e1]
          cases hs : S m with
          | false => rw [if_neg (by simp), if_neg (by simp), ih, e1]
          | true =>
            rw [if_pos rfl, if_pos rfl]
            by_cases e2 : n ∈ wrAt T O m
            · exact eff_in e2
            · rw [eff_out (i := m) e2, eff_out (i := m) e2, ih, e1]
      · obtain rfl : i = m := by omega
        have hm : addS S i i = true := by simp [addS]
        simp only [heapAt, hm, if_true]
        rw [below i (Nat.le_refl _)]
        by_cases e : n ∈ wrAt T O i
        · exact eff_in e
        · rw [eff_out e, eff_out e]; simp only [hi, Bool.false_eq_true, if_false]
end sets

/-- The operations behind an operation. -/
theorem maskOf_bit {acc : List Nat} {o : Oper} {j : Nat} (h : (maskOf acc o).testBit j = true) : ∃ e ∈ o.after, Region.binds .any e = true ∧ (e.on = j ∨ (acc.getD e.on 0).testBit j = true) := by
  have key : ∀ (l : List Edge), (l.foldr (fun e s => if Region.binds .any e then s ||| 2 ^ e.on ||| acc.getD e.on 0 else s) 0).testBit j = true → ∃ e ∈ l, Region.binds .any e = true ∧ (e.on = j ∨ (acc.getD e.on 0).testBit j = true) := by
    intro l
    induction l with
    | nil => intro h; simp at h
    | cons e l ih =>
      intro h
      simp only [List.foldr_cons] at h
      split at h
      · rename_i hb
        simp only [Nat.testBit_or, Bool.or_eq_true] at h
        rcases h with (h | h) | h
        · obtain ⟨e', he', h'⟩ := ih h; exact ⟨e', by simp [he'], h'⟩
        · rw [Nat.testBit_two_pow] at h
          exact ⟨e, by simp, hb, .inl (of_decide_eq_true h)⟩
        · exact ⟨e, by simp, hb, .inr h⟩
      · obtain ⟨e', he', h'⟩ := ih h; exact ⟨e', by simp [he'], h'⟩
  obtain ⟨e, he, h'⟩ := key _ h
  exact ⟨e, Array.mem_toList_iff.1 he, h'⟩

theorem masks_prefix : ∀ {l : List Oper} {acc : List Nat} {i : Nat}, i < acc.length → (masks acc l).getD i 0 = acc.getD i 0
  | [], acc, i, _ => rfl
  | o :: l, acc, i, h => by
    simp only [masks]
    rw [masks_prefix (by simp; omega)]
    simp only [List.getD]; rw [List.getElem?_append_left h]

theorem masks_bit : ∀ {l : List Oper} {acc : List Nat} {i : Nat} {o : Oper} {j : Nat}, l[i]? = some o → ((masks acc l).getD (acc.length + i) 0).testBit j = true →
    (∀ e ∈ o.after, Region.binds .any e = true → e.on < acc.length + i) → ∃ e ∈ o.after, Region.binds .any e = true ∧ (e.on = j ∨ ((masks acc l).getD e.on 0).testBit j = true)
  | [], _, _, _, _, h, _, _ => by simp at h
  | o' :: l, acc, i, o, j, h, hb, hlt => by
    cases i with
    | zero =>
      simp only [List.getElem?_cons_zero, Option.some.injEq] at h
      subst h
      simp only [masks, Nat.add_zero] at hb
      rw [masks_prefix (by simp)] at hb
      simp only [List.getD, List.getElem?_concat_length, Option.getD_some] at hb
      obtain ⟨e, he, h1, h2⟩ := maskOf_bit hb
      refine ⟨e, he, h1, h2.imp id fun h2 => ?_⟩
      have := hlt e he h1
      simp only [masks]
      rw [masks_prefix (by simp; omega)]
      simp only [List.getD] at h2 ⊢
      rw [List.getElem?_append_left (by omega)]; exact h2
    | succ i =>
      simp only [List.getElem?_cons_succ] at h
      have hl : (acc ++ [maskOf acc o']).length + i = acc.length + (i + 1) := by simp; omega
      simp only [masks] at hb ⊢
      exact masks_bit h (by rw [hl]; exact hb) (by rw [hl]; exact hlt)

theorem apart2_spec {a b : List Nat} (h : apart2 a b = true) {n : Nat} (hn : n ∈ a) : n ∉ b := by
  simp only [apart2, List.all_eq_true, Bool.not_eq_true', List.contains_eq_mem, decide_eq_false_iff_not] at h
  exact h n hn

/-- The facts of a region whose operations are independent. -/
structure Indep (ops : Array Oper) (sg : List Sig) : Prop where
  nosel : Region.noSelect ops = true
  low : ∀ (i : Nat) (o : Oper), ops[i]? = some o → ∀ e ∈ o.after, Region.binds .any e = true → e.on < i
  pair : ∀ i j, i < ops.size → j < i → indepAt ops (masks [] ops.toList) sg i j = true

theorem indep_spec {ops : Array Oper} {sg : List Sig} (h : indep ops sg = true) : Indep ops sg := by
  simp only [indep, Bool.and_eq_true, List.all_eq_true, List.mem_range] at h
  refine ⟨h.1, fun i o hi e he hb => ?_, fun i j hi hj => (h.2 i hi).2 j hj⟩
  have hlt := (Array.getElem?_eq_some_iff.1 hi).1
  have := (h.2 i hlt).1
  rw [show ops.getD i default = o from by simp [hi]] at this
  have := Array.all_eq_true_iff_forall_mem.1 this e he
  simpa [hb] using this

/-- A set with each operation's forerunners. -/
def Closed (ops : Array Oper) (S : Nat → Bool) : Prop := ∀ (i : Nat) (o : Oper), ops[i]? = some o → S i = true → ∀ e ∈ o.after, Region.binds .any e = true → S e.on = true

theorem closed_anc {ops : Array Oper} {sg : List Sig} (I : Indep ops sg) {S : Nat → Bool} (hS : Closed ops S) {j : Nat} : ∀ (n i : Nat) (o : Oper), i < n → ops[i]? = some o → (∀ e ∈ o.after, Region.binds .any e = true → S e.on = true) →
    ((masks [] ops.toList).getD i 0).testBit j = true → S j = true := by
  intro n
  induction n with
  | zero => intro i o h; omega
  | succ n ih =>
    intro i o hi ho hall hb
    obtain ⟨e, he, h1, h2⟩ := masks_bit (acc := []) (l := ops.toList) (i := i) (o := o) (by simpa using ho) (by simpa using hb) (by simpa using I.low i o ho)
    have hse := hall e he h1
    rcases h2 with h2 | h2
    · rw [← h2]; exact hse
    · have hlt := I.low i o ho e he h1
      have hsz := (Array.getElem?_eq_some_iff.1 ho).1
      have he' : ops[e.on]? = some ops[e.on] := Array.getElem?_eq_getElem (by omega)
      exact ih e.on _ (by omega) he' (hS e.on _ he' hse) h2


/-- What is so of a set's state. -/
structure RelS (P : Program) (L : Lay) (B : Base) (N : Nat) (ops : Array Oper) (T : Nat → St) (O : Nat → Out) (S : Nat → Bool) (a : Act) (w : World) (ρ : Ren) (F : Nat → Prop) : Prop where
  defers : a.defers = []
  size : a.tmps.size = N
  slots : ∀ d x, slotAt ops T O S ops.size d = some x → ∃ v, a.tmps[d]? = some v ∧ AR F w ρ x v
  fresh : ∀ m, (T 0).h.length ≤ m → (∀ j, j < ops.size → S j = true → ¬ ((T j).h.length ≤ m ∧ m < (T j).h.length + (O j).news.length)) → ρ m = none
  mem : Mem L B.X B.w0 F w ρ (heapAt T O S ops.size)
  ext0 : ∀ n lo, B.ρ0 n = some lo → ρ n = some lo
  f0 : ∀ b, B.F0 b → F b
  f1 : ∀ b, F b → B.F0 b ∨ B.w0.heap.size ≤ b

section main
variable {P : Program} {L : Lay} {E : Env} {C : Tab} {B : Base} {N : Nat} {ops : Array Oper} {T : Nat → St} {O : Nat → Out} {sg : List Sig} {S : Nat → Bool} {a : Act} {w : World} {ρ : Ren} {F : Nat → Prop} {Q : Exit → Act → World → Prop}

theorem sigWr (tr : ∀ i o, ops[i]? = some o → Tr P L E C N ops T O sg i o) {i : Nat} {o : Oper} (ho : ops[i]? = some o) : ∃ rd, sg[i]? = some ⟨rd, wrAt T O i⟩ ∧ (readsMem o.op = true → ∀ x ∈ o.op.operands, ∀ y, evX (T i).t x = some y → ∀ m ∈ rdN (fun n => (T i).h.getD n .dead) y, m ∈ rd) := by
  refine ⟨_, (tr i o ho).sig, fun hr x hx y hy m hm => ?_⟩
  rw [if_pos hr]
  simp only [List.mem_flatMap]
  exact ⟨x, Array.mem_toList_iff.2 hx, by rw [hy]; exact hm⟩

/-- Two operations, neither behind the other. -/
theorem pair_spec (tr : ∀ i o, ops[i]? = some o → Tr P L E C N ops T O sg i o) (I : Indep ops sg) {i j : Nat} {oi oj : Oper} (hi : ops[i]? = some oi) (hj : ops[j]? = some oj) (hlt : j < i) (hna : ((masks [] ops.toList).getD i 0).testBit j ≠ true) :
    oj.apart ops oi = true ∧ (readsMem oi.op = true → ∀ x ∈ oi.op.operands, ∀ y, evX (T i).t x = some y → ∀ m ∈ rdN (fun n => (T i).h.getD n .dead) y, m ∉ wrAt T O j) ∧ (∀ n ∈ wrAt T O j, n ∉ wrAt T O i) ∧
    (readsMem oj.op = true → ∀ x ∈ oj.op.operands, ∀ y, evX (T j).t x = some y → ∀ m ∈ rdN (fun n => (T j).h.getD n .dead) y, m ∉ wrAt T O i) := by
  have h := I.pair i j (Array.getElem?_eq_some_iff.1 hi).1 hlt
  obtain ⟨ri, hri, hri'⟩ := sigWr tr hi
  obtain ⟨rj, hrj, hrj'⟩ := sigWr tr hj
  simp only [indepAt, hi, hj, hri, hrj, Bool.or_eq_true, Bool.and_eq_true] at h
  obtain ⟨⟨⟨h1, h2⟩, h3⟩, h4⟩ := h.resolve_left hna
  exact ⟨h1, fun hr x hx y hy m hm hn => apart2_spec h2 hn (hri' hr x hx y hy m hm), fun n hn => apart2_spec h3 hn, fun hr x hx y hy m hm hn => apart2_spec h4 hn (hrj' hr x hx y hy m hm)⟩

theorem len_mono (tr : ∀ i o, ops[i]? = some o → Tr P L E C N ops T O sg i o) {i : Nat} : ∀ {m : Nat}, i ≤ m → m ≤ ops.size → (T i).h.length ≤ (T m).h.length
  | m, him, hm => by
    induction m with
    | zero => obtain rfl : i = 0 := by omega
              exact Nat.le_refl _
    | succ m ih =>
      rcases Nat.lt_or_ge m i with h1 | h1
      · obtain rfl : i = m + 1 := by omega
        exact Nat.le_refl _
      · have := ih h1 (by omega)
        have h2 := (tr m _ (Array.getElem?_eq_getElem (show m < ops.size by omega))).len
        omega

/-- The operands that are looked at, and nothing else. -/
def cutT (ops : Array Oper) (o : Oper) (t : List (Nat × AV)) : List (Nat × AV) := (o.looksAt ops).filterMap fun d => (look1 t d).map (d, ·)

theorem look1_cutT {l : List Nat} {t : List (Nat × AV)} {d : Nat} : look1 (l.filterMap fun d => (look1 t d).map (d, ·)) d = if d ∈ l then look1 t d else none := by
  induction l with
  | nil => simp [look1]
  | cons e l ih =>
    simp only [List.filterMap_cons]
    cases he : look1 t e with
    | none =>
      simp only [Option.map_none, ih, List.mem_cons]
      by_cases h1 : d = e
      · subst h1; simp [he]
      · simp [h1]
    | some x =>
      simp only [Option.map_some, look1, ih, List.mem_cons]
      by_cases h1 : e = d
      · subst h1; simp [he]
      · have : ¬ d = e := fun h => h1 h.symm
        simp [h1, this]

open Classical in
theorem draw_step (hE : EnvOK P E) (hC : C.kill = true → ∀ b, ¬ B.X b) (tr : ∀ i o, ops[i]? = some o → Tr P L E C N ops T O sg i o) (I : Indep ops sg) (hS : Closed ops S) (R : RelS P L B N ops T O S a w ρ F) {i : Nat} {o : Oper} (ho : ops[i]? = some o) (hi : S i = false)
    (hall : ∀ e ∈ o.after, Region.binds .any e = true → S e.on = true) {K : Act → World → Prop} (hK : ∀ a' w' ρ' F', RelS P L B N ops T O (addS S i) a' w' ρ' F' → K a' w') : wpOp P ops Q i K a w := by
  have t := tr i o ho
  have hsz := (Array.getElem?_eq_some_iff.1 ho).1
  have hdi : dstAt ops i = o.dst := by simp [dstAt, ho]
  have getO : ∀ j, j < ops.size → ∃ oj, ops[j]? = some oj := fun j hj => ⟨ops[j], Array.getElem?_eq_getElem hj⟩
  -- below, not yet done: not behind it; above, done: it is not behind them
  have lowNot : ∀ j, j < i → S j ≠ true → ((masks [] ops.toList).getD i 0).testBit j ≠ true := fun j hj hs hb =>
    hs (closed_anc I hS (i + 1) i o (Nat.lt_succ_self _) ho hall hb)
  have highNot : ∀ j, i < j → j < ops.size → S j = true → ((masks [] ops.toList).getD j 0).testBit i ≠ true := fun j hj hjs hs hb => by
    obtain ⟨oj, hoj⟩ := getO j hjs
    have := closed_anc I hS (j + 1) j oj (Nat.lt_succ_self _) hoj (hS j oj hoj hs) hb
    rw [hi] at this; cases this
  have slotEq : ∀ d ∈ o.looksAt ops, slotAt ops T O S ops.size d = look1 (T i).t d := fun d hd => by
    rw [slotAt_skip (i := i) (Nat.le_of_lt hsz) fun j h1 h2 h3 h4 => ?_]
    · refine slotAt_agree tr (Nat.le_of_lt hsz) fun j h1 h2 => ?_
      by_cases hs : S j = true
      · exact hs
      · obtain ⟨oj, hoj⟩ := getO j (by omega)
        have := (Oper.apart_spec (pair_spec tr I ho hoj h1 (lowNot j h1 hs)).1).1 d (by simpa [dstAt, hoj] using h2)
        exact absurd hd this
    · have hlt : i < j := by rcases Nat.lt_or_ge i j with h | h; exact h; obtain rfl : i = j := by omega
                             rw [hi] at h3; cases h3
      obtain ⟨oj, hoj⟩ := getO j h2
      exact (Oper.apart_spec (pair_spec tr I hoj ho hlt (highNot j hlt h2 h3)).1).2.2 d (by simpa [dstAt, hoj] using h4) hd
  have heapEq : readsMem o.op = true → ∀ x ∈ o.op.operands, ∀ y, evX (T i).t x = some y → ∀ m ∈ rdN (fun n => (T i).h.getD n .dead) y, heapAt T O S ops.size m = (T i).h.getD m .dead := fun hr x hx y hy m hm => by
    rw [heapAt_skip (i := i) (Nat.le_of_lt hsz) fun j h1 h2 h3 h4 => ?_]
    · refine heapAt_agree tr (Nat.le_of_lt hsz) fun j h1 h2 => ?_
      by_cases hs : S j = true
      · exact hs
      · obtain ⟨oj, hoj⟩ := getO j (by omega)
        exact absurd h2 ((pair_spec tr I ho hoj h1 (lowNot j h1 hs)).2.1 hr x hx y hy m hm)
    · have hlt : i < j := by rcases Nat.lt_or_ge i j with h | h; exact h; obtain rfl : i = j := by omega
                             rw [hi] at h3; cases h3
      obtain ⟨oj, hoj⟩ := getO j h2
      exact (pair_spec tr I hoj ho hlt (highNot j hlt h2 h3)).2.2.2 hr x hx y hy m hm h4
  -- what it looks at
  let lookR : Nat → HObj := fun m => if readsMem o.op = true ∧ ∃ x ∈ o.op.operands, ∃ y, evX (T i).t x = some y ∧ m ∈ rdN (fun n => (T i).h.getD n .dead) y then (T i).h.getD m .dead else .dead
  have hstep : evStep P L E C lookR (T i).h.length (cutT ops o (T i).t) ops o = some (O i) := by
    rw [← t.step]
    symm
    refine evStep_agree (fun d hd => ?_) fun hr x hx y hy m hm => ?_
    · simp only [cutT]; rw [look1_cutT, if_pos hd]
    · simp only [lookR]; rw [if_pos ⟨hr, x, hx, y, hy, hm⟩]
  have hslots : Slots F w ρ (cutT ops o (T i).t) a := fun d x hx => by
    simp only [cutT] at hx
    rw [look1_cutT] at hx
    split at hx
    · rename_i hd; exact R.slots d x (by rw [slotEq d hd]; exact hx)
    · cases hx
  have hlook : ∀ n, (lookR n).live → lookR n = heapAt T O S ops.size n := fun n hn => by
    simp only [lookR] at hn ⊢
    split
    · rename_i h; obtain ⟨hr, x, hx, y, hy, hm⟩ := h; exact (heapEq hr x hx y hy n hm).symm
    · rename_i h; rw [if_neg h] at hn; exact hn.elim
  have disj : ∀ j, j < ops.size → j ≠ i → ∀ m, (T i).h.length ≤ m → m < (T i).h.length + (O i).news.length → ¬ ((T j).h.length ≤ m ∧ m < (T j).h.length + (O j).news.length) := fun j hj hne m h1 h2 h3 => by
    obtain ⟨oj, hoj⟩ := getO j hj
    have l1 := t.len
    have l2 := (tr j oj hoj).len
    rcases Nat.lt_or_ge i j with h | h
    · have := len_mono tr (i := i + 1) (m := j) h (by omega); omega
    · have := len_mono tr (i := j + 1) (m := i) (by omega) (by omega); omega
  have hfr : ∀ n, (T i).h.length ≤ n → n < (T i).h.length + (O i).news.length → ρ n = none := fun n h1 h2 =>
    R.fresh n (Nat.le_trans (len_mono tr (Nat.zero_le i) (Nat.le_of_lt hsz)) h1) fun j hj hs => disj j hj (fun e => by rw [e, hi] at hs; cases hs) n h1 h2
  have main := evStep_sound (Q := Q) hE hC hslots R.mem hlook hstep hfr t.all (K := K) fun v w' ρ' F' hP => by
    refine hK _ _ ρ' F' ⟨by cases o.dst <;> exact R.defers, by cases o.dst <;> simp [Act.put, R.size], fun d x hx => ?_, fun m h1 h2 => ?_, ?_, fun n lo hn => hP.ext _ _ (R.ext0 n lo hn), fun b hb => (hP.stay b (R.f0 b hb)).1,
      fun b hb => (hP.fnew b hb).elim (R.f1 b) .inr⟩
    · rw [slotAt_add hi hsz fun j h1 h2 h3 d h4 h5 => ?_, hdi] at hx
      · have old : ∀ x, slotAt ops T O S ops.size d = some x → ∃ u, a.tmps[d]? = some u ∧ AR F' w' ρ' x u := fun x hx => by
          obtain ⟨u, hu, hr⟩ := R.slots d x hx
          exact ⟨u, hu, hr.mono hP.stay hP.ext⟩
        rw [Act.put_tmps]
        cases hd : o.dst with
        | none => rw [hd] at hx; simp only [reduceCtorEq, if_false] at hx; exact old x hx
        | some e =>
          rw [hd] at hx
          simp only [Option.some.injEq] at hx
          split at hx
          · rename_i h; subst h
            simp only [Option.some.injEq] at hx; subst hx
            have hlt : e < a.tmps.size := by rw [R.size]; exact t.dst e hd
            exact ⟨v, by simp [hlt], hP.val⟩
          · rename_i h
            obtain ⟨u, hu, hr⟩ := old x hx
            exact ⟨u, by simp only; rw [Array.getElem?_setIfInBounds_ne h]; exact hu, hr⟩
      · obtain ⟨oj, hoj⟩ := getO j h2
        rw [hdi] at h4
        exact (Oper.apart_spec (pair_spec tr I hoj ho h1 (highNot j h1 h2 h3)).1).2.1 d h4 (by simpa [dstAt, hoj] using h5)
    · by_cases hm : (T i).h.length ≤ m ∧ m < (T i).h.length + (O i).news.length
      · exact absurd hm (h2 i hsz (by simp [addS]))
      · rw [hP.names m hm]
        exact R.fresh m h1 fun j hj hs => h2 j hj (by simp [addS, hs])
    · have : heapAt T O (addS S i) ops.size = eff (heapAt T O S ops.size) (T i).h.length (O i).ws (O i).news := by
        funext n
        exact heapAt_add hi hsz fun j h1 h2 h3 n hn => by
          obtain ⟨oj, hoj⟩ := getO j h2
          exact (pair_spec tr I hoj ho h1 (highNot j h1 h2 h3)).2.2.1 n hn
      rw [this]; exact hP.mem
  simp only [wpOp, ho]
  split
  · rename_i hw; rw [if_pos hw] at main; exact .inl main
  · rename_i hw; rw [if_neg hw] at main; exact main

/-- How many are not done. -/
def undone (S : Nat → Bool) : Nat → Nat
  | 0 => 0
  | m + 1 => undone S m + if S m = true then 0 else 1

theorem undone_zero {S : Nat → Bool} : ∀ {m : Nat}, undone S m = 0 → ∀ i, i < m → S i = true
  | 0, _, i, h => by omega
  | m + 1, h, i, hi => by
    simp only [undone] at h
    have h1 : undone S m = 0 := by omega
    by_cases hs : S m = true
    · rcases Nat.lt_or_ge i m with h2 | h2
      · exact undone_zero h1 i h2
      · obtain rfl : i = m := by omega
        exact hs
    · rw [if_neg hs] at h; omega

theorem undone_add {S : Nat → Bool} {i : Nat} (hi : S i = false) : ∀ {m : Nat}, i < m → undone (addS S i) m + 1 = undone S m
  | m, h => by
    have below : ∀ m, m ≤ i → undone (addS S i) m = undone S m := by
      intro m hm
      induction m with
      | zero => rfl
      | succ m ih =>
        have : addS S i m = S m := by simp only [addS]; rw [show (m == i) = false from by simp; omega]; rfl
        simp only [undone, ih (by omega), this]
    induction m with
    | zero => omega
    | succ m ih =>
      rcases Nat.lt_or_ge i m with h1 | h1
      · have := ih h1
        have e : addS S i m = S m := by simp only [addS]; rw [show (m == i) = false from by simp; omega]; rfl
        simp only [undone, e]; omega
      · obtain rfl : i = m := by omega
        have e : addS S i i = true := by simp [addS]
        simp only [undone, e, hi, below i (Nat.le_refl _)]; simp

theorem undone_le {S : Nat → Bool} : ∀ {m : Nat}, undone S m ≤ m
  | 0 => Nat.le_refl _
  | m + 1 => by have := undone_le (S := S) (m := m); simp only [undone]; split <;> omega

/-- The set that a list of marks stands for. -/
def setOf (listed : Array Bool) : Nat → Bool := fun i => listed.getD i false

theorem setOf_set {listed : Array Bool} {i : Nat} (hi : i < listed.size) : setOf (listed.setIfInBounds i true) = addS (setOf listed) i := by
  funext j
  simp only [setOf, addS]
  by_cases e : j = i
  · subst e; simp [hi]
  · have : i ≠ j := fun h => e h.symm
    simp [e, Array.getElem?_setIfInBounds_ne this]

theorem all_done {listed : Array Bool} (I : Indep ops sg) (hl : listed.size = ops.size) (hr : Region.ready .any ops listed = []) : ∀ i, i < ops.size → setOf listed i = true := by
  intro i
  induction i using Nat.strongRecOn with
  | ind i ih =>
    intro hi
    cases hs : setOf listed i with
    | true => rfl
    | false =>
      have ho : ops[i]? = some ops[i] := Array.getElem?_eq_getElem hi
      have : i ∈ Region.ready .any ops listed := by
        refine mem_ready.2 ⟨?_, ops[i], ho, fun e he hb => ?_⟩
        · have h0 : listed.getD i false = false := hs
          have : i < listed.size := by omega
          simp [this] at h0 ⊢; exact h0
        · have hlt := I.low i _ ho e he hb
          exact ih e.on hlt (by omega)
      rw [hr] at this; cases this

theorem draw_any (hE : EnvOK P E) (hC : C.kill = true → ∀ b, ¬ B.X b) (tr : ∀ i o, ops[i]? = some o → Tr P L E C N ops T O sg i o) (I : Indep ops sg)
    (hQ : ∀ S a' w' ρ' F', (∀ i, i < ops.size → S i = true) → RelS P L B N ops T O S a' w' ρ' F' → Q .normal a' w') :
    ∀ (fuel : Nat) (listed : Array Bool) (a : Act) (w : World) (ρ : Ren) (F : Nat → Prop), listed.size = ops.size → undone (setOf listed) ops.size ≤ fuel → Closed ops (setOf listed) →
      RelS P L B N ops T O (setOf listed) a w ρ F → wpAny P .any ops Q fuel listed a w := by
  intro fuel
  induction fuel with
  | zero =>
    intro listed a w ρ F hl hu hc R
    have hall := undone_zero (Nat.le_zero.1 hu)
    refine ⟨?_, hQ _ _ _ _ _ hall R⟩
    refine List.eq_nil_iff_forall_not_mem.2 fun j hj => ?_
    obtain ⟨h0, o, ho, _⟩ := mem_ready.1 hj
    have hsz := (Array.getElem?_eq_some_iff.1 ho).1
    have h1 := hall j hsz
    simp only [setOf] at h1
    have : j < listed.size := by omega
    simp [this] at h0 h1
    rw [h0] at h1; cases h1
  | succ fuel ih =>
    intro listed a w ρ F hl hu hc R
    refine ⟨fun hr => hQ _ _ _ _ _ (all_done I hl hr) R, fun i hi => ?_⟩
    obtain ⟨h0, o, ho, hall⟩ := mem_ready.1 hi
    have hsz := (Array.getElem?_eq_some_iff.1 ho).1
    have hlt : i < listed.size := by omega
    have hs : setOf listed i = false := by
      simp only [setOf]
      simp [hlt] at h0 ⊢; exact h0
    refine draw_step hE hC tr I hc R ho hs hall fun a' w' ρ' F' R' => ?_
    rw [← setOf_set hlt] at R'
    refine ih _ a' w' ρ' F' (by simp [hl]) ?_ ?_ R'
    · rw [setOf_set hlt]
      have := undone_add hs hsz; omega
    · rw [setOf_set hlt]
      intro j oj hj hsj e he hb
      simp only [addS, Bool.or_eq_true, beq_iff_eq] at hsj ⊢
      rcases hsj with rfl | hsj
      · rw [ho] at hj; cases hj; exact .inr (hall e he hb)
      · exact .inr (hc j oj hj hsj e he hb)

theorem evDraw_sound (hE : EnvOK P E) (hC : C.kill = true → ∀ b, ¬ B.X b) (hm : P.follows .mixedOrders = true) {st st' : St} {ps : List Prop} (h : evOps P L E C N ops ops.toList st = some (st', ps, sg)) (hi : indep ops sg = true) (hp : All ps) (R : Rel L B N st a w ρ F)
    (hQ : ∀ a' w' ρ' F', Rel L B N st' a' w' ρ' F' → Q .normal a' w') {id : Nat} : (Code.region id ops true).wp P Q a w := by
  obtain ⟨T, O, h0, h1, h2⟩ := evOps_trace h hp
  have I := indep_spec hi
  have tr : ∀ i o, ops[i]? = some o → Tr P L E C N ops T O sg i o := fun i o ho => h2 i o (by simpa using ho)
  have hlen : ops.toList.length = ops.size := by simp
  rw [hlen] at h1
  have none' : ∀ i, setOf (Array.replicate ops.size false) i = false := fun i => by
    simp only [setOf]
    rcases Nat.lt_or_ge i ops.size with h | h
    · simp [h]
    · simp [h]
  refine wp_region_any hm (draw_any (B := B) hE hC tr I (fun S a' w' ρ' F' hall R' => ?_) ops.size _ a _ ρ F (by simp) (undone_le) (fun i o _ hs => by rw [none'] at hs; cases hs) ?_)
  · subst h1
    refine hQ a' w' ρ' F' ⟨R'.defers, R'.size, fun n x hx => ?_, fun n hn => ?_, ?_, R'.ext0, R'.f0, R'.f1⟩
    · exact R'.slots n x (by rw [slotAt_agree tr (Nat.le_refl _) fun j hj _ => hall j hj]; exact hx)
    · refine R'.fresh n (Nat.le_trans (len_mono tr (Nat.zero_le _) (Nat.le_refl _)) hn) fun j hj _ hin => ?_
      obtain ⟨oj, hoj⟩ : ∃ oj, ops[j]? = some oj := ⟨ops[j], Array.getElem?_eq_getElem hj⟩
      have l1 := (tr j oj hoj).len
      have l2 := len_mono tr (i := j + 1) (m := ops.size) hj (Nat.le_refl _)
      omega
    · have : heapAt T O S ops.size = fun n => (T ops.size).h.getD n .dead := funext fun n => heapAt_agree tr (Nat.le_refl _) fun j hj _ => hall j hj
      rw [← this]; exact R'.mem
  · have hs : ∀ m d, slotAt ops T O (setOf (Array.replicate ops.size false)) m d = look1 st.t d := fun m d => by
      induction m with
      | zero => simp only [slotAt, h0]
      | succ m ih => simp only [slotAt, none', Bool.false_eq_true, false_and, if_false, ih]
    have hh : ∀ m, heapAt T O (setOf (Array.replicate ops.size false)) m = fun n => st.h.getD n .dead := fun m => by
      induction m with
      | zero => funext n; simp only [heapAt, h0]
      | succ m ih => funext n; simp only [heapAt, none', Bool.false_eq_true, if_false, ih]
    have hF : ∀ b, F b → F b ∧ ({ w with drawn := w.drawn + 1 } : World).heap[b]? = w.heap[b]? := fun b hb => ⟨hb, rfl⟩
    refine ⟨R.defers, R.size, fun d x hx => ?_, fun m h1 _ => R.fresh m (by rw [← h0]; exact h1), ?_, R.ext0, R.f0, R.f1⟩
    · rw [hs] at hx
      obtain ⟨v, hv, hr⟩ := R.slots d x hx
      exact ⟨v, hv, hr.mono hF fun _ _ h => h⟩
    · rw [hh]; exact R.mem.same rfl rfl rfl rfl
end main
end Go.Ev
