/-
  States that say less (2): a block that is never written any more; a nil slice read as an empty one.
-/
import Derived.Test.YtcnklcnehpkfaaaEvP
namespace Go.Ev
open Go Go.RowKit
set_option linter.unusedVariables false
set_option linter.unusedSimpArgs false

/-- A slice value over a block, as memory that is only read; and when it may be read so. -/
def fzS (o : HObj) (off len : Nat) (x : AV) : AV :=
  match o with
  | .oi _ k l => .ri k ((l.drop off).take len)
  | .oo _ sz l => .rr sz ((l.drop (off / sz)).take len)
  | .dead => x
def fzC (o : HObj) (off len cap : Nat) : List Prop :=
  match o with
  | .oi _ k l => [len ≤ cap, off + cap ≤ l.length]
  | .oo _ sz l => [off % sz = 0, len ≤ cap, off / sz + cap ≤ l.length, nlLL l]
  | .dead => []

mutual
def AV.fz (n : Nat) (o : HObj) : AV → AV
  | .c v => .c v
  | .p m off => .p m off
  | .gp g off => .gp g off
  | .s m off len cap => if m = n then fzS o off len (.s m off len cap) else .s m off len cap
  | .x m off len cap => if m = n then fzS o off len (.x m off len cap) else .x m off len cap
  | .q x off => .q (x.fz n o) off
  | .ri k l => .ri k l
  | .rr sz l => .rr sz l
  | .a l => .a (fzL n o l)
  | .t l => .t (fzL n o l)
  | .f fn l => .f fn (fzL n o l)
  | .i ty x => .i ty (x.fz n o)
  | .g b x => .g b (x.fz n o)
def fzL (n : Nat) (o : HObj) : List AV → List AV
  | [] => []
  | x :: l => x.fz n o :: fzL n o l
def fzLL (n : Nat) (o : HObj) : List (List AV) → List (List AV)
  | [] => []
  | c :: l => fzL n o c :: fzLL n o l
end
mutual
def AV.fzP (n : Nat) (o : HObj) : AV → List Prop
  | .c _ | .p _ _ | .gp _ _ | .ri _ _ | .rr _ _ => []
  | .s m off len cap => if m = n then fzC o off len cap else []
  | .x m off len cap => if m = n then fzC o off len cap else []
  | .q x _ => x.fzP n o
  | .a l => fzPL n o l
  | .t l => fzPL n o l
  | .f _ l => fzPL n o l
  | .i _ x => x.fzP n o
  | .g _ x => x.fzP n o
def fzPL (n : Nat) (o : HObj) : List AV → List Prop
  | [] => []
  | x :: l => x.fzP n o ++ fzPL n o l
def fzPLL (n : Nat) (o : HObj) : List (List AV) → List Prop
  | [] => []
  | c :: l => fzPL n o c ++ fzPLL n o l
end
def HObj.fz (ob : HObj) (n : Nat) (o : HObj) : HObj :=
  match ob with
  | .oo e sz l => .oo e sz (fzLL n o l)
  | ob => ob
def HObj.fzP (ob : HObj) (n : Nat) (o : HObj) : List Prop :=
  match ob with
  | .oo _ _ l => fzPLL n o l
  | _ => []

theorem fz_one (n : Nat) (o : HObj) (x : AV) : (x.fz n o).one = x.one := by
  cases x with
  | s m off len cap => simp only [AV.fz]; split <;> (try rfl); cases o <;> rfl
  | x m off len cap => simp only [AV.fz]; split <;> (try rfl); cases o <;> rfl
  | _ => rfl
theorem fzL_length (n : Nat) (o : HObj) : ∀ l : List AV, (fzL n o l).length = l.length
  | [] => rfl
  | x :: l => by simp [fzL, fzL_length n o l]
theorem fzLL_length (n : Nat) (o : HObj) : ∀ l : List (List AV), (fzLL n o l).length = l.length
  | [] => rfl
  | x :: l => by simp [fzLL, fzLL_length n o l]
theorem fzL_append (n : Nat) (o : HObj) : ∀ l r : List AV, fzL n o (l ++ r) = fzL n o l ++ fzL n o r
  | [], r => rfl
  | x :: l, r => by simp [fzL, fzL_append n o l r]
theorem fzPL_append (n : Nat) (o : HObj) : ∀ l r : List AV, fzPL n o (l ++ r) = fzPL n o l ++ fzPL n o r
  | [], r => rfl
  | x :: l, r => by simp [fzPL, fzPL_append n o l r]
theorem fzLL_flatten (n : Nat) (o : HObj) : ∀ l : List (List AV), (fzLL n o l).flatten = fzL n o l.flatten
  | [] => rfl
  | c :: l => by simp [fzLL, fzLL_flatten n o l, fzL_append]
theorem fzPLL_flatten (n : Nat) (o : HObj) : ∀ l : List (List AV), fzPLL n o l = fzPL n o l.flatten
  | [] => rfl
  | c :: l => by simp [fzPLL, fzPLL_flatten n o l, fzPL_append]
theorem fzL_mem {n : Nat} {o : HObj} {y : AV} : ∀ {l : List AV}, y ∈ fzL n o l → ∃ x ∈ l, y = x.fz n o
  | x :: l, h => by
    simp only [fzL, List.mem_cons] at h
    rcases h with rfl | h
    · exact ⟨x, by simp, rfl⟩
    · obtain ⟨z, hz, e⟩ := fzL_mem h; exact ⟨z, by simp [hz], e⟩
theorem fzLL_mem {n : Nat} {o : HObj} {d : List AV} : ∀ {l : List (List AV)}, d ∈ fzLL n o l → ∃ c ∈ l, d = fzL n o c
  | x :: l, h => by
    simp only [fzLL, List.mem_cons] at h
    rcases h with rfl | h
    · exact ⟨x, by simp, rfl⟩
    · obtain ⟨z, hz, e⟩ := fzLL_mem h; exact ⟨z, by simp [hz], e⟩

section
variable {F F' : Nat → Prop} {w : World} {ρ : Ren} {n : Nat} {o : HObj} {lo : Loc}

theorem fzS_sound (hF : ∀ b, F b → F' b) (hn : ρ n = some lo) (hb : ∀ b, lo.blk = some b → F' b) (hh : HR F w ρ n o) {off len cap cap' : Nat} {x : AV} {v : Value} (hp : All (fzC o off len cap)) (hx : AR F' w ρ x v)
    (e : v = .slice (lo.blk.map fun b => ⟨b, off, none⟩) len cap') (hc1 : cap ≤ cap') (hc2 : cap' ≤ cap + lo.slack) : AR F' w ρ (fzS o off len x) v := by
  cases o with
  | dead => exact hx
  | oi e' k l =>
    obtain ⟨hlc, hcl, _⟩ := hp
    obtain ⟨lo', h1, h2⟩ := hh
    rw [hn] at h1; obtain rfl := Option.some.inj h1
    obtain ⟨q1, q2, q3⟩ := ownsRow_cap h2
    simp only [fzS, AR]
    have hlen : ((l.drop off).take len).length = len := by simp; omega
    refine ⟨_, cap', by rw [hlen]; exact e, by rw [hlen]; omega, by omega, fun hnone => ?_, fun j x hj => ?_⟩
    · simp only [Option.map_eq_none_iff] at hnone; have := q2 hnone; omega
    · rw [List.getElem?_take] at hj
      split at hj
      · rename_i hjl
        rw [List.getElem?_drop] at hj
        have hlt := (List.getElem?_eq_some_iff.1 hj).1
        cases hbk : lo.blk with
        | none => have := q2 hbk; omega
        | some b =>
          refine ⟨_, rfl, hb b hbk, ?_⟩
          rw [Addr.add_lit]
          have h2' : w.ownsRow 0 e' 1 (.slice (some ⟨b, 0, none⟩) l.length (l.length + lo.slack)) l.length (l.map (Value.int k)) := by
            have := h2; simp only [sliceOf, hbk, Option.map_some] at this; exact this
          rw [h2'.cellAt _ (by omega)]; simp [hj]
      · cases hj
  | oo e' sz l =>
    obtain ⟨hmod, hlc, hcl, hnl, _⟩ := hp
    obtain ⟨lo', xs, h1, h2, h3, h4⟩ := hh
    rw [hn] at h1; obtain rfl := Option.some.inj h1
    obtain ⟨q1, q2, q3⟩ := ownsRow_cap h2
    simp only [fzS, AR]
    have hoz := Nat.zero_le (off / sz)
    have hlen : ((l.drop (off / sz)).take len).length = len := by simp; omega
    have hoff : off = off / sz * sz := by rw [Nat.mul_comm]; have := Nat.div_add_mod off sz; omega
    refine ⟨_, cap', by rw [hlen]; exact e, by rw [hlen]; omega, by omega, fun hnone => ?_, ARR.of_get fun j c hj => ?_⟩
    · simp only [Option.map_eq_none_iff] at hnone; have := q2 hnone; omega
    · rw [List.getElem?_take] at hj
      split at hj
      · rename_i hjl
        rw [List.getElem?_drop] at hj
        have hlt := (List.getElem?_eq_some_iff.1 hj).1
        have hcm := List.mem_of_getElem? hj
        cases hbk : lo.blk with
        | none => have := q2 hbk; omega
        | some b =>
          have h2' : w.ownsRow 0 e' sz (.slice (some ⟨b, 0, none⟩) l.length (l.length + lo.slack)) l.length xs := by
            have := h2; simp only [sliceOf, hbk, Option.map_some] at this; exact this
          refine ⟨_, rfl, hb b hbk, (h4 c hcm).1, ARC.of_get fun i x hi => ?_⟩
          have hfl := flatten_at (fun c hc => (h4 c hc).1) hj hi
          obtain ⟨u, hu, hr⟩ := h3.get _ _ hfl
          have hltx : (off / sz + j) * sz + i < l.length * sz := by
            rw [← flatten_length fun c hc => (h4 c hc).1]; exact (List.getElem?_eq_some_iff.1 hfl).1
          refine ⟨(h4 c hcm).2 x (List.mem_of_getElem? hi), u, ?_, AR.nl' hF _ _ (nl_mem hnl hcm (List.mem_of_getElem? hi)) hr⟩
          rw [Addr.add_lit, show off + ((0 + j) * sz + i) = (off / sz + j) * sz + i from by rw [Nat.zero_add, Nat.add_mul]; omega, h2'.cellAt _ hltx]
          exact hu
      · cases hj

mutual
theorem AR.fz (hF : ∀ b, F b → F' b) (hn : ρ n = some lo) (hb : ∀ b, lo.blk = some b → F' b) (hh : HR F w ρ n o) : ∀ (x : AV) (v : Value), All (x.fzP n o) → AR F w ρ x v → AR F' w ρ (x.fz n o) v
  | .c _, v, _, h => by simpa only [AV.fz, AR] using h
  | .p _ _, v, _, h => by simpa only [AV.fz, AR] using h
  | .gp _ _, v, _, h => by simpa only [AV.fz, AR] using h
  | .ri k l, v, _, h => by
    have := h.mono (F' := F') (w' := w) (ρ' := ρ) (fun b hb => ⟨hF b hb, rfl⟩) (fun _ _ h => h)
    simpa only [AV.fz] using this
  | .s m off len cap, v, hp, h => by
    have h0 := h.mono (F' := F') (w' := w) (ρ' := ρ) (fun b hb => ⟨hF b hb, rfl⟩) (fun _ _ h => h)
    simp only [AV.fz]
    simp only [AV.fzP] at hp
    split
    · rename_i e
      subst e
      rw [if_pos rfl] at hp
      have h2 := h
      simp only [AR] at h2
      obtain ⟨lo', h1, h2⟩ := h2
      rw [hn] at h1; obtain rfl := Option.some.inj h1
      exact fzS_sound hF hn hb hh hp h0 h2 (by omega) (by omega)
    · exact h0
  | .x m off len cap, v, hp, h => by
    have h0 := h.mono (F' := F') (w' := w) (ρ' := ρ) (fun b hb => ⟨hF b hb, rfl⟩) (fun _ _ h => h)
    simp only [AV.fz]
    simp only [AV.fzP] at hp
    split
    · rename_i e
      subst e
      rw [if_pos rfl] at hp
      have h2 := h
      simp only [AR] at h2
      obtain ⟨lo', h1, h2⟩ := h2
      rw [hn] at h1; obtain rfl := Option.some.inj h1
      exact fzS_sound hF hn hb hh hp h0 h2 (by omega) (by omega)
    · exact h0
  | .q x off, v, hp, h => by
    simp only [AV.fzP] at hp
    simp only [AV.fz, AR] at h ⊢
    obtain ⟨ad, len, cap, h1, h2⟩ := h
    exact ⟨ad, len, cap, AR.fz hF hn hb hh x _ hp h1, h2⟩
  | .rr sz l, v, hp, h => by
    simp only [AV.fz, AR] at h ⊢
    obtain ⟨ao, cap, h1, h2, h3, h4, h5⟩ := h
    exact ⟨ao, cap, h1, h2, h3, h4, ARR.mono' hF ao sz 0 l h5⟩
  | .a l, v, hp, h => by
    simp only [AV.fzP] at hp
    simp only [AV.fz, AR] at h ⊢
    obtain ⟨vs, h1, h2⟩ := h; exact ⟨vs, h1, ARL.fz hF hn hb hh l _ hp h2⟩
  | .t l, v, hp, h => by
    simp only [AV.fzP] at hp
    simp only [AV.fz, AR] at h ⊢
    obtain ⟨vs, h1, h2⟩ := h; exact ⟨vs, h1, ARL.fz hF hn hb hh l _ hp h2⟩
  | .f fn l, v, hp, h => by
    simp only [AV.fzP] at hp
    simp only [AV.fz, AR] at h ⊢
    obtain ⟨vs, h1, h2⟩ := h; exact ⟨vs, h1, ARL.fz hF hn hb hh l _ hp h2⟩
  | .i ty x, v, hp, h => by
    simp only [AV.fzP] at hp
    simp only [AV.fz, AR] at h ⊢
    obtain ⟨u, h1, h2⟩ := h; exact ⟨u, h1, AR.fz hF hn hb hh x _ hp h2⟩
  | .g b x, v, hp, h => by
    simp only [AV.fzP] at hp
    simp only [AV.fz, AR] at h ⊢
    cases b
    · exact h
    · simp only [if_true] at h ⊢; exact AR.fz hF hn hb hh x _ hp h
theorem ARL.fz (hF : ∀ b, F b → F' b) (hn : ρ n = some lo) (hb : ∀ b, lo.blk = some b → F' b) (hh : HR F w ρ n o) : ∀ (l : List AV) (vs : List Value), All (fzPL n o l) → ARL F w ρ l vs → ARL F' w ρ (fzL n o l) vs
  | [], _, _, h => by simpa only [Ev.fzL, ARL] using h
  | x :: l, vs, hp, h => by
    simp only [fzPL, All_append] at hp
    simp only [Ev.fzL, ARL] at h ⊢; obtain ⟨v, r, h1, h2, h3⟩ := h; exact ⟨v, r, h1, AR.fz hF hn hb hh x _ hp.1 h2, ARL.fz hF hn hb hh l _ hp.2 h3⟩
theorem ARC.fz (hF : ∀ b, F b → F' b) (hn : ρ n = some lo) (hb : ∀ b, lo.blk = some b → F' b) (hh : HR F w ρ n o) {ad : Addr} : ∀ (i : Nat) (l : List AV), All (fzPL n o l) → ARC F w ρ ad i l → ARC F' w ρ ad i (fzL n o l)
  | _, [], _, _ => by simp [Ev.fzL, ARC]
  | i, x :: l, hp, h => by
    simp only [fzPL, All_append] at hp
    simp only [Ev.fzL, ARC] at h ⊢; obtain ⟨⟨h0, v, h1, h2⟩, h3⟩ := h
    exact ⟨⟨by rw [fz_one]; exact h0, v, h1, AR.fz hF hn hb hh x _ hp.1 h2⟩, ARC.fz hF hn hb hh (i + 1) l hp.2 h3⟩
theorem ARR.fz (hF : ∀ b, F b → F' b) (hn : ρ n = some lo) (hb : ∀ b, lo.blk = some b → F' b) (hh : HR F w ρ n o) (ao : Option Addr) (sz : Nat) : ∀ (i : Nat) (l : List (List AV)), All (fzPLL n o l) → ARR F w ρ ao sz i l → ARR F' w ρ ao sz i (fzLL n o l)
  | _, [], _, _ => by simp [Ev.fzLL, ARR]
  | i, c :: l, hp, h => by
    simp only [fzPLL, All_append] at hp
    simp only [Ev.fzLL, ARR] at h ⊢; obtain ⟨⟨ad, h1, h2, h3, h4⟩, h5⟩ := h
    exact ⟨⟨ad, h1, hF _ h2, by rw [fzL_length]; exact h3, ARC.fz hF hn hb hh _ c hp.1 h4⟩, ARR.fz hF hn hb hh ao sz (i + 1) l hp.2 h5⟩
end

theorem HR.fz (hF : ∀ b, F b → F' b) (hn : ρ n = some lo) (hb : ∀ b, lo.blk = some b → F' b) (hh : HR F w ρ n o) {m : Nat} {ob : HObj} (hp : All (ob.fzP n o)) (h : HR F w ρ m ob) : HR F' w ρ m (ob.fz n o) := by
  cases ob with
  | dead => trivial
  | oi e k l => exact h
  | oo e sz l =>
    obtain ⟨lo', xs, h1, h2, h3, h4⟩ := h
    refine ⟨lo', xs, h1, by rw [fzLL_length]; exact h2, ?_, fun c hc => ?_⟩
    · rw [fzLL_flatten]
      exact ARL.fz hF hn hb hh _ _ (by rw [← fzPLL_flatten]; exact hp) h3
    · obtain ⟨d, hd, rfl⟩ := fzLL_mem hc
      refine ⟨by rw [fzL_length]; exact (h4 d hd).1, fun x hx => ?_⟩
      obtain ⟨y, hy, rfl⟩ := fzL_mem hx
      rw [fz_one]; exact (h4 d hd).2 y hy
end

def freezeSt (n : Nat) (st : St) : St := ⟨st.t.map fun p => (p.1, p.2.fz n (st.h.getD n .dead)), (st.h.set n .dead).map (·.fz n (st.h.getD n .dead))⟩
def freezeC (n : Nat) (st : St) : List Prop := (st.t.flatMap fun p => p.2.fzP n (st.h.getD n .dead)) ++ (st.h.set n .dead).flatMap (·.fzP n (st.h.getD n .dead))

theorem look1_map {f : AV → AV} : ∀ (t : List (Nat × AV)) (m : Nat), look1 (t.map fun p => (p.1, f p.2)) m = (look1 t m).map f
  | [], _ => rfl
  | (i, x) :: t, m => by
    simp only [List.map_cons, look1]
    split
    · rfl
    · exact look1_map t m
theorem look1_mem : ∀ {t : List (Nat × AV)} {m : Nat} {x : AV}, look1 t m = some x → (m, x) ∈ t
  | (i, y) :: t, m, x, h => by
    simp only [look1] at h
    split at h
    · rename_i e; subst e; simp only [Option.some.injEq] at h; subst h; simp
    · exact List.mem_cons_of_mem _ (look1_mem h)

theorem live_fz {n : Nat} {o ob : HObj} : (ob.fz n o).live ↔ ob.live := by cases ob <;> simp [HObj.fz, HObj.live]

/-- A block is never written any more: what bears it reads as memory that is only read. -/
theorem Ent.freeze {L : Lay} {N : Nat} (n : Nat) {st st' : St} (hl : (st.h.getD n .dead).live) (hst : freezeSt n st = st') (hp : All (freezeC n st)) : Ent L 0 N st st' := fun B a w ρ F hk R => by
  subst hst
  simp only [freezeC, All_append] at hp
  have hpt : ∀ p ∈ st.t, All (p.2.fzP n (st.h.getD n .dead)) := fun p hm => All_iff.2 fun q hq => All_iff.1 hp.1 q (List.mem_flatMap.2 ⟨p, hm, hq⟩)
  have hph : ∀ m, m ≠ n → All ((st.h.getD m .dead).fzP n (st.h.getD n .dead)) := fun m hm => by
    rcases Nat.lt_or_ge m st.h.length with h1 | h1
    · refine All_iff.2 fun q hq => All_iff.1 hp.2 q (List.mem_flatMap.2 ⟨st.h.getD m .dead, ?_, hq⟩)
      have : (st.h.set n .dead)[m]? = some (st.h.getD m .dead) := by
        rw [List.getElem?_set, if_neg (Ne.symm hm)]; simp [List.getD, h1]
      exact List.mem_of_getElem? this
    · simp only [List.getD, List.getElem?_eq_none h1]; trivial
  obtain ⟨lo, hn, hlt⟩ := (R.mem.heap n).loc hl
  have hget : ∀ m, ((st.h.set n HObj.dead).map fun (ob : HObj) => ob.fz n (st.h.getD n HObj.dead)).getD m .dead = if m = n then .dead else (st.h.getD m .dead).fz n (st.h.getD n .dead) := fun m => by
    simp only [List.getD, List.getElem?_map, List.getElem?_set]
    by_cases e : m = n
    · subst e
      rw [if_pos rfl, if_pos rfl]
      split <;> rfl
    · rw [if_neg (Ne.symm e), if_neg e]
      cases st.h[m]? <;> rfl
  let F' : Nat → Prop := fun b => F b ∨ lo.blk = some b
  have hF : ∀ b, F b → F' b := fun _ h => .inl h
  have hb : ∀ b, lo.blk = some b → F' b := fun _ h => .inr h
  have hmono : ∀ b, F b → F' b ∧ w.heap[b]? = w.heap[b]? := fun b h => ⟨.inl h, rfl⟩
  have hblk : ∀ b, lo.blk = some b → blkOf ρ n = some b := fun b hb => by simp [blkOf, hn, hb]
  have hlv : ∀ m, (((st.h.set n HObj.dead).map fun (ob : HObj) => ob.fz n (st.h.getD n HObj.dead)).getD m .dead).live → m ≠ n ∧ (st.h.getD m .dead).live := fun m hm => by
    rw [hget] at hm
    split at hm
    · exact hm.elim
    · rename_i e; exact ⟨e, live_fz.1 hm⟩
  refine ⟨ρ, F', R.defers, R.size, fun m x hx => ?_, fun m hm => R.fresh m (by simpa [freezeSt] using hm), ⟨fun m => ?_, fun m1 m2 b hne h1 h2 hb1 => ?_, fun m b hm hbm => ?_, fun m b hm hbm => ?_, fun b hb => ?_, R.mem.fr, R.mem.lay.mono hmono⟩, R.ext0, fun b h => .inl (R.f0 b h), fun b h => ?_⟩
  · simp only [freezeSt, look1_map, Option.map_eq_some_iff] at hx
    obtain ⟨y, hy, rfl⟩ := hx
    obtain ⟨v, hv, hr⟩ := R.slots m y hy
    exact ⟨v, hv, AR.fz hF hn hb (R.mem.heap n) _ _ (hpt _ (look1_mem hy)) hr⟩
  · show HR F' w ρ m (((st.h.set n HObj.dead).map fun (ob : HObj) => ob.fz n (st.h.getD n HObj.dead)).getD m .dead)
    rw [hget]
    split
    · trivial
    · rename_i e; exact HR.fz hF hn hb (R.mem.heap n) (hph m e) (R.mem.heap m)
  · obtain ⟨e1, l1⟩ := hlv m1 h1
    obtain ⟨e2, l2⟩ := hlv m2 h2
    exact R.mem.dis m1 m2 b hne l1 l2 hb1
  · obtain ⟨e1, l1⟩ := hlv m hm
    rintro (h | h)
    · exact R.mem.notF m b l1 hbm h
    · exact R.mem.dis m n b e1 l1 hl hbm (hblk b h)
  · obtain ⟨e1, l1⟩ := hlv m hm
    exact R.mem.own m b l1 hbm
  · rcases hb with h | h
    · exact R.mem.bound b h
    · exact hlt b h
  · rcases h with h | h
    · exact R.f1 b h
    · rcases R.mem.own n b hl (hblk b h) with h1 | h1
      · exact .inr h1
      · obtain ⟨m, hm, _⟩ := B.hX b h1
        omega

/-- A value says no less than another: a nil slice is an empty one. -/
def subA : AV → AV → Prop
  | .a l, .a r => subL l r
  | .t l, .t r => subL l r
  | .c (.slice none 0 0), .ri _ r => r = []
  | .c (.slice none 0 0), .rr _ r => r = []
  | x, y => x = y
where
  subL : List AV → List AV → Prop
  | [], [] => True
  | x :: l, y :: r => subA x y ∧ subL l r
  | _, _ => False

def subLL (l r : List (List AV)) : Prop := l.length = r.length ∧ ∀ (i : Nat) (x y : List AV), l[i]? = some x → r[i]? = some y → subA.subL x y
def subO : HObj → HObj → Prop
  | .oo e sz l, .oo e' sz' r => e = e' ∧ sz = sz' ∧ subLL l r
  | x, y => x = y
def subT : List (Nat × AV) → List (Nat × AV) → List Prop
  | [], [] => []
  | (n, x) :: t, (m, y) :: r => (n = m) :: subA x y :: subT t r
  | _, _ => [False]
def subH : List HObj → List HObj → List Prop
  | [], [] => []
  | x :: t, y :: r => subO x y :: subH t r
  | _, _ => [False]

theorem subLL_refl (l : List (List AV)) (h : ∀ c ∈ l, subA.subL c c) : subLL l l := ⟨rfl, fun i x y h1 h2 => by rw [h1] at h2; obtain rfl := Option.some.inj h2; exact h x (List.mem_of_getElem? h1)⟩
mutual
theorem subA_refl : ∀ x : AV, subA x x
  | .a l => by simp only [subA]; exact subL_refl l
  | .t l => by simp only [subA]; exact subL_refl l
  | .c v => by
    unfold subA
    split <;> first | rfl | (rename_i h1 h2; cases h2) | (rename_i h1 h2; cases h1; cases h2)
  | .p _ _ => rfl
  | .gp _ _ => rfl
  | .s _ _ _ _ => rfl
  | .x _ _ _ _ => rfl
  | .q _ _ => rfl
  | .ri _ _ => rfl
  | .rr _ _ => rfl
  | .f _ _ => rfl
  | .i _ _ => rfl
  | .g _ _ => rfl
theorem subL_refl : ∀ l : List AV, subA.subL l l
  | [] => by simp [subA.subL]
  | x :: l => by simp only [subA.subL]; exact ⟨subA_refl x, subL_refl l⟩
end
theorem subLL_same (l : List (List AV)) : subLL l l := subLL_refl l fun c _ => subL_refl c
theorem subLL_app {l l' r r' : List (List AV)} (h : subLL l l') (h' : subLL r r') : subLL (l ++ r) (l' ++ r') := by
  refine ⟨by rw [List.length_append, List.length_append, h.1, h'.1], fun i x y h1 h2 => ?_⟩
  rcases Nat.lt_or_ge i l.length with hi | hi
  · rw [List.getElem?_append_left hi] at h1
    rw [List.getElem?_append_left (by rw [← h.1]; exact hi)] at h2
    exact h.2 i x y h1 h2
  · rw [List.getElem?_append_right hi] at h1
    rw [List.getElem?_append_right (by rw [← h.1]; exact hi), ← h.1] at h2
    exact h'.2 _ x y h1 h2
theorem subLL_one {x y : List AV} (h : subA.subL x y) : subLL [x] [y] := by
  refine ⟨rfl, fun i a b h1 h2 => ?_⟩
  cases i with
  | zero => simp at h1 h2; subst h1; subst h2; exact h
  | succ i => simp at h1
theorem subLL_snoc {l : List (List AV)} {x y : List AV} (h : subA.subL x y) : subLL (l ++ [x]) (l ++ [y]) := subLL_app (subLL_same l) (subLL_one h)

section
variable {F : Nat → Prop} {w : World} {ρ : Ren}
mutual
theorem AR.sub : ∀ (x y : AV) (v : Value), subA x y → AR F w ρ x v → AR F w ρ y v
  | .a l, y, v, h, hv => by
    cases y with
    | a r => simp only [subA] at h; simp only [AR] at hv ⊢; obtain ⟨vs, h1, h2⟩ := hv; exact ⟨vs, h1, ARL.sub l r _ h h2⟩
    | _ => simp only [subA] at h; cases h
  | .t l, y, v, h, hv => by
    cases y with
    | t r => simp only [subA] at h; simp only [AR] at hv ⊢; obtain ⟨vs, h1, h2⟩ := hv; exact ⟨vs, h1, ARL.sub l r _ h h2⟩
    | _ => simp only [subA] at h; cases h
  | .c u, y, v, h, hv => by
    unfold subA at h
    split at h
    · rename_i e; cases e
    · rename_i e; cases e
    · rename_i e
      cases e; subst h
      simp only [AR] at hv ⊢; subst hv
      exact ⟨none, 0, rfl, Nat.le_refl _, Nat.zero_le _, fun _ => rfl, by simp⟩
    · rename_i e
      cases e; subst h
      simp only [AR] at hv ⊢; subst hv
      exact ⟨none, 0, rfl, Nat.le_refl _, Nat.zero_le _, fun _ => rfl, by simp [ARR]⟩
    · subst h; exact hv
  | .p _ _, y, v, h, hv => by cases h; exact hv
  | .gp _ _, y, v, h, hv => by cases h; exact hv
  | .s _ _ _ _, y, v, h, hv => by cases h; exact hv
  | .x _ _ _ _, y, v, h, hv => by cases h; exact hv
  | .q _ _, y, v, h, hv => by cases h; exact hv
  | .ri _ _, y, v, h, hv => by cases h; exact hv
  | .rr _ _, y, v, h, hv => by cases h; exact hv
  | .f _ _, y, v, h, hv => by cases h; exact hv
  | .i _ _, y, v, h, hv => by cases h; exact hv
  | .g _ _, y, v, h, hv => by cases h; exact hv
theorem ARL.sub : ∀ (l r : List AV) (vs : List Value), subA.subL l r → ARL F w ρ l vs → ARL F w ρ r vs
  | [], r, vs, h, hv => by
    cases r with
    | nil => exact hv
    | cons y r => simp only [subA.subL] at h
  | x :: l, r, vs, h, hv => by
    cases r with
    | nil => simp only [subA.subL] at h
    | cons y r =>
      simp only [subA.subL] at h
      simp only [ARL] at hv ⊢
      obtain ⟨v, r', h1, h2, h3⟩ := hv
      exact ⟨v, r', h1, AR.sub x y _ h.1 h2, ARL.sub l r _ h.2 h3⟩
end
theorem subL_length : ∀ {l r : List AV}, subA.subL l r → l.length = r.length
  | [], [], _ => rfl
  | [], _ :: _, h => by simp only [subA.subL] at h
  | _ :: _, [], h => by simp only [subA.subL] at h
  | x :: l, y :: r, h => by simp only [subA.subL] at h; simp [subL_length h.2]
theorem subA_one {x y : AV} (h : subA x y) (h1 : x.one = true) : y.one = true := by
  unfold subA at h
  split at h
  · cases h1
  · cases h1
  · rfl
  · rfl
  · subst h; exact h1
theorem subL_one : ∀ {l r : List AV}, subA.subL l r → (∀ x ∈ l, x.one = true) → ∀ y ∈ r, y.one = true
  | [], [], _, _, y, hy => by cases hy
  | [], _ :: _, h, _, _, _ => by simp only [subA.subL] at h
  | _ :: _, [], h, _, _, _ => by simp only [subA.subL] at h
  | x :: l, y :: r, h, h1, z, hz => by
    simp only [subA.subL] at h
    rcases List.mem_cons.1 hz with rfl | hz
    · exact subA_one h.1 (h1 x (by simp))
    · exact subL_one h.2 (fun x hx => h1 x (by simp [hx])) z hz
theorem subL_append : ∀ {l r l' r' : List AV}, subA.subL l r → subA.subL l' r' → subA.subL (l ++ l') (r ++ r')
  | [], [], _, _, _, h => h
  | [], _ :: _, _, _, h, _ => by simp only [subA.subL] at h
  | _ :: _, [], _, _, h, _ => by simp only [subA.subL] at h
  | x :: l, y :: r, _, _, h, h' => by
    simp only [subA.subL] at h
    simp only [List.cons_append, subA.subL]; exact ⟨h.1, subL_append h.2 h'⟩
theorem subLL_flatten : ∀ {l r : List (List AV)}, subLL l r → subA.subL l.flatten r.flatten
  | [], r, h => by
    have : r = [] := List.eq_nil_of_length_eq_zero h.1.symm
    subst this; simp [subA.subL]
  | c :: l, r, h => by
    match r, h with
    | [], h => have := h.1; simp at this
    | d :: r, h =>
      simp only [List.flatten_cons]
      exact subL_append (h.2 0 c d rfl rfl) (subLL_flatten ⟨by have := h.1; simpa using this, fun i x y h1 h2 => h.2 (i + 1) x y (by simpa using h1) (by simpa using h2)⟩)

theorem HR.sub {n : Nat} {o o' : HObj} (h : subO o o') (hh : HR F w ρ n o) : HR F w ρ n o' := by
  cases o with
  | dead => cases o' <;> (simp only [subO] at h; try cases h) <;> trivial
  | oi e k l => cases o' <;> (simp only [subO] at h; cases h); exact hh
  | oo e sz l =>
    cases o' with
    | oo e' sz' r =>
      simp only [subO] at h
      obtain ⟨rfl, rfl, h⟩ := h
      obtain ⟨lo, xs, h1, h2, h3, h4⟩ := hh
      refine ⟨lo, xs, h1, by rw [← h.1]; exact h2, ARL.sub _ _ _ (subLL_flatten h) h3, fun c hc => ?_⟩
      obtain ⟨i, hi⟩ := List.getElem?_of_mem hc
      have hlt : i < l.length := by rw [h.1]; exact (List.getElem?_eq_some_iff.1 hi).1
      have hs := h.2 i l[i] c (List.getElem?_eq_getElem hlt) hi
      have h5 := h4 _ (List.getElem_mem hlt)
      exact ⟨by rw [← subL_length hs]; exact h5.1, subL_one hs h5.2⟩
    | _ => simp only [subO] at h; cases h
end

theorem subH_get : ∀ {l r : List HObj}, All (subH l r) → l.length = r.length ∧ ∀ n, subO (l.getD n .dead) (r.getD n .dead)
  | [], [], _ => ⟨rfl, fun _ => rfl⟩
  | [], _ :: _, h => h.1.elim
  | _ :: _, [], h => h.1.elim
  | x :: l, y :: r, h => by
    obtain ⟨h1, h2⟩ := subH_get (l := l) (r := r) h.2
    refine ⟨by simp [h1], fun n => ?_⟩
    cases n with
    | zero => exact h.1
    | succ n => exact h2 n
theorem subT_get : ∀ {t r : List (Nat × AV)}, All (subT t r) → ∀ {n : Nat} {y : AV}, look1 r n = some y → ∃ x, look1 t n = some x ∧ subA x y
  | [], [], _, n, y, h => by simp [look1] at h
  | [], _ :: _, h, _, _, _ => h.1.elim
  | _ :: _, [], h, _, _, _ => h.1.elim
  | (i, x) :: t, (j, y) :: r, h, n, z, hz => by
    obtain ⟨h1, h2, h3⟩ := h
    subst h1
    simp only [look1] at hz ⊢
    split
    · rename_i e; rw [if_pos e] at hz; simp only [Option.some.injEq] at hz; subst hz; exact ⟨x, rfl, h2⟩
    · rename_i e; rw [if_neg e] at hz; exact subT_get h3 hz
theorem subO_live {o o' : HObj} (h : subO o o') (hl : o'.live) : o.live := by
  cases o <;> cases o' <;> first | trivial | exact hl | (simp only [subO] at h; cases h)

theorem Ent.sub {L : Lay} {k N : Nat} {st st' : St} (h : All (subT st.t st'.t ++ subH st.h st'.h)) : Ent L k N st st' := fun B a w ρ F hk R => by
  rw [All_append] at h
  obtain ⟨ht, hh⟩ := h
  obtain ⟨hlen, hO⟩ := subH_get hh
  have hlv : ∀ n, (st'.h.getD n .dead).live → (st.h.getD n .dead).live := fun n hl => subO_live (hO n) hl
  refine ⟨ρ, F, R.defers, R.size, fun n x hx => ?_, fun n hn => R.fresh n (by rw [hlen]; exact hn), ⟨fun n => HR.sub (hO n) (R.mem.heap n), fun n m b hne h1 h2 => R.mem.dis n m b hne (hlv n h1) (hlv m h2), fun n b hl => R.mem.notF n b (hlv n hl), fun n b hl => R.mem.own n b (hlv n hl), R.mem.bound, R.mem.fr, R.mem.lay⟩, R.ext0, R.f0, R.f1⟩
  obtain ⟨y, hy, hs⟩ := subT_get ht hx
  obtain ⟨v, hv, hr⟩ := R.slots n y hy
  exact ⟨v, hv, AR.sub _ _ _ hs hr⟩
end Go.Ev
