/-
  The executor is right (9): calls by contract.
-/
import Derived.Test.YtcnklcnehpkfaaaEvK
namespace Go.Ev
open Go Go.RowKit
set_option linter.unusedVariables false
set_option linter.unusedSimpArgs false

theorem renL_length (g : Nat → Nat) : ∀ l : List AV, (renL g l).length = l.length
  | [] => rfl
  | x :: l => by simp [renL, renL_length g l]
theorem renLL_length (g : Nat → Nat) : ∀ l : List (List AV), (renLL g l).length = l.length
  | [] => rfl
  | x :: l => by simp [renLL, renLL_length g l]
theorem one_ren (g : Nat → Nat) (x : AV) : (x.ren g).one = x.one := by cases x <;> simp [AV.ren, AV.one]
theorem renLL_flatten (g : Nat → Nat) : ∀ l : List (List AV), (renLL g l).flatten = renL g l.flatten
  | [] => rfl
  | c :: l => by
    simp only [renLL, List.flatten_cons, renLL_flatten g l]
    have : ∀ a b : List AV, renL g (a ++ b) = renL g a ++ renL g b := by
      intro a b; induction a with
      | nil => rfl
      | cons x a ih => simp [renL, ih]
    rw [this]
theorem mem_renL {g : Nat → Nat} {y : AV} : ∀ {l : List AV}, y ∈ renL g l → ∃ x ∈ l, y = x.ren g
  | [], h => by simp [renL] at h
  | x :: l, h => by
    simp only [renL, List.mem_cons] at h
    rcases h with h | h
    · exact ⟨x, by simp, h⟩
    · obtain ⟨z, h1, h2⟩ := mem_renL h; exact ⟨z, by simp [h1], h2⟩
theorem mem_renLL {g : Nat → Nat} {d : List AV} : ∀ {l : List (List AV)}, d ∈ renLL g l → ∃ c ∈ l, d = renL g c
  | [], h => by simp [renLL] at h
  | x :: l, h => by
    simp only [renLL, List.mem_cons] at h
    rcases h with h | h
    · exact ⟨x, by simp, h⟩
    · obtain ⟨z, h1, h2⟩ := mem_renLL h; exact ⟨z, by simp [h1], h2⟩

section ren
variable {F F' : Nat → Prop} {w : World} {ρ ρ' : Ren}

mutual
/-- The names turned, and less memory that is only read. -/
theorem AR.ren' {g : Nat → Nat} (hg : ∀ n lo, ρ n = some lo → ρ' (g n) = some lo) : ∀ (x : AV) (v : Value), ((∀ b, F b → F' b) ∨ x.nr) → AR F w ρ x v → AR F' w ρ' (x.ren g) v
  | .c _, _, _, h => by simpa [AR, AV.ren] using h
  | .gp _ _, _, _, h => by simpa [AR, AV.ren] using h
  | .p n off, v, _, h => by
    simp only [AR, AV.ren] at h ⊢; obtain ⟨b, sl, h1, h2⟩ := h; exact ⟨b, sl, hg _ _ h1, h2⟩
  | .s n off len cap, v, _, h => by
    simp only [AR, AV.ren] at h ⊢; obtain ⟨lo, h1, h2⟩ := h; exact ⟨lo, hg _ _ h1, h2⟩
  | .x n off len cap, v, _, h => by
    simp only [AR, AV.ren] at h ⊢; obtain ⟨lo, h1, h2⟩ := h; exact ⟨lo, hg _ _ h1, h2⟩
  | .q x off, v, hn, h => by
    have hF : ∀ b, F b → F' b := hn.resolve_right (by simp [AV.nr])
    simp only [AR, AV.ren] at h ⊢; obtain ⟨ad, len, cap, h1, h2⟩ := h; exact ⟨ad, len, cap, AR.ren' hg x _ (.inl hF) h1, h2⟩
  | .ri k l, v, hn, h => by
    have hF : ∀ b, F b → F' b := hn.resolve_right (by simp [AV.nr])
    simp only [AR, AV.ren] at h ⊢; obtain ⟨ao, cap, h1, h2, h3, h0, h4⟩ := h
    refine ⟨ao, cap, h1, h2, h3, h0, fun j x hx => ?_⟩
    obtain ⟨ad, e1, e2, e3⟩ := h4 j x hx
    exact ⟨ad, e1, hF _ e2, e3⟩
  | .rr sz l, v, hn, h => by
    have hF : ∀ b, F b → F' b := hn.resolve_right (by simp [AV.nr])
    simp only [AR, AV.ren] at h ⊢; obtain ⟨ao, cap, h1, h2, h3, h0, h4⟩ := h
    exact ⟨ao, cap, h1, h2, h3, h0, ARR.mono' hF ao sz 0 l h4⟩
  | .a l, v, hn, h => by
    simp only [AR, AV.ren] at h ⊢; obtain ⟨vs, h1, h2⟩ := h; exact ⟨vs, h1, ARL.ren' hg l _ (hn.imp id (by simp [AV.nr])) h2⟩
  | .t l, v, hn, h => by
    simp only [AR, AV.ren] at h ⊢; obtain ⟨vs, h1, h2⟩ := h; exact ⟨vs, h1, ARL.ren' hg l _ (hn.imp id (by simp [AV.nr])) h2⟩
  | .f fn l, v, hn, h => by
    simp only [AR, AV.ren] at h ⊢; obtain ⟨vs, h1, h2⟩ := h; exact ⟨vs, h1, ARL.ren' hg l _ (hn.imp id (by simp [AV.nr])) h2⟩
  | .i ty x, v, hn, h => by
    simp only [AR, AV.ren] at h ⊢; obtain ⟨u, h1, h2⟩ := h; exact ⟨u, h1, AR.ren' hg x _ (hn.imp id (by simp [AV.nr])) h2⟩
  | .g b x, v, hn, h => by
    simp only [AR, AV.ren] at h ⊢
    cases b
    · simpa using h
    · simp only [if_true] at h ⊢; exact AR.ren' hg x _ (hn.imp id (by simp [AV.nr])) h
theorem ARL.ren' {g : Nat → Nat} (hg : ∀ n lo, ρ n = some lo → ρ' (g n) = some lo) : ∀ (l : List AV) (vs : List Value), ((∀ b, F b → F' b) ∨ nrL l) → ARL F w ρ l vs → ARL F' w ρ' (renL g l) vs
  | [], _, _, h => by simpa [ARL, renL] using h
  | x :: l, vs, hn, h => by
    simp only [ARL, renL] at h ⊢; obtain ⟨v, r, h1, h2, h3⟩ := h
    exact ⟨v, r, h1, AR.ren' hg x _ (hn.imp id (by simp only [nrL]; exact And.left)) h2, ARL.ren' hg l _ (hn.imp id (by simp only [nrL]; exact And.right)) h3⟩
theorem ARC.ren' {g : Nat → Nat} (hg : ∀ n lo, ρ n = some lo → ρ' (g n) = some lo) (hF : ∀ b, F b → F' b) {ad : Addr} : ∀ (i : Nat) (l : List AV), ARC F w ρ ad i l → ARC F' w ρ' ad i (renL g l)
  | _, [], _ => by simp [ARC, renL]
  | i, x :: l, h => by
    simp only [ARC, renL] at h ⊢; obtain ⟨⟨h0, v, h1, h2⟩, h3⟩ := h
    exact ⟨⟨by rw [one_ren]; exact h0, v, h1, AR.ren' hg x _ (.inl hF) h2⟩, ARC.ren' hg hF (i + 1) l h3⟩
theorem ARR.ren' {g : Nat → Nat} (hg : ∀ n lo, ρ n = some lo → ρ' (g n) = some lo) (hF : ∀ b, F b → F' b) (ao : Option Addr) (sz : Nat) : ∀ (i : Nat) (l : List (List AV)), ARR F w ρ ao sz i l → ARR F' w ρ' ao sz i (renLL g l)
  | _, [], _ => by simp [ARR, renLL]
  | i, c :: l, h => by
    simp only [ARR, renLL] at h ⊢; obtain ⟨⟨ad, h1, h2, h3, h4⟩, h5⟩ := h
    exact ⟨⟨ad, h1, hF _ h2, by rw [renL_length]; exact h3, ARC.ren' hg hF _ c h4⟩, ARR.ren' hg hF ao sz (i + 1) l h5⟩
end

theorem nrL_flatten : ∀ {l : List (List AV)}, nrLL l → nrL l.flatten
  | [], _ => by simp [nrL]
  | c :: l, h => by
    simp only [nrLL] at h
    simp only [List.flatten_cons]
    have : ∀ a b : List AV, nrL a → nrL b → nrL (a ++ b) := by
      intro a b ha hb; induction a with
      | nil => exact hb
      | cons x a ih => simp only [nrL, List.cons_append] at ha ⊢; exact ⟨ha.1, ih ha.2⟩
    exact this _ _ h.1 (nrL_flatten h.2)

theorem HR.ren' {g : Nat → Nat} (hg : ∀ n lo, ρ n = some lo → ρ' (g n) = some lo) {n : Nat} {o : HObj} (hn : (∀ b, F b → F' b) ∨ o.nr) (hh : HR F w ρ n o) : HR F' w ρ' (g n) (o.ren g) := by
  cases o with
  | dead => trivial
  | oi e k l => obtain ⟨lo, h1, h2⟩ := hh; exact ⟨lo, hg _ _ h1, h2⟩
  | oo e sz l =>
    obtain ⟨lo, xs, h1, h2, h3, h4⟩ := hh
    refine ⟨lo, xs, hg _ _ h1, by rw [renLL_length]; exact h2, ?_, fun d hd => ?_⟩
    · rw [renLL_flatten]; exact ARL.ren' hg _ _ (hn.imp id nrL_flatten) h3
    · obtain ⟨c, hc, rfl⟩ := mem_renLL hd
      refine ⟨by rw [renL_length]; exact (h4 c hc).1, fun y hy => ?_⟩
      obtain ⟨x, hx, rfl⟩ := mem_renL hy
      rw [one_ren]; exact (h4 c hc).2 x hx

mutual
/-- Without names the places don't matter. -/
theorem AR.nl' (hF : ∀ b, F b → F' b) : ∀ (x : AV) (v : Value), x.nl → AR F w ρ x v → AR F' w ρ' x v
  | .c _, _, _, h => by simpa [AR] using h
  | .gp _ _, _, _, h => by simpa [AR] using h
  | .p n off, v, hn, h => by simp [AV.nl] at hn
  | .s n off len cap, v, hn, h => by simp [AV.nl] at hn
  | .x n off len cap, v, hn, h => by simp [AV.nl] at hn
  | .q x off, v, hn, h => by
    simp only [AR] at h ⊢; obtain ⟨ad, len, cap, h1, h2⟩ := h; exact ⟨ad, len, cap, AR.nl' hF x _ (by simpa [AV.nl] using hn) h1, h2⟩
  | .ri k l, v, hn, h => by
    simp only [AR] at h ⊢; obtain ⟨ao, cap, h1, h2, h3, h0, h4⟩ := h
    refine ⟨ao, cap, h1, h2, h3, h0, fun j x hx => ?_⟩
    obtain ⟨ad, e1, e2, e3⟩ := h4 j x hx
    exact ⟨ad, e1, hF _ e2, e3⟩
  | .rr sz l, v, hn, h => by
    simp only [AR] at h ⊢; obtain ⟨ao, cap, h1, h2, h3, h0, h4⟩ := h
    exact ⟨ao, cap, h1, h2, h3, h0, ARR.mono' hF ao sz 0 l h4⟩
  | .a l, v, hn, h => by
    simp only [AR] at h ⊢; obtain ⟨vs, h1, h2⟩ := h; exact ⟨vs, h1, ARL.nl' hF l _ (by simpa [AV.nl] using hn) h2⟩
  | .t l, v, hn, h => by
    simp only [AR] at h ⊢; obtain ⟨vs, h1, h2⟩ := h; exact ⟨vs, h1, ARL.nl' hF l _ (by simpa [AV.nl] using hn) h2⟩
  | .f fn l, v, hn, h => by
    simp only [AR] at h ⊢; obtain ⟨vs, h1, h2⟩ := h; exact ⟨vs, h1, ARL.nl' hF l _ (by simpa [AV.nl] using hn) h2⟩
  | .i ty x, v, hn, h => by
    simp only [AR] at h ⊢; obtain ⟨u, h1, h2⟩ := h; exact ⟨u, h1, AR.nl' hF x _ (by simpa [AV.nl] using hn) h2⟩
  | .g b x, v, hn, h => by
    simp only [AR] at h ⊢
    cases b
    · simpa using h
    · simp only [if_true] at h ⊢; exact AR.nl' hF x _ (by simpa [AV.nl] using hn) h
theorem ARL.nl' (hF : ∀ b, F b → F' b) : ∀ (l : List AV) (vs : List Value), nlL l → ARL F w ρ l vs → ARL F' w ρ' l vs
  | [], _, _, h => by simpa [ARL] using h
  | x :: l, vs, hn, h => by
    simp only [ARL] at h ⊢; simp only [nlL] at hn; obtain ⟨v, r, h1, h2, h3⟩ := h; exact ⟨v, r, h1, AR.nl' hF x _ hn.1 h2, ARL.nl' hF l _ hn.2 h3⟩
theorem ARC.nl' (hF : ∀ b, F b → F' b) {ad : Addr} : ∀ (i : Nat) (l : List AV), nlL l → ARC F w ρ ad i l → ARC F' w ρ' ad i l
  | _, [], _, _ => by simp [ARC]
  | i, x :: l, hn, h => by
    simp only [ARC] at h ⊢; simp only [nlL] at hn; obtain ⟨⟨h0, v, h1, h2⟩, h3⟩ := h
    exact ⟨⟨h0, v, h1, AR.nl' hF x _ hn.1 h2⟩, ARC.nl' hF (i + 1) l hn.2 h3⟩
theorem ARR.nl' (hF : ∀ b, F b → F' b) (ao : Option Addr) (sz : Nat) : ∀ (i : Nat) (l : List (List AV)), nlLL l → ARR F w ρ ao sz i l → ARR F' w ρ' ao sz i l
  | _, [], _, _ => by simp [ARR]
  | i, c :: l, hn, h => by
    simp only [ARR] at h ⊢; simp only [nlLL] at hn; obtain ⟨⟨ad, h1, h2, h3, h4⟩, h5⟩ := h
    exact ⟨⟨ad, h1, hF _ h2, h3, ARC.nl' hF _ c hn.1 h4⟩, ARR.nl' hF ao sz (i + 1) l hn.2 h5⟩
end

theorem nlL_flatten : ∀ {l : List (List AV)}, nlLL l → nlL l.flatten
  | [], _ => by simp [nlL]
  | c :: l, h => by
    simp only [nlLL] at h
    simp only [List.flatten_cons]
    have : ∀ a b : List AV, nlL a → nlL b → nlL (a ++ b) := by
      intro a b ha hb; induction a with
      | nil => exact hb
      | cons x a ih => simp only [nlL, List.cons_append] at ha ⊢; exact ⟨ha.1, ih ha.2⟩
    exact this _ _ h.1 (nlL_flatten h.2)

theorem HR.nl' (hF : ∀ b, F b → F' b) {n m : Nat} {o : HObj} (hn : o.nl) (hnm : ∀ lo, ρ n = some lo → ρ' m = some lo) (hh : HR F w ρ n o) : HR F' w ρ' m o := by
  cases o with
  | dead => trivial
  | oi e k l => obtain ⟨lo, h1, h2⟩ := hh; exact ⟨lo, hnm _ h1, h2⟩
  | oo e sz l =>
    obtain ⟨lo, xs, h1, h2, h3, h4⟩ := hh
    exact ⟨lo, xs, hnm _ h1, h2, ARL.nl' hF _ _ (nlL_flatten hn) h3, h4⟩
end ren

section
variable {P : Program} {L : Lay} {E : Env} {C : Tab} {X : Nat → Prop} {w0 : World} {F : Nat → Prop} {w : World} {ρ : Ren} {h look : Nat → HObj} {fr : Nat} {a : Act} {ev : Operand → Option AV} {o : Oper} {out : Out}

/-- Names that are not told of. -/
def restr (ρ : Ren) (σ : List Nat) : Ren := fun n => if n ∈ σ then ρ n else none
theorem restr_some {ρ : Ren} {σ : List Nat} {n : Nat} {lo : Loc} (h : restr ρ σ n = some lo) : n ∈ σ ∧ ρ n = some lo := by
  unfold restr at h; split at h
  · rename_i e; exact ⟨e, h⟩
  · cases h
theorem restr_mem {ρ : Ren} {σ : List Nat} {n : Nat} (h : n ∈ σ) : restr ρ σ n = ρ n := if_pos h
mutual
theorem AR.restr {σ : List Nat} : ∀ (x : AV) (v : Value), x.ns σ → AR F w ρ x v → AR F w (restr ρ σ) x v
  | .c _, v, _, h => by simpa only [AR] using h
  | .gp _ _, v, _, h => by simpa only [AR] using h
  | .ri k l, v, _, h => by simpa only [AR] using h
  | .p n off, v, hn, h => by
    simp only [AV.ns] at hn; simp only [AR, restr_mem hn] at h ⊢; exact h
  | .s n off len cap, v, hn, h => by
    simp only [AV.ns] at hn; simp only [AR, restr_mem hn] at h ⊢; exact h
  | .x n off len cap, v, hn, h => by
    simp only [AV.ns] at hn; simp only [AR, restr_mem hn] at h ⊢; exact h
  | .q x off, v, hn, h => by
    simp only [AV.ns] at hn
    simp only [AR] at h ⊢; obtain ⟨ad, len, cap, h1, h2⟩ := h; exact ⟨ad, len, cap, AR.restr x _ hn h1, h2⟩
  | .rr sz l, v, hn, h => by
    simpa only [AR] using h
  | .a l, v, hn, h => by
    simp only [AV.ns] at hn
    simp only [AR] at h ⊢; obtain ⟨vs, h1, h2⟩ := h; exact ⟨vs, h1, ARL.restr l _ hn h2⟩
  | .t l, v, hn, h => by
    simp only [AV.ns] at hn
    simp only [AR] at h ⊢; obtain ⟨vs, h1, h2⟩ := h; exact ⟨vs, h1, ARL.restr l _ hn h2⟩
  | .f fn l, v, hn, h => by
    simp only [AV.ns] at hn
    simp only [AR] at h ⊢; obtain ⟨vs, h1, h2⟩ := h; exact ⟨vs, h1, ARL.restr l _ hn h2⟩
  | .i ty x, v, hn, h => by
    simp only [AV.ns] at hn
    simp only [AR] at h ⊢; obtain ⟨u, h1, h2⟩ := h; exact ⟨u, h1, AR.restr x _ hn h2⟩
  | .g b x, v, hn, h => by
    simp only [AV.ns] at hn
    simp only [AR] at h ⊢
    cases b
    · exact h
    · simp only [if_true] at h ⊢; exact AR.restr x _ hn h
theorem ARL.restr {σ : List Nat} : ∀ (l : List AV) (vs : List Value), nsL σ l → ARL F w ρ l vs → ARL F w (restr ρ σ) l vs
  | [], _, _, h => by simpa only [ARL] using h
  | x :: l, vs, hn, h => by
    simp only [nsL] at hn
    simp only [ARL] at h ⊢; obtain ⟨v, r, h1, h2, h3⟩ := h; exact ⟨v, r, h1, AR.restr x _ hn.1 h2, ARL.restr l _ hn.2 h3⟩
theorem ARC.restr {σ : List Nat} {ad : Addr} : ∀ (i : Nat) (l : List AV), nsL σ l → ARC F w ρ ad i l → ARC F w (restr ρ σ) ad i l
  | _, [], _, _ => by simp [ARC]
  | i, x :: l, hn, h => by
    simp only [nsL] at hn
    simp only [ARC] at h ⊢; obtain ⟨⟨h0, v, h1, h2⟩, h3⟩ := h
    exact ⟨⟨h0, v, h1, AR.restr x _ hn.1 h2⟩, ARC.restr (i + 1) l hn.2 h3⟩
theorem ARR.restr {σ : List Nat} (ao : Option Addr) (sz : Nat) : ∀ (i : Nat) (l : List (List AV)), nsLL σ l → ARR F w ρ ao sz i l → ARR F w (restr ρ σ) ao sz i l
  | _, [], _, _ => by simp [ARR]
  | i, c :: l, hn, h => by
    simp only [nsLL] at hn
    simp only [ARR] at h ⊢; obtain ⟨⟨ad, h1, h2, h3, h4⟩, h5⟩ := h
    exact ⟨⟨ad, h1, h2, h3, ARC.restr _ c hn.1 h4⟩, ARR.restr ao sz (i + 1) l hn.2 h5⟩
end
theorem nsL_flatten {σ : List Nat} : ∀ {l : List (List AV)}, nsLL σ l → nsL σ l.flatten
  | [], _ => by simp [nsL]
  | c :: l, h => by
    simp only [nsLL] at h
    have app : ∀ (a b : List AV), nsL σ a → nsL σ b → nsL σ (a ++ b) := by
      intro a; induction a with
      | nil => intro b _ h; exact h
      | cons x a ih => intro b h1 h2; simp only [nsL] at h1; simp only [List.cons_append, nsL]; exact ⟨h1.1, ih b h1.2 h2⟩
    simp only [List.flatten_cons]; exact app _ _ h.1 (nsL_flatten h.2)
theorem HR.restr {σ : List Nat} {n : Nat} {o : HObj} (hn : n ∈ σ) (hs : o.ns σ) (h : HR F w ρ n o) : HR F w (restr ρ σ) n o := by
  cases o with
  | dead => trivial
  | oi e k l => obtain ⟨lo, h1, h2⟩ := h; exact ⟨lo, by rw [restr_mem hn]; exact h1, h2⟩
  | oo e sz l =>
    obtain ⟨lo, xs, h1, h2, h3, h4⟩ := h
    exact ⟨lo, xs, by rw [restr_mem hn]; exact h1, h2, ARL.restr _ _ (nsL_flatten hs) h3, h4⟩

theorem look2_zip {α : Type} : ∀ {σ : List Nat} {l : List α} {i : Nat} {x : α}, σ.Nodup → l[i]? = some x → (hi : i < σ.length) → look2 (σ.zip l) σ[i] = some x
  | [], _, _, _, _, _, hi => by simp at hi
  | n :: σ, [], i, x, _, hx, _ => by simp at hx
  | n :: σ, y :: l, 0, x, _, hx, _ => by simp at hx; simp [look2, hx]
  | n :: σ, y :: l, i + 1, x, hnd, hx, hi => by
    simp only [List.nodup_cons] at hnd
    have hi' : i < σ.length := by simpa using hi
    have hne : n ≠ σ[i] := fun e => hnd.1 (by rw [e]; exact List.getElem_mem hi')
    simp only [List.zip_cons_cons, look2, List.getElem_cons_succ, if_neg hne]
    exact look2_zip hnd.2 (by simpa using hx) hi'

theorem look2_none {α : Type} : ∀ {σ : List Nat} {l : List α} {n : Nat}, n ∉ σ → look2 (σ.zip l) n = none
  | [], _, _, _ => by simp [look2]
  | _ :: _, [], _, _ => by simp [look2]
  | m :: σ, y :: l, n, h => by
    simp only [List.mem_cons, not_or] at h
    simp only [List.zip_cons_cons, look2, if_neg (Ne.symm h.1)]
    exact look2_none h.2

theorem HObj.live_ren {g : Nat → Nat} {o : HObj} : (o.ren g).live ↔ o.live := by cases o <;> simp [HObj.ren, HObj.live]

/-- What a contract leaves, seen by the caller. -/
theorem call_post (M : Mem L X w0 F w ρ h) {σ : List Nat} (hnd : σ.Nodup) (hσ : ∀ n ∈ σ, (h n).live) {F0 : Nat → Prop} {ρ0 : Ren} (hF0 : ∀ b, F b → F0 b) (hρ0 : ∀ i (hi : i < σ.length), ρ0 i = ρ σ[i])
    {hout : List HObj} {res : AV} {os : List Prop} (hlen : σ.length ≤ hout.length) (hfr : ∀ n, fr ≤ n → n < fr + (hout.length - σ.length) → ρ n = none)
    (hnr : (∀ b, F0 b → F b) ∨ (res.nr ∧ ∀ o ∈ hout, o.nr))
    {v : Value} {F1 : Nat → Prop} {ρ1 : Ren} {w' : World} (hF1 : ∀ b, F0 b → F1 b) (hF1' : ∀ b, F1 b → F0 b ∨ w.heap.size ≤ b) (hext : ∀ n lo, ρ0 n = some lo → ρ1 n = some lo) (hend : ∀ n, n ≥ hout.length → ρ1 n = none)
    (M1 : Mem L (fun b => ∃ n, n ∈ σ ∧ blkOf ρ n = some b) w F1 w' ρ1 (fun n => hout.getD n .dead)) (hv : AR F1 w' ρ1 res v) :
    ∃ ρ' F', Post L X w0 F w ρ h fr ⟨res.ren (fun n => if n < σ.length then σ.getD n 0 else fr + (n - σ.length)), σ.zip ((hout.take σ.length).map (·.ren (fun n => if n < σ.length then σ.getD n 0 else fr + (n - σ.length)))), (hout.drop σ.length).map (·.ren (fun n => if n < σ.length then σ.getD n 0 else fr + (n - σ.length))), os⟩ v w' ρ' F' := by
  generalize hg : (fun n => if n < σ.length then σ.getD n 0 else fr + (n - σ.length)) = g
  let ρ' : Ren := fun n => if fr ≤ n ∧ n < fr + (hout.length - σ.length) then ρ1 (σ.length + (n - fr)) else ρ n
  let F' : Nat → Prop := fun b => F b ∨ (w.heap.size ≤ b ∧ F1 b)
  have hstay : ∀ b, F b → w'.heap[b]? = w.heap[b]? := fun b hb => M1.fr.block b (M.bound b hb) fun ⟨n, hn, hbn⟩ => M.notF n b (hσ n hn) hbn hb
  have hρext : ∀ n lo, ρ n = some lo → ρ' n = some lo := fun n lo hn => by
    show (if _ then _ else _) = _
    split
    · rename_i hr; rw [hfr n hr.1 hr.2] at hn; cases hn
    · exact hn
  have hgr : ∀ n lo, ρ1 n = some lo → ρ' (g n) = some lo := fun n lo hn => by
    subst hg
    by_cases hi : n < σ.length
    · simp only [if_pos hi]
      have e : σ.getD n 0 = σ[n] := by simp [List.getD, hi]
      rw [e]
      obtain ⟨lo', hl', _⟩ := (M.heap σ[n]).loc (hσ _ (List.getElem_mem hi))
      have := hext n lo' (by rw [hρ0 n hi]; exact hl')
      rw [hn] at this; obtain rfl := Option.some.inj this
      exact hρext _ _ hl'
    · simp only [if_neg hi]
      have hlt : n < hout.length := by
        rcases Nat.lt_or_ge n hout.length with h | h
        · exact h
        · rw [hend n h] at hn; cases hn
      show (if _ then _ else _) = _
      rw [if_pos (by omega), show σ.length + (fr + (n - σ.length) - fr) = n from by omega]
      exact hn
  have hF1F : (∀ b, F0 b → F b) → ∀ b, F1 b → F' b := fun hh b hb => (hF1' b hb).elim (fun h => .inl (hh b h)) fun h => .inr ⟨h, hb⟩
  have hnames : ∀ n, ¬ (fr ≤ n ∧ n < fr + (hout.length - σ.length)) → ρ' n = ρ n := fun n hn => if_neg hn
  have hnews : ((hout.drop σ.length).map (·.ren g)).length = hout.length - σ.length := by simp
  -- what lies under a name behind the call
  have heff1 : ∀ i (hi : i < σ.length), eff h fr (σ.zip ((hout.take σ.length).map (·.ren g))) ((hout.drop σ.length).map (·.ren g)) σ[i] = (hout.getD i .dead).ren g := fun i hi => by
    have hx : ((hout.take σ.length).map (·.ren g))[i]? = some ((hout.getD i .dead).ren g) := by
      have : i < hout.length := by omega
      simp [hi, this, List.getD]
    simp only [eff, look2_zip hnd hx hi]
  have heff2 : ∀ j, σ.length ≤ j → j < hout.length → (fr + (j - σ.length)) ∉ σ → eff h fr (σ.zip ((hout.take σ.length).map (·.ren g))) ((hout.drop σ.length).map (·.ren g)) (fr + (j - σ.length)) = (hout.getD j .dead).ren g := fun j h1 h2 h3 => by
    simp only [eff, look2_none h3, hnews]
    rw [if_pos (by omega)]
    have e2 : σ.length + (j - σ.length) = j := by omega
    simp [List.getD, e2, h2]
  have heff3 : ∀ n, n ∉ σ → ¬ (fr ≤ n ∧ n < fr + (hout.length - σ.length)) → eff h fr (σ.zip ((hout.take σ.length).map (·.ren g))) ((hout.drop σ.length).map (·.ren g)) n = h n := fun n h1 h2 => by
    simp only [eff, look2_none h1, hnews]; rw [if_neg h2]
  have hσfr : ∀ n ∈ σ, ¬ (fr ≤ n ∧ n < fr + (hout.length - σ.length)) := fun n hn hr => M.dead (hfr n hr.1 hr.2) (hσ n hn)
  -- each name behind the call is one of the callee's, or an old one
  have hcase : ∀ n, (∃ i, i < hout.length ∧ n = g i ∧ eff h fr (σ.zip ((hout.take σ.length).map (·.ren g))) ((hout.drop σ.length).map (·.ren g)) n = (hout.getD i .dead).ren g) ∨ (n ∉ σ ∧ ρ' n = ρ n ∧ eff h fr (σ.zip ((hout.take σ.length).map (·.ren g))) ((hout.drop σ.length).map (·.ren g)) n = h n) := fun n => by
    by_cases hn : n ∈ σ
    · obtain ⟨i, hi, rfl⟩ := List.getElem_of_mem hn
      refine .inl ⟨i, by omega, ?_, heff1 i hi⟩
      subst hg; simp [hi, List.getD]
    · by_cases hr : fr ≤ n ∧ n < fr + (hout.length - σ.length)
      · refine .inl ⟨σ.length + (n - fr), by omega, ?_, ?_⟩
        · subst hg; simp only; rw [if_neg (by omega)]; omega
        · have := heff2 (σ.length + (n - fr)) (by omega) (by omega) (by rw [show fr + (σ.length + (n - fr) - σ.length) = n from by omega]; exact hn)
          rwa [show fr + (σ.length + (n - fr) - σ.length) = n from by omega] at this
      · exact .inr ⟨hn, hnames n hr, heff3 n hn hr⟩
  have hginj : ∀ i j, i < hout.length → j < hout.length → g i = g j → i = j := fun i j hi hj e => by
    subst hg
    simp only at e
    by_cases h1 : i < σ.length <;> by_cases h2 : j < σ.length
    · rw [if_pos h1, if_pos h2] at e
      simp only [List.getD, List.getElem?_eq_getElem h1, List.getElem?_eq_getElem h2, Option.getD_some] at e
      exact (List.getElem_inj hnd).1 e
    · rw [if_pos h1, if_neg h2] at e
      exfalso
      have : σ.getD i 0 ∈ σ := by simp [List.getD, h1]
      exact hσfr _ this (by rw [e]; omega)
    · rw [if_neg h1, if_pos h2] at e
      exfalso
      have : σ.getD j 0 ∈ σ := by simp [List.getD, h2]
      exact hσfr _ this (by rw [← e]; omega)
    · rw [if_neg h1, if_neg h2] at e; omega
  have hnewblk : ∀ i b, i < hout.length → (hout.getD i .dead).live → blkOf ρ' (g i) = some b → blkOf ρ1 i = some b ∧ (w.heap.size ≤ b ∨ ∃ n ∈ σ, blkOf ρ n = some b) := fun i b hi hl hb => by
    obtain ⟨lo, h1, _⟩ := (M1.heap i).loc hl
    have h2 := hgr i lo h1
    have h3 : blkOf ρ1 i = some b := by simpa [blkOf, h1, h2] using hb
    exact ⟨h3, M1.own i b hl h3⟩
  have holdblk : ∀ n b, n ∉ σ → ρ' n = ρ n → (h n).live → blkOf ρ' n = some b → blkOf ρ n = some b ∧ b < w.heap.size ∧ (∀ m ∈ σ, blkOf ρ m ≠ some b) := fun n b h1 h2 h3 h4 => by
    have h5 : blkOf ρ n = some b := by simpa [blkOf, h2] using h4
    exact ⟨h5, M.blk_lt h3 h5, fun m hm hb => M.dis n m b (fun e => h1 (e ▸ hm)) h3 (hσ m hm) h5 hb⟩
  refine ⟨ρ', F', fun b hb => ⟨.inl hb, hstay b hb⟩, hρext, fun b hb => hb.imp id fun h => Nat.le_trans M.fr.size h.1, fun n hn => hnames n (by rw [hnews] at hn; exact hn), ⟨fun n => ?_, fun n1 n2 b hne hl1 hl2 hb1 hb2 => ?_, fun n b hl hb hFb => ?_, fun n b hl hb => ?_, fun b hb => ?_, ?_, ?_⟩, ?_⟩
  · rcases hcase n with ⟨i, hi, e1, e2⟩ | ⟨h1, h2, h3⟩
    · rw [e2, e1]
      refine HR.ren' hgr (hnr.imp hF1F fun hn => ?_) (M1.heap i)
      have : hout.getD i .dead = hout[i] := by simp [List.getD, hi]
      rw [this]; exact hn.2 _ (List.getElem_mem hi)
    · rw [h3]
      refine (M.heap n).mono (fun b hb => ⟨.inl hb, hstay b hb⟩) hρext fun hl b hb => ?_
      have hb' : blkOf ρ' n = some b := by simp only [blkOf, h2]; exact hb
      obtain ⟨_, h5, h6⟩ := holdblk n b h1 h2 hl hb'
      exact M1.fr.block b h5 fun ⟨m, hm, hbm⟩ => h6 m hm hbm
  · rcases hcase n1 with ⟨i, hi, e1, e2⟩ | ⟨h1, h2, h3⟩ <;> rcases hcase n2 with ⟨j, hj, e3, e4⟩ | ⟨h4, h5, h6⟩
    · rw [e2, HObj.live_ren] at hl1; rw [e4, HObj.live_ren] at hl2
      rw [e1] at hb1; rw [e3] at hb2
      exact M1.dis i j b (fun e => hne (by rw [e1, e3, e])) hl1 hl2 (hnewblk i b hi hl1 hb1).1 (hnewblk j b hj hl2 hb2).1
    · rw [e2, HObj.live_ren] at hl1; rw [h6] at hl2
      rw [e1] at hb1
      obtain ⟨_, q1⟩ := hnewblk i b hi hl1 hb1
      obtain ⟨_, q2, q3⟩ := holdblk n2 b h4 h5 hl2 hb2
      rcases q1 with q1 | ⟨m, hm, hbm⟩
      · omega
      · exact q3 m hm hbm
    · rw [h3] at hl1; rw [e4, HObj.live_ren] at hl2
      rw [e3] at hb2
      obtain ⟨_, q1⟩ := hnewblk j b hj hl2 hb2
      obtain ⟨_, q2, q3⟩ := holdblk n1 b h1 h2 hl1 hb1
      rcases q1 with q1 | ⟨m, hm, hbm⟩
      · omega
      · exact q3 m hm hbm
    · rw [h3] at hl1; rw [h6] at hl2
      exact M.dis n1 n2 b hne hl1 hl2 (holdblk n1 b h1 h2 hl1 hb1).1 (holdblk n2 b h4 h5 hl2 hb2).1
  · rcases hcase n with ⟨i, hi, e1, e2⟩ | ⟨h1, h2, h3⟩
    · rw [e2, HObj.live_ren] at hl
      rw [e1] at hb
      obtain ⟨q0, q1⟩ := hnewblk i b hi hl hb
      have hnF1 := M1.notF i b hl q0
      rcases hFb with hFb | hFb
      · exact hnF1 (hF1 b (hF0 b hFb))
      · exact hnF1 hFb.2
    · rw [h3] at hl
      obtain ⟨q1, q2, _⟩ := holdblk n b h1 h2 hl hb
      rcases hFb with hFb | hFb
      · exact M.notF n b hl q1 hFb
      · omega
  · rcases hcase n with ⟨i, hi, e1, e2⟩ | ⟨h1, h2, h3⟩
    · rw [e2, HObj.live_ren] at hl
      rw [e1] at hb
      obtain ⟨_, q1⟩ := hnewblk i b hi hl hb
      rcases q1 with q1 | ⟨m, hm, hbm⟩
      · left; have := M.fr.size; omega
      · exact M.own m b (hσ m hm) hbm
    · rw [h3] at hl
      exact M.own n b hl (holdblk n b h1 h2 hl hb).1
  · rcases hb with hb | hb
    · exact Nat.lt_of_lt_of_le (M.bound b hb) M1.fr.size
    · exact M1.bound b hb.2
  · refine ⟨M1.fr.os.trans M.fr.os, M1.fr.tape.trans M.fr.tape, M1.fr.output.trans M.fr.output, Nat.le_trans M.fr.size M1.fr.size, fun k hk hx => ?_⟩
    rw [← M.fr.block k hk hx]
    refine M1.fr.block k (Nat.lt_of_lt_of_le hk M.fr.size) fun ⟨m, hm, hbm⟩ => ?_
    rcases M.own m k (hσ m hm) hbm with q | q
    · omega
    · exact hx q
  · exact M.lay.mono fun b hb => ⟨.inl hb, hstay b hb⟩
  · exact AR.ren' hgr _ _ (hnr.imp hF1F And.left) hv
end
end Go.Ev
