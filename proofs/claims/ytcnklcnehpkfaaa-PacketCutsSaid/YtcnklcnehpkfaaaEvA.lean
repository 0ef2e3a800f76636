/-
  A symbolic executor for Go's code with a proof that it is right: abstract values, abstract memory, and what they stand for in a world. No program in sight.
-/
import Derived.WalkKit
import Derived.Orders
namespace Go.Ev
open Go Go.RowKit
set_option linter.unusedVariables false
set_option linter.unusedSimpArgs false

/-- Where a name's block lies; how many spare elements lie behind its row. -/
structure Loc where
  blk : Option Nat
  slack : Nat

abbrev Ren := Nat → Option Loc

/-- Abstract values. -/
inductive AV where
  | c (v : Value)
  | p (n off : Nat)
  | gp (g off : Nat)
  | s (n off len cap : Nat)
  | x (n off len cap : Nat)
  | q (x : AV) (off : Nat)
  | ri (k : IntKind) (l : List Int)
  | rr (sz : Nat) (l : List (List AV))
  | a (l : List AV)
  | t (l : List AV)
  | f (fn : Nat) (cap : List AV)
  | i (ty : Nat) (v : AV)
  | g (b : Bool) (v : AV)
  deriving Inhabited

/-- It fits into one cell. -/
def AV.one : AV → Bool
  | .c v => v.oneCell'
  | .a _ | .t _ | .g _ _ => false
  | _ => true

mutual
/-- What an abstract value stands for: F: the blocks that are never written any more. -/
def AR (F : Nat → Prop) (w : World) (ρ : Ren) : AV → Value → Prop
  | .c x, v => v = x
  | .p n off, v => ∃ b sl, ρ n = some ⟨some b, sl⟩ ∧ v = .pointer (some ⟨b, off, none⟩)
  | .gp g off, v => v = .pointer (some ⟨g, off, none⟩)
  | .s n off len cap, v => ∃ lo, ρ n = some lo ∧ v = .slice (lo.blk.map fun b => ⟨b, off, none⟩) len (cap + lo.slack)
  | .x n off len cap, v => ∃ lo, ρ n = some lo ∧ v = .slice (lo.blk.map fun b => ⟨b, off, none⟩) len cap
  | .q x off, v => ∃ ad len cap, AR F w ρ x (.slice (some ad) len cap) ∧ v = .pointer (some (ad.add off))
  | .ri k l, v => ∃ ao cap, v = .slice ao l.length cap ∧ l.length ≤ cap ∧ cap ≤ maxLen ∧ (ao = none → cap = 0) ∧ ∀ j x, l[j]? = some x → ∃ ad, ao = some ad ∧ F ad.block ∧ w.cell? (ad.add j) = some (.int k x)
  | .rr sz l, v => ∃ ao cap, v = .slice ao l.length cap ∧ l.length ≤ cap ∧ cap ≤ maxLen ∧ (ao = none → cap = 0) ∧ ARR F w (fun _ => none) ao sz 0 l
  | .a l, v => ∃ vs, v = .agg vs ∧ ARL F w ρ l vs.toList
  | .t l, v => ∃ vs, v = .tuple vs ∧ ARL F w ρ l vs.toList
  | .f fn cap, v => ∃ vs, v = .func (.func fn) #[] vs ∧ ARL F w ρ cap vs.toList
  | .i ty x, v => ∃ u, v = .iface ty u ∧ AR F w ρ x u
  | .g b x, v => if b then AR F w ρ x v else v = undef
def ARL (F : Nat → Prop) (w : World) (ρ : Ren) : List AV → List Value → Prop
  | [], vs => vs = []
  | x :: l, vs => ∃ v r, vs = v :: r ∧ AR F w ρ x v ∧ ARL F w ρ l r
/-- The cells from 'ad + i' on. -/
def ARC (F : Nat → Prop) (w : World) (ρ : Ren) (ad : Addr) : Nat → List AV → Prop
  | _, [] => True
  | i, x :: l => (x.one = true ∧ ∃ v, w.cell? (ad.add i) = some v ∧ AR F w ρ x v) ∧ ARC F w ρ ad (i + 1) l
def ARR (F : Nat → Prop) (w : World) (ρ : Ren) (ao : Option Addr) (sz : Nat) : Nat → List (List AV) → Prop
  | _, [] => True
  | i, c :: l => (∃ ad, ao = some ad ∧ F ad.block ∧ c.length = sz ∧ ARC F w ρ ad (i * sz) c) ∧ ARR F w ρ ao sz (i + 1) l
end

section mono
variable {F F' : Nat → Prop} {w w' : World} {ρ ρ' : Ren}

theorem cell_F (hF : ∀ b, F b → F' b ∧ w'.heap[b]? = w.heap[b]?) {ad : Addr} (h : F ad.block) (j : Nat) : w'.cell? (ad.add j) = w.cell? (ad.add j) := by
  have : (ad.add j).block = ad.block := by unfold Addr.add; split <;> rfl
  exact World.cell?_of_block (by rw [this]; exact (hF _ h).2)

mutual
theorem AR.mono {ρ ρ' : Ren} (hF : ∀ b, F b → F' b ∧ w'.heap[b]? = w.heap[b]?) (hρ : ∀ n lo, ρ n = some lo → ρ' n = some lo) : ∀ (x : AV) (v : Value), AR F w ρ x v → AR F' w' ρ' x v
  | .c _, _, h => by simpa [AR] using h
  | .p n off, v, h => by
    simp only [AR] at h ⊢; obtain ⟨b, sl, h1, h2⟩ := h; exact ⟨b, sl, hρ _ _ h1, h2⟩
  | .gp _ _, _, h => by simpa [AR] using h
  | .s n off len cap, v, h => by
    simp only [AR] at h ⊢; obtain ⟨lo, h1, h2⟩ := h; exact ⟨lo, hρ _ _ h1, h2⟩
  | .x n off len cap, v, h => by
    simp only [AR] at h ⊢; obtain ⟨lo, h1, h2⟩ := h; exact ⟨lo, hρ _ _ h1, h2⟩
  | .q x off, v, h => by
    simp only [AR] at h ⊢; obtain ⟨ad, len, cap, h1, h2⟩ := h; exact ⟨ad, len, cap, AR.mono hF hρ x _ h1, h2⟩
  | .ri k l, v, h => by
    simp only [AR] at h ⊢; obtain ⟨ao, cap, h1, h2, h3, h0, h4⟩ := h
    refine ⟨ao, cap, h1, h2, h3, h0, fun j x hx => ?_⟩
    obtain ⟨ad, e1, e2, e3⟩ := h4 j x hx
    exact ⟨ad, e1, (hF _ e2).1, by rw [cell_F hF e2]; exact e3⟩
  | .rr sz l, v, h => by
    simp only [AR] at h ⊢; obtain ⟨ao, cap, h1, h2, h3, h0, h4⟩ := h
    exact ⟨ao, cap, h1, h2, h3, h0, ARR.mono hF (fun _ _ h => h) ao sz 0 l h4⟩
  | .a l, v, h => by
    simp only [AR] at h ⊢; obtain ⟨vs, h1, h2⟩ := h; exact ⟨vs, h1, ARL.mono hF hρ l _ h2⟩
  | .t l, v, h => by
    simp only [AR] at h ⊢; obtain ⟨vs, h1, h2⟩ := h; exact ⟨vs, h1, ARL.mono hF hρ l _ h2⟩
  | .f fn l, v, h => by
    simp only [AR] at h ⊢; obtain ⟨vs, h1, h2⟩ := h; exact ⟨vs, h1, ARL.mono hF hρ l _ h2⟩
  | .i ty x, v, h => by
    simp only [AR] at h ⊢; obtain ⟨u, h1, h2⟩ := h; exact ⟨u, h1, AR.mono hF hρ x _ h2⟩
  | .g b x, v, h => by
    simp only [AR] at h ⊢
    cases b
    · simpa using h
    · simp only [if_true] at h ⊢; exact AR.mono hF hρ x _ h
theorem ARL.mono {ρ ρ' : Ren} (hF : ∀ b, F b → F' b ∧ w'.heap[b]? = w.heap[b]?) (hρ : ∀ n lo, ρ n = some lo → ρ' n = some lo) : ∀ (l : List AV) (vs : List Value), ARL F w ρ l vs → ARL F' w' ρ' l vs
  | [], _, h => by simpa [ARL] using h
  | x :: l, vs, h => by
    simp only [ARL] at h ⊢; obtain ⟨v, r, h1, h2, h3⟩ := h; exact ⟨v, r, h1, AR.mono hF hρ x _ h2, ARL.mono hF hρ l _ h3⟩
theorem ARC.mono {ρ ρ' : Ren} (hF : ∀ b, F b → F' b ∧ w'.heap[b]? = w.heap[b]?) (hρ : ∀ n lo, ρ n = some lo → ρ' n = some lo) {ad : Addr} (had : F ad.block) : ∀ (i : Nat) (l : List AV), ARC F w ρ ad i l → ARC F' w' ρ' ad i l
  | _, [], _ => by simp [ARC]
  | i, x :: l, h => by
    simp only [ARC] at h ⊢; obtain ⟨⟨h0, v, h1, h2⟩, h3⟩ := h
    exact ⟨⟨h0, v, by rw [cell_F hF had]; exact h1, AR.mono hF hρ x _ h2⟩, ARC.mono hF hρ had (i + 1) l h3⟩
theorem ARR.mono {ρ ρ' : Ren} (hF : ∀ b, F b → F' b ∧ w'.heap[b]? = w.heap[b]?) (hρ : ∀ n lo, ρ n = some lo → ρ' n = some lo) (ao : Option Addr) (sz : Nat) : ∀ (i : Nat) (l : List (List AV)), ARR F w ρ ao sz i l → ARR F' w' ρ' ao sz i l
  | _, [], _ => by simp [ARR]
  | i, c :: l, h => by
    simp only [ARR] at h ⊢; obtain ⟨⟨ad, h1, h2, h3, h4⟩, h5⟩ := h
    exact ⟨⟨ad, h1, (hF _ h2).1, h3, ARC.mono hF hρ h2 _ c h4⟩, ARR.mono hF hρ ao sz (i + 1) l h5⟩
end
theorem ARR.mono' (hF : ∀ b, F b → F' b) (ao : Option Addr) (sz : Nat) (i : Nat) (l : List (List AV)) (h : ARR F w ρ ao sz i l) : ARR F' w ρ ao sz i l := ARR.mono (fun b hb => ⟨hF b hb, rfl⟩) (fun _ _ h => h) ao sz i l h
end mono

theorem ARL.nil_iff {F : Nat → Prop} {w : World} {ρ : Ren} {vs : List Value} : ARL F w ρ [] vs ↔ vs = [] := by simp [ARL]

theorem ARL.length {F : Nat → Prop} {w : World} {ρ : Ren} : ∀ {l : List AV} {vs : List Value}, ARL F w ρ l vs → vs.length = l.length
  | [], vs, h => by simp only [ARL] at h; simp [h]
  | x :: l, vs, h => by
    simp only [ARL] at h; obtain ⟨v, r, rfl, _, h3⟩ := h; simp [ARL.length h3]

theorem ARL.get {F : Nat → Prop} {w : World} {ρ : Ren} : ∀ {l : List AV} {vs : List Value}, ARL F w ρ l vs → ∀ (i : Nat) (x : AV), l[i]? = some x → ∃ v, vs[i]? = some v ∧ AR F w ρ x v
  | [], vs, _, i, x, hx => by simp at hx
  | y :: l, vs, h, i, x, hx => by
    simp only [ARL] at h; obtain ⟨v, r, rfl, h2, h3⟩ := h
    cases i with
    | zero => simp at hx; subst hx; exact ⟨v, by simp, h2⟩
    | succ i => simp at hx; obtain ⟨u, hu, hr⟩ := h3.get i x hx; exact ⟨u, by simpa using hu, hr⟩

theorem ARL.of_get {F : Nat → Prop} {w : World} {ρ : Ren} : ∀ {l : List AV} {vs : List Value}, vs.length = l.length → (∀ (i : Nat) (x : AV), l[i]? = some x → ∃ v, vs[i]? = some v ∧ AR F w ρ x v) → ARL F w ρ l vs
  | [], vs, hl, _ => by simp at hl; simp [ARL, hl]
  | y :: l, vs, hl, h => by
    match vs, hl with
    | v :: r, hl =>
      obtain ⟨u, hu, hr⟩ := h 0 y (by simp)
      simp at hu; subst hu
      simp only [ARL]
      exact ⟨v, r, rfl, hr, ARL.of_get (by simpa using hl) (fun i x hx => by simpa using h (i + 1) x (by simpa using hx))⟩

theorem ARL.append {F : Nat → Prop} {w : World} {ρ : Ren} : ∀ {l l' : List AV} {vs vs' : List Value}, ARL F w ρ l vs → ARL F w ρ l' vs' → ARL F w ρ (l ++ l') (vs ++ vs')
  | [], _, vs, _, h, h' => by simp only [ARL] at h; subst h; simpa using h'
  | x :: l, _, vs, _, h, h' => by
    simp only [ARL] at h; obtain ⟨v, r, rfl, h2, h3⟩ := h
    simp only [List.cons_append, ARL]; exact ⟨v, _, rfl, h2, h3.append h'⟩

theorem ARC.get {F : Nat → Prop} {w : World} {ρ : Ren} {ad : Addr} : ∀ {i : Nat} {l : List AV}, ARC F w ρ ad i l → ∀ j x, l[j]? = some x → x.one = true ∧ ∃ v, w.cell? (ad.add (i + j)) = some v ∧ AR F w ρ x v
  | _, [], _, j, x, hx => by simp at hx
  | i, y :: l, h, j, x, hx => by
    simp only [ARC] at h; obtain ⟨⟨h0, v, h1, h2⟩, h3⟩ := h
    cases j with
    | zero => simp at hx; subst hx; exact ⟨h0, v, h1, h2⟩
    | succ j => simp at hx; have := h3.get j x hx; rwa [show i + 1 + j = i + (j + 1) from by omega] at this

theorem ARC.of_get {F : Nat → Prop} {w : World} {ρ : Ren} {ad : Addr} : ∀ {i : Nat} {l : List AV}, (∀ (j : Nat) (x : AV), l[j]? = some x → x.one = true ∧ ∃ v, w.cell? (ad.add (i + j)) = some v ∧ AR F w ρ x v) → ARC F w ρ ad i l
  | _, [], _ => by simp [ARC]
  | i, y :: l, h => by
    simp only [ARC]
    refine ⟨by simpa using h 0 y (by simp), ARC.of_get fun j x hx => ?_⟩
    have := h (j + 1) x (by simpa using hx)
    rwa [show i + (j + 1) = i + 1 + j from by omega] at this

theorem ARR.get {F : Nat → Prop} {w : World} {ρ : Ren} {ao : Option Addr} {sz : Nat} : ∀ {i : Nat} {l : List (List AV)}, ARR F w ρ ao sz i l → ∀ j c, l[j]? = some c → ∃ ad, ao = some ad ∧ F ad.block ∧ c.length = sz ∧ ARC F w ρ ad ((i + j) * sz) c
  | _, [], _, j, x, hx => by simp at hx
  | i, y :: l, h, j, x, hx => by
    simp only [ARR] at h; obtain ⟨⟨ad, h1, h2⟩, h3⟩ := h
    cases j with
    | zero => simp at hx; subst hx; exact ⟨ad, h1, h2⟩
    | succ j => simp at hx; have := h3.get j x hx; rwa [show i + 1 + j = i + (j + 1) from by omega] at this

theorem ARR.of_get {F : Nat → Prop} {w : World} {ρ : Ren} {ao : Option Addr} {sz : Nat} : ∀ {i : Nat} {l : List (List AV)}, (∀ j c, l[j]? = some c → ∃ ad, ao = some ad ∧ F ad.block ∧ c.length = sz ∧ ARC F w ρ ad ((i + j) * sz) c) → ARR F w ρ ao sz i l
  | _, [], _ => by simp [ARR]
  | i, y :: l, h => by
    simp only [ARR]
    refine ⟨by simpa using h 0 y (by simp), ARR.of_get fun j x hx => ?_⟩
    have := h (j + 1) x (by simpa using hx)
    rwa [show i + (j + 1) = i + 1 + j from by omega] at this

/-- Abstract blocks of the call's own: a row of numbers, a row of records (a box is one record), none. -/
inductive HObj where
  | oi (e : TypeId) (k : IntKind) (l : List Int)
  | oo (e : TypeId) (sz : Nat) (l : List (List AV))
  | dead
  deriving Inhabited

def HObj.live : HObj → Prop
  | .dead => False
  | _ => True

/-- The slice value over a whole row. -/
def sliceOf (lo : Loc) (n : Nat) : Value := .slice (lo.blk.map fun b => ⟨b, 0, none⟩) n (n + lo.slack)

def HR (F : Nat → Prop) (w : World) (ρ : Ren) (n : Nat) : HObj → Prop
  | .oi e k l => ∃ lo, ρ n = some lo ∧ w.ownsRow 0 e 1 (sliceOf lo l.length) l.length (l.map (Value.int k))
  | .oo e sz l => ∃ lo xs, ρ n = some lo ∧ w.ownsRow 0 e sz (sliceOf lo l.length) l.length xs ∧ ARL F w ρ l.flatten xs ∧ ∀ c ∈ l, c.length = sz ∧ ∀ x ∈ c, x.one = true
  | .dead => True

/-- Tables of numbers among the package's variables. -/
abbrev Lay := List (Nat × IntKind × List Int)
def layMet (L : Lay) (F : Nat → Prop) (w : World) : Prop := ∀ g k l, (g, k, l) ∈ L → F g ∧ ∀ i x, l[i]? = some x → w.cell? ⟨g, i, none⟩ = some (.int k x)

/-- What was there when the call began, but for the blocks X, is as it was. -/
structure Frame' (X : Nat → Prop) (w0 w : World) : Prop where
  os : w.os = w0.os
  tape : w.tape = w0.tape
  output : w.output = w0.output
  size : w0.heap.size ≤ w.heap.size
  block : ∀ k, k < w0.heap.size → ¬ X k → w.heap[k]? = w0.heap[k]?

def blkOf (ρ : Ren) (n : Nat) : Option Nat := (ρ n).bind (·.blk)

/-- The memory half of a state. -/
structure Mem (L : Lay) (X : Nat → Prop) (w0 : World) (F : Nat → Prop) (w : World) (ρ : Ren) (h : Nat → HObj) : Prop where
  heap : ∀ n, HR F w ρ n (h n)
  dis : ∀ n m b, n ≠ m → (h n).live → (h m).live → blkOf ρ n = some b → blkOf ρ m ≠ some b
  notF : ∀ n b, (h n).live → blkOf ρ n = some b → ¬ F b
  own : ∀ n b, (h n).live → blkOf ρ n = some b → w0.heap.size ≤ b ∨ X b
  bound : ∀ b, F b → b < w.heap.size
  fr : Frame' X w0 w
  lay : layMet L F w

end Go.Ev
