/-
  The steps of the abstract memory: a new block, a store, an append, a draw.
-/
import Derived.Test.YtcnklcnehpkfaaaEvA
import Derived.ArgAppend
namespace Go.Ev
open Go Go.RowKit
set_option linter.unusedVariables false
set_option linter.unusedSimpArgs false

section
variable {L : Lay} {X : Nat → Prop} {w0 : World} {F : Nat → Prop} {w : World} {ρ : Ren} {h : Nat → HObj}

theorem ownsRow_of_block {w w' : World} {e : TypeId} {sz : Nat} {v : Value} {n : Nat} {xs : List Value} (hown : w.ownsRow 0 e sz v n xs) (hb : ∀ b, v.ownBlock = some b → w'.heap[b]? = w.heap[b]?) : w'.ownsRow 0 e sz v n xs := by
  obtain ⟨h1, h2⟩ := hown
  refine ⟨h1, ?_⟩
  rcases h2 with h2 | ⟨g, cap, cur, rfl, hg, hh, r⟩
  · exact .inl h2
  · exact .inr ⟨g, cap, cur, rfl, hg, by rw [hb g rfl]; exact hh, r⟩

theorem ownBlock_sliceOf (lo : Loc) (n : Nat) : (sliceOf lo n).ownBlock = lo.blk := by
  obtain ⟨b, s⟩ := lo
  cases b <;> rfl

theorem HR.mono {F' : Nat → Prop} {w' : World} {ρ' : Ren} {n : Nat} {o : HObj} (hF : ∀ b, F b → F' b ∧ w'.heap[b]? = w.heap[b]?) (hρ : ∀ n lo, ρ n = some lo → ρ' n = some lo)
    (hb : o.live → ∀ b, blkOf ρ n = some b → w'.heap[b]? = w.heap[b]?) (hh : HR F w ρ n o) : HR F' w' ρ' n o := by
  cases o with
  | dead => trivial
  | oi e k l =>
    obtain ⟨lo, h1, h2⟩ := hh
    refine ⟨lo, hρ _ _ h1, ownsRow_of_block h2 fun b hbb => hb trivial b ?_⟩
    rw [ownBlock_sliceOf] at hbb
    simp [blkOf, h1, hbb]
  | oo e sz l =>
    obtain ⟨lo, xs, h1, h2, h3, h4⟩ := hh
    refine ⟨lo, xs, hρ _ _ h1, ownsRow_of_block h2 fun b hbb => hb trivial b ?_, ARL.mono hF hρ _ _ h3, h4⟩
    rw [ownBlock_sliceOf] at hbb
    simp [blkOf, h1, hbb]

theorem HR.loc {n : Nat} {o : HObj} (hh : HR F w ρ n o) (hl : o.live) : ∃ lo, ρ n = some lo ∧ ∀ b, lo.blk = some b → b < w.heap.size := by
  cases o with
  | dead => exact hl.elim
  | oi e k l =>
    obtain ⟨lo, h1, h2⟩ := hh
    exact ⟨lo, h1, fun b hb => (h2.lt b (by rw [ownBlock_sliceOf]; exact hb)).2⟩
  | oo e sz l =>
    obtain ⟨lo, xs, h1, h2, h3, h4⟩ := hh
    exact ⟨lo, h1, fun b hb => (h2.lt b (by rw [ownBlock_sliceOf]; exact hb)).2⟩

theorem Mem.blk_lt (M : Mem L X w0 F w ρ h) {n b : Nat} (hl : (h n).live) (hb : blkOf ρ n = some b) : b < w.heap.size := by
  obtain ⟨lo, h1, h2⟩ := (M.heap n).loc hl
  exact h2 b (by simpa [blkOf, h1] using hb)

theorem layMet.mono {F' : Nat → Prop} {w' : World} (hF : ∀ b, F b → F' b ∧ w'.heap[b]? = w.heap[b]?) (hl : layMet L F w) : layMet L F' w' := fun g k l hg => by
  obtain ⟨h1, h2⟩ := hl g k l hg
  exact ⟨(hF _ h1).1, fun i x hx => by rw [World.cell?_of_block (w := w) (hF _ h1).2]; exact h2 i x hx⟩

/-- A world whose heap is the same. -/
theorem Mem.same {w' : World} (M : Mem L X w0 F w ρ h) (e1 : w'.heap = w.heap) (e2 : w'.os = w.os) (e3 : w'.tape = w.tape) (e4 : w'.output = w.output) : Mem L X w0 F w' ρ h where
  heap n := (M.heap n).mono (fun b hb => ⟨hb, by rw [e1]⟩) (fun _ _ h => h) (fun _ b _ => by rw [e1])
  dis := M.dis
  notF := M.notF
  own := M.own
  bound b hb := by rw [e1]; exact M.bound b hb
  fr := ⟨e2.trans M.fr.os, e3.trans M.fr.tape, e4.trans M.fr.output, by rw [e1]; exact M.fr.size, fun k hk hx => by rw [e1]; exact M.fr.block k hk hx⟩
  lay := M.lay.mono fun b hb => ⟨hb, by rw [e1]⟩

def upd {α : Type} (f : Nat → α) (n : Nat) (x : α) : Nat → α := fun m => if m = n then x else f m
theorem upd_same {α : Type} (f : Nat → α) (n : Nat) (x : α) : upd f n x n = x := by simp [upd]
theorem upd_other {α : Type} (f : Nat → α) {n m : Nat} (x : α) (hne : m ≠ n) : upd f n x m = f m := by simp [upd, hne]

theorem blkOf_upd_other {ρ : Ren} {n m : Nat} (lo : Option Loc) (hne : n ≠ m) : blkOf (upd ρ m lo) n = blkOf ρ n := by simp [blkOf, upd_other _ _ hne]

/-- One name turns: it gets a new object and (if it had none) a place. All that is written is the block of the name itself or of a name that dies with the step, or is new. -/
theorem Mem.turn {w' : World} {m : Nat} {lo : Loc} {o : HObj} (M : Mem L X w0 F w ρ h) (d : Nat → Prop)
    (hm : ρ m = none ∨ ρ m = some lo)
    (hmd : (h m).live → ρ m = some lo)
    (eos : w'.os = w.os) (etape : w'.tape = w.tape) (eout : w'.output = w.output) (esz : w.heap.size ≤ w'.heap.size)
    (hkeep : ∀ b, b < w.heap.size → (∀ n, (d n ∨ n = m) → (h n).live → blkOf ρ n ≠ some b) → w'.heap[b]? = w.heap[b]?)
    (hlo : ∀ b, lo.blk = some b → w.heap.size ≤ b ∨ ∃ n, (d n ∨ n = m) ∧ (h n).live ∧ blkOf ρ n = some b)
    (ho : ∀ (F' : Nat → Prop) (ρ' : Ren), (∀ b, F b → F' b ∧ w'.heap[b]? = w.heap[b]?) → (∀ n lo, ρ n = some lo → ρ' n = some lo) → ρ' m = some lo → HR F' w' ρ' m o) (h' : Nat → HObj)
    (hh' : h' m = o) (hdead : ∀ n, d n → n ≠ m → h' n = .dead) (hsame : ∀ n, ¬ d n → n ≠ m → h' n = h n) :
    Mem L X w0 F w' (upd ρ m (some lo)) h' := by
  have hF : ∀ b, F b → F b ∧ w'.heap[b]? = w.heap[b]? := fun b hb => ⟨hb, hkeep b (M.bound b hb) fun n _ hl hn => M.notF n b hl hn hb⟩
  have hρ : ∀ n lo', ρ n = some lo' → upd ρ m (some lo) n = some lo' := fun n lo' hn => by
    by_cases e : n = m
    · subst e
      rcases hm with hm | hm
      · rw [hm] at hn; cases hn
      · rw [hm] at hn; cases hn; exact upd_same _ _ _
    · rw [upd_other _ _ e]; exact hn
  have hlive : ∀ n, n ≠ m → (h' n).live → ¬ d n ∧ (h n).live ∧ h' n = h n := fun n hne hl => by
    by_cases hdn : d n
    · rw [hdead n hdn hne] at hl; exact hl.elim
    · rw [hsame n hdn hne] at hl; exact ⟨hdn, hl, hsame n hdn hne⟩
  have hblk : ∀ n b, n ≠ m → (h' n).live → blkOf (upd ρ m (some lo)) n = some b → blkOf ρ n = some b ∧ b < w.heap.size ∧ w'.heap[b]? = w.heap[b]? := fun n b hne hl hb => by
    obtain ⟨h1, h2, h3⟩ := hlive n hne hl
    rw [blkOf_upd_other _ hne] at hb
    have hlt := M.blk_lt h2 hb
    refine ⟨hb, hlt, hkeep b hlt fun n' hn' hl' hb' => ?_⟩
    have hne' : n ≠ n' := by
      rintro rfl
      rcases hn' with hn' | hn'
      · exact h1 hn'
      · exact hne hn'
    exact M.dis n n' b hne' h2 hl' hb hb'
  have hdis : ∀ n b, n ≠ m → (h' n).live → blkOf (upd ρ m (some lo)) n = some b → lo.blk ≠ some b := fun n b hne hl hb hlob => by
    obtain ⟨h1, h2, h3⟩ := hlive n hne hl
    obtain ⟨h4, h5, _⟩ := hblk n b hne hl hb
    rcases hlo b hlob with hlo | ⟨n', hn', hl', hb'⟩
    · omega
    · have hne' : n ≠ n' := by
        rintro rfl
        rcases hn' with hn' | hn'
        · exact h1 hn'
        · exact hne hn'
      exact M.dis n n' b hne' h2 hl' h4 hb'
  refine ⟨fun n => ?_, fun n1 n2 b hne hl1 hl2 hb1 => ?_, fun n b hl hb => ?_, fun n b hl hb => ?_, fun b hb => Nat.lt_of_lt_of_le (M.bound b hb) esz, ?_, M.lay.mono hF⟩
  · by_cases e : n = m
    · subst e; rw [hh']; exact ho F _ hF hρ (upd_same _ _ _)
    · by_cases hl : (h' n).live
      · obtain ⟨h1, h2, h3⟩ := hlive n e hl
        rw [h3]
        refine (M.heap n).mono hF hρ fun _ b hb => (hblk n b e hl (by rw [blkOf_upd_other _ e]; exact hb)).2.2
      · cases hx : h' n with
        | dead => trivial
        | oi _ _ _ => rw [hx] at hl; exact (hl trivial).elim
        | oo _ _ _ => rw [hx] at hl; exact (hl trivial).elim
  · by_cases e1 : n1 = m
    · subst e1
      have e2 : n2 ≠ n1 := fun e => hne e.symm
      intro hb2
      have : lo.blk = some b := by simpa [blkOf, upd_same] using hb1
      exact hdis n2 b e2 hl2 hb2 this
    · by_cases e2 : n2 = m
      · subst e2
        intro hb2
        have : lo.blk = some b := by simpa [blkOf, upd_same] using hb2
        exact hdis n1 b e1 hl1 hb1 this
      · intro hb2
        obtain ⟨_, l1, _⟩ := hlive n1 e1 hl1
        obtain ⟨_, l2, _⟩ := hlive n2 e2 hl2
        exact M.dis n1 n2 b hne l1 l2 (hblk n1 b e1 hl1 hb1).1 (hblk n2 b e2 hl2 hb2).1
  · by_cases e : n = m
    · subst e
      have hlob : lo.blk = some b := by simpa [blkOf, upd_same] using hb
      intro hFb
      rcases hlo b hlob with hlo | ⟨n', hn', hl', hb'⟩
      · have := M.bound b hFb; omega
      · exact M.notF n' b hl' hb' hFb
    · obtain ⟨_, l1, _⟩ := hlive n e hl
      exact M.notF n b l1 (hblk n b e hl hb).1
  · by_cases e : n = m
    · subst e
      have hlob : lo.blk = some b := by simpa [blkOf, upd_same] using hb
      rcases hlo b hlob with hlo | ⟨n', hn', hl', hb'⟩
      · left; have := M.fr.size; omega
      · exact M.own n' b hl' hb'
    · obtain ⟨_, l1, _⟩ := hlive n e hl
      exact M.own n b l1 (hblk n b e hl hb).1
  · refine ⟨eos.trans M.fr.os, etape.trans M.fr.tape, eout.trans M.fr.output, Nat.le_trans M.fr.size esz, fun k hk hx => ?_⟩
    rw [← M.fr.block k hk hx]
    refine hkeep k (Nat.lt_of_lt_of_le hk M.fr.size) fun n hn hl hb => ?_
    rcases M.own n k hl hb with h1 | h1
    · omega
    · exact hx h1
end
end Go.Ev
