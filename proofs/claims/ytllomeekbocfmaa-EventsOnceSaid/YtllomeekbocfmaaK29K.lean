/-
  A part of the walk: contracts of functions, each proved once.
-/
import Derived.Test.YtllomeekbocfmaaEvRun
import Derived.Test.YtllomeekbocfmaaK29E
namespace Go.Proofs.Ytllomeekbocfmaa
open Go Go.Ev
set_option linter.unusedVariables false
set_option linter.unusedSimpArgs false
set_option maxRecDepth 20000
namespace Sp
structure Stroke where
  c : Int
  h : Int
  p : Int
  deriving Inhabited
structure Sent where
  key : Int
  o : Out
  deriving Inhabited
def frm (c v t z : Int) (i : Nat) : Snd := ⟨true, c, v, t, imin ((i : Int) * z) 65535, 0⟩
def fin (c v t l : Int) (e : Nat) : Snd := if e = 0 then s0 else ⟨false, c, v, t, l, (e : Int)⟩
theorem imin_le {a b : Int} : imin a b = if b < a then b else a := rfl
theorem press_s0 {v : Int} (c t : Int) (h : v ≤ 63) : pressE s0 v = 0 ∧ press s0 c v t = ⟨true, c, v, t, 0, 0⟩ := by
  have : pressE s0 v = 0 := by simp only [pressE]; rw [if_neg (by decide), if_neg (by decide), if_neg (by omega)]
  simp [press, this]
theorem ok_of {on : Bool} {c v t l e : Int} (hv : v ≤ 63) (hl : 0 ≤ l ∧ l ≤ 65535) (he : 0 ≤ e ∧ e ≤ 3) (ho : on = true → e = 0) : (Snd.mk on c v t l e).ok = true := by
  simp only [Snd.ok, valid, Bool.and_eq_true, decide_eq_true_eq, Bool.not_eq_true', Bool.and_eq_false_iff, decide_eq_false_iff_not]
  refine ⟨⟨⟨⟨⟨hv, hl.1⟩, hl.2⟩, he.1⟩, he.2⟩, ?_⟩
  cases on
  · exact .inl rfl
  · exact .inr (by have := ho rfl; omega)
theorem nxt_on {c v t l z : Int} (hv : v ≤ 63) (hl : 0 ≤ l ∧ l ≤ 65535) (hz : 1 ≤ z ∧ z ≤ 8000) :
    nxt ⟨true, c, v, t, l, 0⟩ z = ⟨true, c, v, t, imin (l + z) 65535, 0⟩ ∧ nxtE ⟨true, c, v, t, l, 0⟩ z = 0 ∧ nxtB ⟨true, c, v, t, l, 0⟩ z = true ∧ nxtO ⟨true, c, v, t, l, 0⟩ z = ⟨t, decide (l = 0), ⟨c, false, v, imin (l + z) 65535⟩⟩ := by
  have h := ok_of (on := true) (c := c) (t := t) hv hl (e := 0) (by omega) (fun _ => rfl)
  have h1 : nxtE ⟨true, c, v, t, l, 0⟩ z = 0 := by simp only [nxtE, h]; rw [if_neg (by simp), if_neg (by omega)]
  have h2 : nxtB ⟨true, c, v, t, l, 0⟩ z = true := by simp [nxtB, h1]
  refine ⟨by simp [nxt, h1], h1, h2, by simp [nxtO, h2, nxtL]⟩
theorem nxt_off {c v t l z e : Int} (hv : v ≤ 63) (hl : 0 ≤ l ∧ l ≤ 65535) (hz : 1 ≤ z ∧ z ≤ 8000) (he : 1 ≤ e ∧ e ≤ 3) :
    nxt ⟨false, c, v, t, l, e⟩ z = (if e = 1 then s0 else ⟨false, c, v, t, l, e - 1⟩) ∧ nxtE ⟨false, c, v, t, l, e⟩ z = 0 ∧ nxtB ⟨false, c, v, t, l, e⟩ z = true ∧ nxtO ⟨false, c, v, t, l, e⟩ z = ⟨t, false, ⟨c, true, v, l⟩⟩ := by
  have h := ok_of (on := false) (c := c) (t := t) hv hl (e := e) (by omega) (fun h => by cases h)
  have h1 : nxtE ⟨false, c, v, t, l, e⟩ z = 0 := by simp only [nxtE, h]; rw [if_neg (by simp), if_neg (by omega)]
  have h2 : nxtB ⟨false, c, v, t, l, e⟩ z = true := by simp [nxtB, h1]; omega
  refine ⟨?_, h1, h2, by simp [nxtO, h2, nxtL]⟩
  simp only [nxt, h1, if_true]
  rw [if_neg (by simp), if_neg (by omega)]
theorem rel_on {c v t l : Int} (hv : v ≤ 63) (hl : 0 ≤ l ∧ l ≤ 65535) : relE ⟨true, c, v, t, l, 0⟩ = 0 ∧ rel ⟨true, c, v, t, l, 0⟩ = ⟨false, c, v, t, l, 3⟩ := by
  have h := ok_of (on := true) (c := c) (t := t) hv hl (e := 0) (by omega) (fun _ => rfl)
  have h1 : relE ⟨true, c, v, t, l, 0⟩ = 0 := by simp only [relE, h]; rw [if_neg (by simp), if_neg (by simp)]
  simp [rel, h1]
theorem mul_rng {z : Int} {i : Nat} (hz : 1 ≤ z ∧ z ≤ 600) (hi : i ≤ 200) : 0 ≤ (i : Int) * z ∧ (i : Int) * z ≤ 120000 ∧ (1 ≤ i → 1 ≤ (i : Int) * z) ∧ ((i + 1 : Nat) : Int) * z = (i : Int) * z + z := by
  refine ⟨Int.mul_nonneg (by omega) (by omega), ?_, fun h => ?_, ?_⟩
  · have := Int.mul_le_mul (show (i : Int) ≤ 200 by omega) hz.2 (by omega) (by omega); omega
  · have := Int.mul_le_mul (show (1 : Int) ≤ i by omega) hz.1 (by omega) (by omega); omega
  · rw [Int.natCast_succ, Int.add_mul, Int.one_mul]
theorem frm_rng {z : Int} {i : Nat} (hz : 1 ≤ z ∧ z ≤ 600) (hi : i ≤ 200) : 0 ≤ imin ((i : Int) * z) 65535 ∧ imin ((i : Int) * z) 65535 ≤ 65535 := by
  have := mul_rng hz hi; rw [imin_le]; split <;> omega
theorem frm_next {c v t z : Int} {i : Nat} (hv : v ≤ 63) (hz : 1 ≤ z ∧ z ≤ 600) (hi : i ≤ 100) :
    nxt (frm c v t z i) z = frm c v t z (i + 1) ∧ nxtE (frm c v t z i) z = 0 ∧ nxtB (frm c v t z i) z = true ∧ nxtO (frm c v t z i) z = ⟨t, decide (i = 0), ⟨c, false, v, imin (((i + 1 : Nat) : Int) * z) 65535⟩⟩ := by
  obtain ⟨h1, h2, h3, h4⟩ := nxt_on (c := c) (t := t) hv (frm_rng (i := i) hz (by omega)) (show 1 ≤ z ∧ z ≤ 8000 by omega)
  have hm := mul_rng (i := i) hz (by omega)
  have e : imin (imin ((i : Int) * z) 65535 + z) 65535 = imin (((i + 1 : Nat) : Int) * z) 65535 := by
    rw [hm.2.2.2]
    generalize hw : (i : Int) * z = w at hm ⊢
    clear h1 h2 h3 h4 hw
    simp only [imin_le]; repeat' split
    all_goals omega
  have e2 : decide (imin ((i : Int) * z) 65535 = 0) = decide (i = 0) := by
    apply decide_eq_decide.2
    generalize hw : (i : Int) * z = w at hm ⊢
    rw [imin_le]
    constructor
    · intro h; apply Classical.byContradiction; intro h0; have := hm.2.2.1 (by omega); split at h <;> omega
    · intro h; subst h; rw [show ((0 : Nat) : Int) * z = 0 from Int.zero_mul z] at hw; subst hw; rfl
  exact ⟨by rw [frm, h1, e]; rfl, h2, h3, by rw [frm, h4, e, e2]⟩
theorem fin_next {c v t l z : Int} {e : Nat} (hv : v ≤ 63) (hl : 0 ≤ l ∧ l ≤ 65535) (hz : 1 ≤ z ∧ z ≤ 600) (he : e + 1 ≤ 3) :
    nxt (fin c v t l (e + 1)) z = fin c v t l e ∧ nxtE (fin c v t l (e + 1)) z = 0 ∧ nxtB (fin c v t l (e + 1)) z = true ∧ nxtO (fin c v t l (e + 1)) z = ⟨t, false, ⟨c, true, v, l⟩⟩ := by
  obtain ⟨h1, h2, h3, h4⟩ := nxt_off (c := c) (t := t) hv hl (show 1 ≤ z ∧ z ≤ 8000 by omega) (show 1 ≤ ((e + 1 : Nat) : Int) ∧ ((e + 1 : Nat) : Int) ≤ 3 by omega)
  have e1 : fin c v t l (e + 1) = ⟨false, c, v, t, l, ((e + 1 : Nat) : Int)⟩ := by simp [fin]
  rw [e1]
  refine ⟨?_, h2, h3, h4⟩
  rw [h1, fin]
  by_cases h : e = 0
  · subst h; rfl
  · rw [if_neg (by omega), if_neg h]; congr 1; omega
theorem rel_frm {c v t z : Int} {i : Nat} (hv : v ≤ 63) (hz : 1 ≤ z ∧ z ≤ 600) (hi : i ≤ 100) : relE (frm c v t z i) = 0 ∧ rel (frm c v t z i) = fin c v t (imin ((i : Int) * z) 65535) 3 :=
  rel_on hv (frm_rng (i := i) hz (by omega))
theorem nxt_s0 {z : Int} (hz : 1 ≤ z ∧ z ≤ 600) : nxtE s0 z = 0 ∧ nxtB s0 z = false := by
  have h1 : nxtE s0 z = 0 := by simp only [nxtE]; rw [if_neg (by decide), if_neg (by omega)]
  exact ⟨h1, by simp [nxtB, h1, s0]⟩
end Sp

end Go.Proofs.Ytllomeekbocfmaa
