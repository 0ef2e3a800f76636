/-
  EventsLevels: for every input the call returns true and the arguments read as before.
-/
import Derived.Test.YtllomeekbocfmaaK29F
import Derived.Test.YtllomeekbocfmaaEvRow
import Derived.Test.YtllomeekbocfmaaRows
namespace Go.Proofs.Ytllomeekbocfmaa
open Go Go.Ev Go.ChangeShapes Go.WideShapes Go.ChangeAt Go.WideMaps Go.WideElems Go.RowKit
set_option linter.unusedVariables false
set_option linter.unusedSimpArgs false

set_option maxRecDepth 100000 in
theorem eventsLevels_con (ls : List (List AV)) (h : FitsAll [[.si .i16 2], [.si .u16 2]] ls) : Con Try.prog L0 4 [] (argsA Try.prog Try.f4.params.toList ls) [] (.c (.bool true)) := by
  simp only [FitsAll, Fits, Ev.Fit] at h
  obtain ⟨_, _, rfl, ⟨_, _, rfl, ⟨l0, rfl, hb0, hm0, hl0⟩, rfl⟩, ⟨_, _, rfl, ⟨_, _, rfl, ⟨l1, rfl, hb1, hm1, hl1⟩, rfl⟩, rfl⟩⟩ := h
  have hl0 : ∀ x ∈ l0, _ ∧ _ := fun x hx => inR_i16 (hl0 x hx)
  have hl1 : ∀ x ∈ l1, _ ∧ _ := fun x hx => inR_u16 (hl1 x hx)
  have e : argsA Try.prog Try.f4.params.toList [[.ri .i16 l0], [.ri .u16 l1]] = [.ri .i16 l0, .ri .u16 l1] := by kernel_rfl
  exact (congrArg (fun x => Con Try.prog L0 4 [] x [] (.c (.bool true))) e).mpr (con_Levels l0 l1 hl0 hl1)

set_option maxRecDepth 100000 in
theorem eventsLevels_lifted (os : Os) (started : os.Started) (H : Type) (enc : TypeId × Value → H) :
    ReturnsInHanded {} Try.checked os 4 .any (fun w args => (Rows.eventsLevelsSpec.pre enc Try.prog Try.f4 [] false w args ∧ True) ∧ sizedMet enc Try.prog Try.f4 (OpenSpec.ofChange Rows.eventsLevelsSpec) false w args)
      (Rows.eventsLevelsSpec.post enc Try.prog Try.f4 false true false false) :=
  law_lifted (C := Try.checked) (X := (fun _ => True)) (L := L0) (World.doorLaid Try.prog 400 os) #[.slice none 0 0, .slice none 0 0] 12 (fun _ _ _ h => h) own started (by kernel_rfl) Try.func4 laidOut (by kernel_rfl) (by kernel_rfl) Try.underlying4 rfl
    (fun ds h => match ds, h with | [_, _], _ => rfl) rfl (World.shaped_of_RefB (by kernel_rfl) (by kernel_rfl)) (by kernel_rfl) (by kernel_rfl) (by kernel_rfl) trivial (fun _ _ => by intro g k l hg; cases hg) (by kernel_rfl) eventsLevels_con

theorem eventsLevels_holds : Rows.EventsLevelsSaid :=
  OpenClaim.holds_of_wide 4 Try.f4 rfl rfl rfl rfl rfl rfl rfl ⟨rfl, rfl, rfl, rfl, rfl⟩ rfl rfl rfl rfl rfl (by kernel_rfl) Try.func4 (by kernel_rfl)
    (of_decide_eq_true (by kernel_rfl)) (by unfold Func.isWrapper; first | (rw [if_pos (by decide +kernel)]; kernel_rfl) | (rw [if_neg (by decide +kernel)]; exact ⟨rfl, rfl⟩))
    (fun os started H enc _ => by rw [pre_plain rfl]; exact eventsLevels_lifted os started H enc)
end Go.Proofs.Ytllomeekbocfmaa
