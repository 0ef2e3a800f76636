/-
  EventsTones: for every input the call returns true and the arguments read as before.
-/
import Derived.Test.YtllomeekbocfmaaK29H
import Derived.Test.YtllomeekbocfmaaEvRow
import Derived.Test.YtllomeekbocfmaaRows
namespace Go.Proofs.Ytllomeekbocfmaa
open Go Go.Ev Go.ChangeShapes Go.WideShapes Go.ChangeAt Go.WideMaps Go.WideElems Go.RowKit
set_option linter.unusedVariables false
set_option linter.unusedSimpArgs false

set_option maxRecDepth 100000 in
theorem eventsTones_con (ls : List (List AV)) (h : FitsAll [[.int .u8, .bool, .int .u8, .int .u16], [.si .u8 1]] ls) : Con Try.prog L0 6 [] (argsA Try.prog Try.f6.params.toList ls) [] (.c (.bool true)) := by
  simp only [FitsAll, Fits, Ev.Fit] at h
  obtain ⟨_, _, rfl, ⟨_, _, rfl, ⟨n0, rfl, hn0⟩, ⟨_, _, rfl, ⟨b0, rfl⟩, ⟨_, _, rfl, ⟨n1, rfl, hn1⟩, ⟨_, _, rfl, ⟨n2, rfl, hn2⟩, rfl⟩⟩⟩⟩, ⟨_, _, rfl, ⟨_, _, rfl, ⟨l0, rfl, hb0, hm0, hl0⟩, rfl⟩, rfl⟩⟩ := h
  have hn0 := inR_u8 hn0
  have hn1 := inR_u8 hn1
  have hn2 := inR_u16 hn2
  have hl0 : ∀ x ∈ l0, _ ∧ _ := fun x hx => inR_u8 (hl0 x hx)
  have e : argsA Try.prog Try.f6.params.toList [[.c (.int .u8 n0), .c (.bool b0), .c (.int .u8 n1), .c (.int .u16 n2)], [.ri .u8 l0]] = [.a [.c (.int .u8 n0), .c (.bool b0), .c (.int .u8 n1), .c (.int .u16 n2)], .ri .u8 l0] := by kernel_rfl
  exact (congrArg (fun x => Con Try.prog L0 6 [] x [] (.c (.bool true))) e).mpr (con_Tones n0 n1 n2 b0 hn0 hn1 hn2 l0 hl0)

set_option maxRecDepth 100000 in
theorem eventsTones_lifted (os : Os) (started : os.Started) (H : Type) (enc : TypeId × Value → H) :
    ReturnsInHanded {} Try.checked os 6 .any (fun w args => (Rows.eventsTonesSpec.pre enc Try.prog Try.f6 [] false w args ∧ True) ∧ sizedMet enc Try.prog Try.f6 (OpenSpec.ofChange Rows.eventsTonesSpec) false w args)
      (Rows.eventsTonesSpec.post enc Try.prog Try.f6 false true false false) :=
  law_lifted (C := Try.checked) (X := (fun _ => True)) (L := L0) (World.doorLaid Try.prog 400 os) #[.agg #[.int .u8 0, .bool false, .int .u8 0, .int .u16 0], .slice none 0 0] 12 (fun _ _ _ h => h) own started (by kernel_rfl) Try.func6 laidOut (by kernel_rfl) (by kernel_rfl) Try.underlying4 rfl
    (fun ds h => match ds, h with | [_, _], _ => rfl) rfl (World.shaped_of_RefB (by kernel_rfl) (by kernel_rfl)) (by kernel_rfl) (by kernel_rfl) (by kernel_rfl) trivial (fun _ _ => by intro g k l hg; cases hg) (by kernel_rfl) eventsTones_con

theorem eventsTones_holds : Rows.EventsTonesSaid :=
  OpenClaim.holds_of_wide 6 Try.f6 rfl rfl rfl rfl rfl rfl rfl ⟨rfl, rfl, rfl, rfl, rfl⟩ rfl rfl rfl rfl rfl (by kernel_rfl) Try.func6 (by kernel_rfl)
    (of_decide_eq_true (by kernel_rfl)) (by unfold Func.isWrapper; first | (rw [if_pos (by decide +kernel)]; kernel_rfl) | (rw [if_neg (by decide +kernel)]; exact ⟨rfl, rfl⟩))
    (fun os started H enc _ => by rw [pre_plain rfl]; exact eventsTones_lifted os started H enc)
end Go.Proofs.Ytllomeekbocfmaa
