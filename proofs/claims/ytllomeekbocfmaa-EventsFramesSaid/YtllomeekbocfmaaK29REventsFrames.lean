/-
  EventsFrames: for every input the call returns true and the arguments read as before.
-/
import Derived.Test.YtllomeekbocfmaaK29M
import Derived.Test.YtllomeekbocfmaaEvRow
import Derived.Test.YtllomeekbocfmaaRows
namespace Go.Proofs.Ytllomeekbocfmaa
open Go Go.Ev Go.ChangeShapes Go.WideShapes Go.ChangeAt Go.WideMaps Go.WideElems Go.RowKit
set_option linter.unusedVariables false
set_option linter.unusedSimpArgs false

set_option maxRecDepth 100000 in
theorem eventsFrames_con (ls : List (List AV)) (h : FitsAll [[.int .u8], [.int .u8], [.int .u32], [.int .u16], [.int .u16]] ls) : Con Try.prog L0 8 [] (argsA Try.prog Try.f8.params.toList ls) [] (.c (.bool true)) := by
  simp only [FitsAll, Fits, Ev.Fit] at h
  obtain ⟨_, _, rfl, ⟨_, _, rfl, ⟨n0, rfl, hn0⟩, rfl⟩, ⟨_, _, rfl, ⟨_, _, rfl, ⟨n1, rfl, hn1⟩, rfl⟩, ⟨_, _, rfl, ⟨_, _, rfl, ⟨n2, rfl, hn2⟩, rfl⟩, ⟨_, _, rfl, ⟨_, _, rfl, ⟨n3, rfl, hn3⟩, rfl⟩, ⟨_, _, rfl, ⟨_, _, rfl, ⟨n4, rfl, hn4⟩, rfl⟩, rfl⟩⟩⟩⟩⟩ := h
  have hn0 := inR_u8 hn0
  have hn1 := inR_u8 hn1
  have hn2 := inR_u32 hn2
  have hn3 := inR_u16 hn3
  have hn4 := inR_u16 hn4
  have e : argsA Try.prog Try.f8.params.toList [[.c (.int .u8 n0)], [.c (.int .u8 n1)], [.c (.int .u32 n2)], [.c (.int .u16 n3)], [.c (.int .u16 n4)]] = [.c (.int .u8 n0), .c (.int .u8 n1), .c (.int .u32 n2), .c (.int .u16 n3), .c (.int .u16 n4)] := by kernel_rfl
  exact (congrArg (fun x => Con Try.prog L0 8 [] x [] (.c (.bool true))) e).mpr (con_Frames n0 n1 n2 n3 n4 hn1 hn3 hn4)

set_option maxRecDepth 100000 in
theorem eventsFrames_lifted (os : Os) (started : os.Started) (H : Type) (enc : TypeId × Value → H) :
    ReturnsInHanded {} Try.checked os 8 .any (fun w args => (Rows.eventsFramesSpec.pre enc Try.prog Try.f8 [] false w args ∧ True) ∧ sizedMet enc Try.prog Try.f8 (OpenSpec.ofChange Rows.eventsFramesSpec) false w args)
      (Rows.eventsFramesSpec.post enc Try.prog Try.f8 false true false false) :=
  law_lifted (C := Try.checked) (X := (fun _ => True)) (L := L0) (World.doorLaid Try.prog 400 os) #[.int .u8 0, .int .u8 0, .int .u32 0, .int .u16 0, .int .u16 0] 12 (fun _ _ _ h => h) own started (by kernel_rfl) Try.func8 laidOut (by kernel_rfl) (by kernel_rfl) Try.underlying4 rfl
    (fun ds h => match ds, h with | [_, _, _, _, _], _ => rfl) rfl (World.shaped_of_RefB (by kernel_rfl) (by kernel_rfl)) (by kernel_rfl) (by kernel_rfl) (by kernel_rfl) trivial (fun _ _ => by intro g k l hg; cases hg) (by kernel_rfl) eventsFrames_con

theorem eventsFrames_holds : Rows.EventsFramesSaid :=
  OpenClaim.holds_of_wide 8 Try.f8 rfl rfl rfl rfl rfl rfl rfl ⟨rfl, rfl, rfl, rfl, rfl⟩ rfl rfl rfl rfl rfl (by kernel_rfl) Try.func8 (by kernel_rfl)
    (of_decide_eq_true (by kernel_rfl)) (by unfold Func.isWrapper; first | (rw [if_pos (by decide +kernel)]; kernel_rfl) | (rw [if_neg (by decide +kernel)]; exact ⟨rfl, rfl⟩))
    (fun os started H enc _ => by rw [pre_plain rfl]; exact eventsFrames_lifted os started H enc)
end Go.Proofs.Ytllomeekbocfmaa
