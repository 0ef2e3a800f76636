/-
  EventsNoise: for every input the call returns true and the arguments read as before.
-/
import Derived.Test.YtllomeekbocfmaaK29J
import Derived.Test.YtllomeekbocfmaaEvRow
import Derived.Test.YtllomeekbocfmaaRows
namespace Go.Proofs.Ytllomeekbocfmaa
open Go Go.Ev Go.ChangeShapes Go.WideShapes Go.ChangeAt Go.WideMaps Go.WideElems Go.RowKit
set_option linter.unusedVariables false
set_option linter.unusedSimpArgs false

set_option maxRecDepth 100000 in
theorem eventsNoise_con (ls : List (List AV)) (h : FitsAll [[.int .u8], [.int .u32], [.int .i64], [.int .u16]] ls) : Con Try.prog L0 10 [] (argsA Try.prog Try.f10.params.toList ls) [] (.c (.bool true)) := by
  simp only [FitsAll, Fits, Ev.Fit] at h
  obtain ⟨_, _, rfl, ⟨_, _, rfl, ⟨n0, rfl, hn0⟩, rfl⟩, ⟨_, _, rfl, ⟨_, _, rfl, ⟨n1, rfl, hn1⟩, rfl⟩, ⟨_, _, rfl, ⟨_, _, rfl, ⟨n2, rfl, hn2⟩, rfl⟩, ⟨_, _, rfl, ⟨_, _, rfl, ⟨n3, rfl, hn3⟩, rfl⟩, rfl⟩⟩⟩⟩ := h
  have hn0 := inR_u8 hn0
  have hn1 := inR_u32 hn1
  have hn2 := inR_i64 hn2
  have hn3 := inR_u16 hn3
  have e : argsA Try.prog Try.f10.params.toList [[.c (.int .u8 n0)], [.c (.int .u32 n1)], [.c (.int .i64 n2)], [.c (.int .u16 n3)]] = [.c (.int .u8 n0), .c (.int .u32 n1), .c (.int .i64 n2), .c (.int .u16 n3)] := by kernel_rfl
  exact (congrArg (fun x => Con Try.prog L0 10 [] x [] (.c (.bool true))) e).mpr (con_LNoise n0 n1 n2 n3 hn0 hn1 hn3)

set_option maxRecDepth 100000 in
theorem eventsNoise_lifted (os : Os) (started : os.Started) (H : Type) (enc : TypeId × Value → H) :
    ReturnsInHanded {} Try.checked os 10 .any (fun w args => (Rows.eventsNoiseSpec.pre enc Try.prog Try.f10 [] false w args ∧ True) ∧ sizedMet enc Try.prog Try.f10 (OpenSpec.ofChange Rows.eventsNoiseSpec) false w args)
      (Rows.eventsNoiseSpec.post enc Try.prog Try.f10 false true false false) :=
  law_lifted (C := Try.checked) (X := (fun _ => True)) (L := L0) (World.doorLaid Try.prog 400 os) #[.int .u8 0, .int .u32 0, .int .i64 0, .int .u16 0] 12 (fun _ _ _ h => h) own started (by kernel_rfl) Try.func10 laidOut (by kernel_rfl) (by kernel_rfl) Try.underlying4 rfl
    (fun ds h => match ds, h with | [_, _, _, _], _ => rfl) rfl (World.shaped_of_RefB (by kernel_rfl) (by kernel_rfl)) (by kernel_rfl) (by kernel_rfl) (by kernel_rfl) trivial (fun _ _ => by intro g k l hg; cases hg) (by kernel_rfl) eventsNoise_con

theorem eventsNoise_holds : Rows.EventsNoiseSaid :=
  OpenClaim.holds_of_wide 10 Try.f10 rfl rfl rfl rfl rfl rfl rfl ⟨rfl, rfl, rfl, rfl, rfl⟩ rfl rfl rfl rfl rfl (by kernel_rfl) Try.func10 (by kernel_rfl)
    (of_decide_eq_true (by kernel_rfl)) (by unfold Func.isWrapper; first | (rw [if_pos (by decide +kernel)]; kernel_rfl) | (rw [if_neg (by decide +kernel)]; exact ⟨rfl, rfl⟩))
    (fun os started H enc _ => by rw [pre_plain rfl]; exact eventsNoise_lifted os started H enc)
end Go.Proofs.Ytllomeekbocfmaa
