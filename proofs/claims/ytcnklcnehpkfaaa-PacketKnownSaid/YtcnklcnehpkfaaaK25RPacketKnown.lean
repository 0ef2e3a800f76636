/-
  PacketKnown: for every input the call returns true and the arguments read as before.
-/
import Derived.Test.YtcnklcnehpkfaaaK25Q
import Derived.Test.YtcnklcnehpkfaaaEvRow
import Derived.Test.YtcnklcnehpkfaaaRows
namespace Go.Proofs.Ytcnklcnehpkfaaa
open Go Go.Ev Go.ChangeShapes Go.WideShapes Go.ChangeAt Go.WideMaps Go.WideElems Go.RowKit
set_option linter.unusedVariables false
set_option linter.unusedSimpArgs false

set_option maxRecDepth 100000 in
theorem packetKnown_con (ls : List (List AV)) (h : FitsAll [] ls) : Con Try.prog L0 11 [] (argsA Try.prog Try.f11.params.toList ls) [] (.c (.bool true)) := by
  simp only [FitsAll, Fits, Ev.Fit] at h
  obtain rfl := h
  have e : argsA Try.prog Try.f11.params.toList [] = [] := by kernel_rfl
  exact (congrArg (fun x => Con Try.prog L0 11 [] x [] (.c (.bool true))) e).mpr (con_Known)

set_option maxRecDepth 100000 in
theorem packetKnown_lifted (os : Os) (started : os.Started) (H : Type) (enc : TypeId × Value → H) :
    ReturnsInHanded {} Try.checked os 11 .any (fun w args => (Rows.packetKnownSpec.pre enc Try.prog Try.f11 [] false w args ∧ True) ∧ sizedMet enc Try.prog Try.f11 (OpenSpec.ofChange Rows.packetKnownSpec) false w args)
      (Rows.packetKnownSpec.post enc Try.prog Try.f11 false true false false) :=
  law_lifted (C := Try.checked) (X := (fun _ => True)) (L := L0) (World.doorLaid Try.prog 400 os) #[] 12 (fun _ _ _ h => h) own started (by kernel_rfl) Try.func11 laidOut (by kernel_rfl) (by kernel_rfl) Try.underlying4 rfl
    (fun ds h => match ds, h with | [], _ => rfl) rfl (World.shaped_of_RefB (by kernel_rfl) (by kernel_rfl)) (by kernel_rfl) (by kernel_rfl) (by kernel_rfl) trivial (fun _ _ => by intro g k l hg; cases hg) (by kernel_rfl) packetKnown_con

theorem packetKnown_holds : Rows.PacketKnownSaid :=
  OpenClaim.holds_of_wide 11 Try.f11 rfl rfl rfl rfl rfl rfl rfl ⟨rfl, rfl, rfl, rfl, rfl⟩ rfl rfl rfl rfl rfl (by kernel_rfl) Try.func11 (by kernel_rfl)
    (of_decide_eq_true (by kernel_rfl)) (by unfold Func.isWrapper; first | (rw [if_pos (by decide +kernel)]; kernel_rfl) | (rw [if_neg (by decide +kernel)]; exact ⟨rfl, rfl⟩))
    (fun os started H enc _ => by rw [pre_plain rfl]; exact packetKnown_lifted os started H enc)
end Go.Proofs.Ytcnklcnehpkfaaa
