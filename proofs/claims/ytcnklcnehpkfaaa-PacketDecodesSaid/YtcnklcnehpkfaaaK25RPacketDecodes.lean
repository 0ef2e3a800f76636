/-
  PacketDecodes: for every input the call returns true and the arguments read as before.
-/
import Derived.Test.YtcnklcnehpkfaaaK25Q
import Derived.Test.YtcnklcnehpkfaaaEvRow
import Derived.Test.YtcnklcnehpkfaaaRows
namespace Go.Proofs.Ytcnklcnehpkfaaa
open Go Go.Ev Go.ChangeShapes Go.WideShapes Go.ChangeAt Go.WideMaps Go.WideElems Go.RowKit
set_option linter.unusedVariables false
set_option linter.unusedSimpArgs false

set_option maxRecDepth 100000 in
theorem packetDecodes_con (ls : List (List AV)) (h : FitsAll [[.si .u8 1]] ls) : Con Try.prog L0 4 [] (argsA Try.prog Try.f4.params.toList ls) [] (.c (.bool true)) := by
  simp only [FitsAll, Fits, Ev.Fit] at h
  obtain ⟨_, _, rfl, ⟨_, _, rfl, ⟨l0, rfl, hb0, hm0, hl0⟩, rfl⟩, rfl⟩ := h
  have hl0 : ∀ x ∈ l0, _ ∧ _ := fun x hx => inR_u8 (hl0 x hx)
  have e : argsA Try.prog Try.f4.params.toList [[.ri .u8 l0]] = [.ri .u8 l0] := by kernel_rfl
  exact (congrArg (fun x => Con Try.prog L0 4 [] x [] (.c (.bool true))) e).mpr (con_Decodes l0 hl0)

set_option maxRecDepth 100000 in
theorem packetDecodes_lifted (os : Os) (started : os.Started) (H : Type) (enc : TypeId × Value → H) :
    ReturnsInHanded {} Try.checked os 4 .any (fun w args => (Rows.packetDecodesSpec.pre enc Try.prog Try.f4 [] false w args ∧ True) ∧ sizedMet enc Try.prog Try.f4 (OpenSpec.ofChange Rows.packetDecodesSpec) false w args)
      (Rows.packetDecodesSpec.post enc Try.prog Try.f4 false true false false) :=
  law_lifted (C := Try.checked) (X := (fun _ => True)) (L := L0) (World.doorLaid Try.prog 400 os) #[.slice none 0 0] 12 (fun _ _ _ h => h) own started (by kernel_rfl) Try.func4 laidOut (by kernel_rfl) (by kernel_rfl) Try.underlying4 rfl
    (fun ds h => match ds, h with | [_], _ => rfl) rfl (World.shaped_of_RefB (by kernel_rfl) (by kernel_rfl)) (by kernel_rfl) (by kernel_rfl) (by kernel_rfl) trivial (fun _ _ => by intro g k l hg; cases hg) (by kernel_rfl) packetDecodes_con

theorem packetDecodes_holds : Rows.PacketDecodesSaid :=
  OpenClaim.holds_of_wide 4 Try.f4 rfl rfl rfl rfl rfl rfl rfl ⟨rfl, rfl, rfl, rfl, rfl⟩ rfl rfl rfl rfl rfl (by kernel_rfl) Try.func4 (by kernel_rfl)
    (of_decide_eq_true (by kernel_rfl)) (by unfold Func.isWrapper; first | (rw [if_pos (by decide +kernel)]; kernel_rfl) | (rw [if_neg (by decide +kernel)]; exact ⟨rfl, rfl⟩))
    (fun os started H enc _ => by rw [pre_plain rfl]; exact packetDecodes_lifted os started H enc)
end Go.Proofs.Ytcnklcnehpkfaaa
