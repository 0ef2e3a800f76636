/-
  PacketCounts: for every input the call returns true and the arguments read as before.
-/
import Derived.Test.YtcnklcnehpkfaaaK25S
import Derived.Test.YtcnklcnehpkfaaaEvRow
import Derived.Test.YtcnklcnehpkfaaaRows
namespace Go.Proofs.Ytcnklcnehpkfaaa
open Go Go.Ev Go.ChangeShapes Go.WideShapes Go.ChangeAt Go.WideMaps Go.WideElems Go.RowKit
set_option linter.unusedVariables false
set_option linter.unusedSimpArgs false

set_option maxRecDepth 100000 in
theorem packetCounts_con (ls : List (List AV)) (h : FitsAll [[.int .u16], [.si .i16 2]] ls) : Con Try.prog L0 8 [] (argsA Try.prog Try.f8.params.toList ls) [] (.c (.bool true)) := by
  simp only [FitsAll, Fits, Ev.Fit] at h
  obtain ⟨_, _, rfl, ⟨_, _, rfl, ⟨n0, rfl, hn0⟩, rfl⟩, ⟨_, _, rfl, ⟨_, _, rfl, ⟨l0, rfl, hb0, hm0, hl0⟩, rfl⟩, rfl⟩⟩ := h
  have hn0 := inR_u16 hn0
  have hl0 : ∀ x ∈ l0, _ ∧ _ := fun x hx => inR_i16 (hl0 x hx)
  have e : argsA Try.prog Try.f8.params.toList [[.c (.int .u16 n0)], [.ri .i16 l0]] = [.c (.int .u16 n0), .ri .i16 l0] := by kernel_rfl
  exact (congrArg (fun x => Con Try.prog L0 8 [] x [] (.c (.bool true))) e).mpr (con_Counts n0 (by simpa using hn0) l0 hl0)

set_option maxRecDepth 100000 in
theorem packetCounts_lifted (os : Os) (started : os.Started) (H : Type) (enc : TypeId × Value → H) :
    ReturnsInHanded {} Try.checked os 8 .any (fun w args => (Rows.packetCountsSpec.pre enc Try.prog Try.f8 [] false w args ∧ True) ∧ sizedMet enc Try.prog Try.f8 (OpenSpec.ofChange Rows.packetCountsSpec) false w args)
      (Rows.packetCountsSpec.post enc Try.prog Try.f8 false true false false) :=
  law_lifted (C := Try.checked) (X := (fun _ => True)) (L := L0) (World.doorLaid Try.prog 400 os) #[.int .u16 0, .slice none 0 0] 12 (fun _ _ _ h => h) own started (by kernel_rfl) Try.func8 laidOut (by kernel_rfl) (by kernel_rfl) Try.underlying4 rfl
    (fun ds h => match ds, h with | [_, _], _ => rfl) rfl (World.shaped_of_RefB (by kernel_rfl) (by kernel_rfl)) (by kernel_rfl) (by kernel_rfl) (by kernel_rfl) trivial (fun _ _ => by intro g k l hg; cases hg) (by kernel_rfl) packetCounts_con

theorem packetCounts_holds : Rows.PacketCountsSaid :=
  OpenClaim.holds_of_wide 8 Try.f8 rfl rfl rfl rfl rfl rfl rfl ⟨rfl, rfl, rfl, rfl, rfl⟩ rfl rfl rfl rfl rfl (by kernel_rfl) Try.func8 (by kernel_rfl)
    (of_decide_eq_true (by kernel_rfl)) (by unfold Func.isWrapper; first | (rw [if_pos (by decide +kernel)]; kernel_rfl) | (rw [if_neg (by decide +kernel)]; exact ⟨rfl, rfl⟩))
    (fun os started H enc _ => by rw [pre_plain rfl]; exact packetCounts_lifted os started H enc)
end Go.Proofs.Ytcnklcnehpkfaaa
