/-
  PacketExtends: for every input the call returns true and the arguments read as before.
-/
import Derived.Test.YtcnklcnehpkfaaaK25R
import Derived.Test.YtcnklcnehpkfaaaEvRow
import Derived.Test.YtcnklcnehpkfaaaRows
namespace Go.Proofs.Ytcnklcnehpkfaaa
open Go Go.Ev Go.ChangeShapes Go.WideShapes Go.ChangeAt Go.WideMaps Go.WideElems Go.RowKit
set_option linter.unusedVariables false
set_option linter.unusedSimpArgs false

set_option maxRecDepth 100000 in
theorem packetExtends_con (ls : List (List AV)) (h : FitsAll [[.int .i64], [.int .u16], [.int .u32]] ls) : Con Try.prog L0 9 [] (argsA Try.prog Try.f9.params.toList ls) [] (.c (.bool true)) := by
  simp only [FitsAll, Fits, Ev.Fit] at h
  obtain ⟨_, _, rfl, ⟨_, _, rfl, ⟨n0, rfl, hn0⟩, rfl⟩, ⟨_, _, rfl, ⟨_, _, rfl, ⟨n1, rfl, hn1⟩, rfl⟩, ⟨_, _, rfl, ⟨_, _, rfl, ⟨n2, rfl, hn2⟩, rfl⟩, rfl⟩⟩⟩ := h
  have hn0 := inR_i64 hn0
  have hn1 := inR_u16 hn1
  have hn2 := inR_u32 hn2
  have e : argsA Try.prog Try.f9.params.toList [[.c (.int .i64 n0)], [.c (.int .u16 n1)], [.c (.int .u32 n2)]] = [.c (.int .i64 n0), .c (.int .u16 n1), .c (.int .u32 n2)] := by kernel_rfl
  exact (congrArg (fun x => Con Try.prog L0 9 [] x [] (.c (.bool true))) e).mpr (con_Extends n0 n1 n2 (by simpa using hn1) (by simpa using hn2) (by simpa using hn0))

set_option maxRecDepth 100000 in
theorem packetExtends_lifted (os : Os) (started : os.Started) (H : Type) (enc : TypeId × Value → H) :
    ReturnsInHanded {} Try.checked os 9 .any (fun w args => (Rows.packetExtendsSpec.pre enc Try.prog Try.f9 [] false w args ∧ True) ∧ sizedMet enc Try.prog Try.f9 (OpenSpec.ofChange Rows.packetExtendsSpec) false w args)
      (Rows.packetExtendsSpec.post enc Try.prog Try.f9 false true false false) :=
  law_lifted (C := Try.checked) (X := (fun _ => True)) (L := L0) (World.doorLaid Try.prog 400 os) #[.int .i64 0, .int .u16 0, .int .u32 0] 12 (fun _ _ _ h => h) own started (by kernel_rfl) Try.func9 laidOut (by kernel_rfl) (by kernel_rfl) Try.underlying4 rfl
    (fun ds h => match ds, h with | [_, _, _], _ => rfl) rfl (World.shaped_of_RefB (by kernel_rfl) (by kernel_rfl)) (by kernel_rfl) (by kernel_rfl) (by kernel_rfl) trivial (fun _ _ => by intro g k l hg; cases hg) (by kernel_rfl) packetExtends_con

theorem packetExtends_holds : Rows.PacketExtendsSaid :=
  OpenClaim.holds_of_wide 9 Try.f9 rfl rfl rfl rfl rfl rfl rfl ⟨rfl, rfl, rfl, rfl, rfl⟩ rfl rfl rfl rfl rfl (by kernel_rfl) Try.func9 (by kernel_rfl)
    (of_decide_eq_true (by kernel_rfl)) (by unfold Func.isWrapper; first | (rw [if_pos (by decide +kernel)]; kernel_rfl) | (rw [if_neg (by decide +kernel)]; exact ⟨rfl, rfl⟩))
    (fun os started H enc _ => by rw [pre_plain rfl]; exact packetExtends_lifted os started H enc)
end Go.Proofs.Ytcnklcnehpkfaaa
