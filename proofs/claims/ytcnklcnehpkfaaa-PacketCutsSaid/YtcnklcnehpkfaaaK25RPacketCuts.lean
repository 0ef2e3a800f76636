/-
  PacketCuts: for every input the call returns true and the arguments read as before.
-/
import Derived.Test.YtcnklcnehpkfaaaK25W
import Derived.Test.YtcnklcnehpkfaaaEvRow
import Derived.Test.YtcnklcnehpkfaaaRows
namespace Go.Proofs.Ytcnklcnehpkfaaa
open Go Go.Ev Go.ChangeShapes Go.WideShapes Go.ChangeAt Go.WideMaps Go.WideElems Go.RowKit
set_option linter.unusedVariables false
set_option linter.unusedSimpArgs false

set_option maxRecDepth 100000 in
theorem packetCuts_con (ls : List (List AV)) (h : FitsAll [[.bool, .int .u8, .int .u16, .int .u32, .int .u32, .si .u32 4, .bool, .int .u16, .si .u8 1, .si .u8 1, .int .i64], [.int .u16]] ls) : Con Try.prog L0 6 [] (argsA Try.prog Try.f6.params.toList ls) [] (.c (.bool true)) := by
  simp only [FitsAll, Fits, Ev.Fit] at h
  obtain ⟨_, _, rfl, ⟨_, _, rfl, ⟨b0, rfl⟩, ⟨_, _, rfl, ⟨n0, rfl, hn0⟩, ⟨_, _, rfl, ⟨n1, rfl, hn1⟩, ⟨_, _, rfl, ⟨n2, rfl, hn2⟩, ⟨_, _, rfl, ⟨n3, rfl, hn3⟩, ⟨_, _, rfl, ⟨l0, rfl, hb0, hm0, hl0⟩, ⟨_, _, rfl, ⟨b1, rfl⟩, ⟨_, _, rfl, ⟨n4, rfl, hn4⟩, ⟨_, _, rfl, ⟨l1, rfl, hb1, hm1, hl1⟩, ⟨_, _, rfl, ⟨l2, rfl, hb2, hm2, hl2⟩, ⟨_, _, rfl, ⟨n5, rfl, hn5⟩, rfl⟩⟩⟩⟩⟩⟩⟩⟩⟩⟩⟩, ⟨_, _, rfl, ⟨_, _, rfl, ⟨n6, rfl, hn6⟩, rfl⟩, rfl⟩⟩ := h
  have hn0 := inR_u8 hn0
  have hn1 := inR_u16 hn1
  have hn2 := inR_u32 hn2
  have hn3 := inR_u32 hn3
  have hl0 : ∀ x ∈ l0, _ ∧ _ := fun x hx => inR_u32 (hl0 x hx)
  have hn4 := inR_u16 hn4
  have hl1 : ∀ x ∈ l1, _ ∧ _ := fun x hx => inR_u8 (hl1 x hx)
  have hl2 : ∀ x ∈ l2, _ ∧ _ := fun x hx => inR_u8 (hl2 x hx)
  have hn5 := inR_i64 hn5
  have hn6 := inR_u16 hn6
  have e : argsA Try.prog Try.f6.params.toList [[.c (.bool b0), .c (.int .u8 n0), .c (.int .u16 n1), .c (.int .u32 n2), .c (.int .u32 n3), .ri .u32 l0, .c (.bool b1), .c (.int .u16 n4), .ri .u8 l1, .ri .u8 l2, .c (.int .i64 n5)], [.c (.int .u16 n6)]] = [.a [.c (.bool b0), .c (.int .u8 n0), .c (.int .u16 n1), .c (.int .u32 n2), .c (.int .u32 n3), .ri .u32 l0, .c (.bool b1), .c (.int .u16 n4), .ri .u8 l1, .ri .u8 l2, .c (.int .i64 n5)], .c (.int .u16 n6)] := by kernel_rfl
  exact (congrArg (fun x => Con Try.prog L0 6 [] x [] (.c (.bool true))) e).mpr (con_Cuts ⟨b0, n0, n1, n2, n3, l0, b1, n4, l1, l2, n5⟩ ⟨by simpa using hn0, by simpa using hn1, by simpa [Sp.r32] using hn2, by simpa [Sp.r32] using hn3, hl0, by simpa using hn4, hl1, hl2⟩ n6 (by simpa using hn6))

set_option maxRecDepth 100000 in
theorem packetCuts_lifted (os : Os) (started : os.Started) (H : Type) (enc : TypeId × Value → H) :
    ReturnsInHanded {} Try.checked os 6 .any (fun w args => (Rows.packetCutsSpec.pre enc Try.prog Try.f6 [] false w args ∧ True) ∧ sizedMet enc Try.prog Try.f6 (OpenSpec.ofChange Rows.packetCutsSpec) false w args)
      (Rows.packetCutsSpec.post enc Try.prog Try.f6 false true false false) :=
  law_lifted (C := Try.checked) (X := (fun _ => True)) (L := L0) (World.doorLaid Try.prog 400 os) #[.agg #[.bool false, .int .u8 0, .int .u16 0, .int .u32 0, .int .u32 0, .slice none 0 0, .bool false, .int .u16 0, .slice none 0 0, .slice none 0 0, .int .i64 0], .int .u16 0] 12 (fun _ _ _ h => h) own started (by kernel_rfl) Try.func6 laidOut (by kernel_rfl) (by kernel_rfl) Try.underlying4 rfl
    (fun ds h => match ds, h with | [_, _], _ => rfl) rfl (World.shaped_of_RefB (by kernel_rfl) (by kernel_rfl)) (by kernel_rfl) (by kernel_rfl) (by kernel_rfl) trivial (fun _ _ => by intro g k l hg; cases hg) (by kernel_rfl) packetCuts_con

theorem packetCuts_holds : Rows.PacketCutsSaid :=
  OpenClaim.holds_of_wide 6 Try.f6 rfl rfl rfl rfl rfl rfl rfl ⟨rfl, rfl, rfl, rfl, rfl⟩ rfl rfl rfl rfl rfl (by kernel_rfl) Try.func6 (by kernel_rfl)
    (of_decide_eq_true (by kernel_rfl)) (by unfold Func.isWrapper; first | (rw [if_pos (by decide +kernel)]; kernel_rfl) | (rw [if_neg (by decide +kernel)]; exact ⟨rfl, rfl⟩))
    (fun os started H enc _ => by rw [pre_plain rfl]; exact packetCuts_lifted os started H enc)
end Go.Proofs.Ytcnklcnehpkfaaa
