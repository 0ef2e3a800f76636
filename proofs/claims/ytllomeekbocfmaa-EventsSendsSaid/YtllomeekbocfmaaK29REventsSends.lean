/-
  EventsSends: for every input the call returns true and the arguments read as before.
-/
import Derived.Test.YtllomeekbocfmaaK29S
import Derived.Test.YtllomeekbocfmaaEvRow
import Derived.Test.YtllomeekbocfmaaRows
namespace Go.Proofs.Ytllomeekbocfmaa
open Go Go.Ev Go.ChangeShapes Go.WideShapes Go.ChangeAt Go.WideMaps Go.WideElems Go.RowKit
set_option linter.unusedVariables false
set_option linter.unusedSimpArgs false

set_option maxRecDepth 100000 in
theorem eventsSends_con (ls : List (List AV)) (h : FitsAll [[.bool, .int .u8, .int .u8, .int .u32, .int .i64, .int .i64], [.int .u8], [.int .u8], [.int .u32], [.int .i64]] ls) : Con Try.prog L0 7 [] (argsA Try.prog Try.f7.params.toList ls) [] (.c (.bool true)) := by
  simp only [FitsAll, Fits, Ev.Fit] at h
  obtain ⟨_, _, rfl, ⟨_, _, rfl, ⟨b0, rfl⟩, ⟨_, _, rfl, ⟨n0, rfl, hn0⟩, ⟨_, _, rfl, ⟨n1, rfl, hn1⟩, ⟨_, _, rfl, ⟨n2, rfl, hn2⟩, ⟨_, _, rfl, ⟨n3, rfl, hn3⟩, ⟨_, _, rfl, ⟨n4, rfl, hn4⟩, rfl⟩⟩⟩⟩⟩⟩, ⟨_, _, rfl, ⟨_, _, rfl, ⟨n5, rfl, hn5⟩, rfl⟩, ⟨_, _, rfl, ⟨_, _, rfl, ⟨n6, rfl, hn6⟩, rfl⟩, ⟨_, _, rfl, ⟨_, _, rfl, ⟨n7, rfl, hn7⟩, rfl⟩, ⟨_, _, rfl, ⟨_, _, rfl, ⟨n8, rfl, hn8⟩, rfl⟩, rfl⟩⟩⟩⟩⟩ := h
  have hn0 := inR_u8 hn0
  have hn1 := inR_u8 hn1
  have hn2 := inR_u32 hn2
  have hn3 := inR_i64 hn3
  have hn4 := inR_i64 hn4
  have hn5 := inR_u8 hn5
  have hn6 := inR_u8 hn6
  have hn7 := inR_u32 hn7
  have hn8 := inR_i64 hn8
  have e : argsA Try.prog Try.f7.params.toList [[.c (.bool b0), .c (.int .u8 n0), .c (.int .u8 n1), .c (.int .u32 n2), .c (.int .i64 n3), .c (.int .i64 n4)], [.c (.int .u8 n5)], [.c (.int .u8 n6)], [.c (.int .u32 n7)], [.c (.int .i64 n8)]] = [.a [.c (.bool b0), .c (.int .u8 n0), .c (.int .u8 n1), .c (.int .u32 n2), .c (.int .i64 n3), .c (.int .i64 n4)], .c (.int .u8 n5), .c (.int .u8 n6), .c (.int .u32 n7), .c (.int .i64 n8)] := by kernel_rfl
  exact (congrArg (fun x => Con Try.prog L0 7 [] x [] (.c (.bool true))) e).mpr (con_Sends ⟨b0, n0, n1, n2, n3, n4⟩ n5 n6 n7 n8)

set_option maxRecDepth 100000 in
theorem eventsSends_lifted (os : Os) (started : os.Started) (H : Type) (enc : TypeId × Value → H) :
    ReturnsInHanded {} Try.checked os 7 .any (fun w args => (Rows.eventsSendsSpec.pre enc Try.prog Try.f7 [] false w args ∧ True) ∧ sizedMet enc Try.prog Try.f7 (OpenSpec.ofChange Rows.eventsSendsSpec) false w args)
      (Rows.eventsSendsSpec.post enc Try.prog Try.f7 false true false false) :=
  law_lifted (C := Try.checked) (X := (fun _ => True)) (L := L0) (World.doorLaid Try.prog 400 os) #[.agg #[.bool false, .int .u8 0, .int .u8 0, .int .u32 0, .int .i64 0, .int .i64 0], .int .u8 0, .int .u8 0, .int .u32 0, .int .i64 0] 12 (fun _ _ _ h => h) own started (by kernel_rfl) Try.func7 laidOut (by kernel_rfl) (by kernel_rfl) Try.underlying4 rfl
    (fun ds h => match ds, h with | [_, _, _, _, _], _ => rfl) rfl (World.shaped_of_RefB (by kernel_rfl) (by kernel_rfl)) (by kernel_rfl) (by kernel_rfl) (by kernel_rfl) trivial (fun _ _ => by intro g k l hg; cases hg) (by kernel_rfl) eventsSends_con

theorem eventsSends_holds : Rows.EventsSendsSaid :=
  OpenClaim.holds_of_wide 7 Try.f7 rfl rfl rfl rfl rfl rfl rfl ⟨rfl, rfl, rfl, rfl, rfl⟩ rfl rfl rfl rfl rfl (by kernel_rfl) Try.func7 (by kernel_rfl)
    (of_decide_eq_true (by kernel_rfl)) (by unfold Func.isWrapper; first | (rw [if_pos (by decide +kernel)]; kernel_rfl) | (rw [if_neg (by decide +kernel)]; exact ⟨rfl, rfl⟩))
    (fun os started H enc _ => by rw [pre_plain rfl]; exact eventsSends_lifted os started H enc)
end Go.Proofs.Ytllomeekbocfmaa
