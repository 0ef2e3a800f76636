/-
  EventsHears: for every input the call returns true and the arguments read as before.
-/
import Derived.Test.YtllomeekbocfmaaK29E
import Derived.Test.YtllomeekbocfmaaEvRow
import Derived.Test.YtllomeekbocfmaaRows
namespace Go.Proofs.Ytllomeekbocfmaa
open Go Go.Ev Go.ChangeShapes Go.WideShapes Go.ChangeAt Go.WideMaps Go.WideElems Go.RowKit
set_option linter.unusedVariables false
set_option linter.unusedSimpArgs false

set_option maxRecDepth 100000 in
theorem eventsHears_con (ls : List (List AV)) (h : FitsAll [[.bool, .int .u32, .int .u8, .int .i64, .bool], [.sr [.int .u32, .int .u8, .bool, .int .u8, .int .u16] 12]] ls) : Con Try.prog L0 3 [] (argsA Try.prog Try.f3.params.toList ls) [] (.c (.bool true)) := by
  simp only [FitsAll, Fits, Ev.Fit] at h
  obtain ⟨_, _, rfl, ⟨_, _, rfl, ⟨b0, rfl⟩, ⟨_, _, rfl, ⟨n0, rfl, hn0⟩, ⟨_, _, rfl, ⟨n1, rfl, hn1⟩, ⟨_, _, rfl, ⟨n2, rfl, hn2⟩, ⟨_, _, rfl, ⟨b1, rfl⟩, rfl⟩⟩⟩⟩⟩, ⟨_, _, rfl, ⟨_, _, rfl, ⟨l0, rfl, hb0, hm0, hl0⟩, rfl⟩, rfl⟩⟩ := h
  have hn0 := inR_u32 hn0
  have hn1 := inR_u8 hn1
  have hn2 := inR_i64 hn2
  have hf0 : ∀ c ∈ l0, Fits [.int .u32, .int .u8, .bool, .int .u8, .int .u16] c := fun c hc => by simp only [Fits, Ev.Fit]; exact hl0 c hc
  have e : argsA Try.prog Try.f3.params.toList [[.c (.bool b0), .c (.int .u32 n0), .c (.int .u8 n1), .c (.int .i64 n2), .c (.bool b1)], [.rr 5 l0]] = [.a [.c (.bool b0), .c (.int .u32 n0), .c (.int .u8 n1), .c (.int .i64 n2), .c (.bool b1)], .rr 5 l0] := by kernel_rfl
  exact (congrArg (fun x => Con Try.prog L0 3 [] x [] (.c (.bool true))) e).mpr (by obtain ⟨L, rfl, hL⟩ := rows_of aH _ hf0 open_Heard; exact con_Hears ⟨b0, n0, n1, n2, b1⟩ hn0 L hL)

set_option maxRecDepth 100000 in
theorem eventsHears_lifted (os : Os) (started : os.Started) (H : Type) (enc : TypeId × Value → H) :
    ReturnsInHanded {} Try.checked os 3 .any (fun w args => (Rows.eventsHearsSpec.pre enc Try.prog Try.f3 [] false w args ∧ True) ∧ sizedMet enc Try.prog Try.f3 (OpenSpec.ofChange Rows.eventsHearsSpec) false w args)
      (Rows.eventsHearsSpec.post enc Try.prog Try.f3 false true false false) :=
  law_lifted (C := Try.checked) (X := (fun _ => True)) (L := L0) (World.doorLaid Try.prog 400 os) #[.agg #[.bool false, .int .u32 0, .int .u8 0, .int .i64 0, .bool false], .slice none 0 0] 12 (fun _ _ _ h => h) own started (by kernel_rfl) Try.func3 laidOut (by kernel_rfl) (by kernel_rfl) Try.underlying4 rfl
    (fun ds h => match ds, h with | [_, _], _ => rfl) rfl (World.shaped_of_RefB (by kernel_rfl) (by kernel_rfl)) (by kernel_rfl) (by kernel_rfl) (by kernel_rfl) trivial (fun _ _ => by intro g k l hg; cases hg) (by kernel_rfl) eventsHears_con

theorem eventsHears_holds : Rows.EventsHearsSaid :=
  OpenClaim.holds_of_wide 3 Try.f3 rfl rfl rfl rfl rfl rfl rfl ⟨rfl, rfl, rfl, rfl, rfl⟩ rfl rfl rfl rfl rfl (by kernel_rfl) Try.func3 (by kernel_rfl)
    (of_decide_eq_true (by kernel_rfl)) (by unfold Func.isWrapper; first | (rw [if_pos (by decide +kernel)]; kernel_rfl) | (rw [if_neg (by decide +kernel)]; exact ⟨rfl, rfl⟩))
    (fun os started H enc _ => by rw [pre_plain rfl]; exact eventsHears_lifted os started H enc)
end Go.Proofs.Ytllomeekbocfmaa
