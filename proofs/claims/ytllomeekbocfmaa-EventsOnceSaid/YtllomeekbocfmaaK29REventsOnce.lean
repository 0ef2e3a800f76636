/-
  EventsOnce: for every input the call returns true and the arguments read as before.
-/
import Derived.Test.YtllomeekbocfmaaK29Q
import Derived.Test.YtllomeekbocfmaaEvRow
import Derived.Test.YtllomeekbocfmaaRows
namespace Go.Proofs.Ytllomeekbocfmaa
open Go Go.Ev Go.ChangeShapes Go.WideShapes Go.ChangeAt Go.WideMaps Go.WideElems Go.RowKit
set_option linter.unusedVariables false
set_option linter.unusedSimpArgs false

set_option maxRecDepth 100000 in
theorem eventsOnce_con (ls : List (List AV)) (h : FitsAll [[.int .u32], [.sr [.int .u8, .int .u8, .int .u8] 3], [.si .u16 2]] ls) : Con Try.prog L0 9 [] (argsA Try.prog Try.f9.params.toList ls) [] (.c (.bool true)) := by
  simp only [FitsAll, Fits, Ev.Fit] at h
  obtain ⟨_, _, rfl, ⟨_, _, rfl, ⟨n0, rfl, hn0⟩, rfl⟩, ⟨_, _, rfl, ⟨_, _, rfl, ⟨l0, rfl, hb0, hm0, hl0⟩, rfl⟩, ⟨_, _, rfl, ⟨_, _, rfl, ⟨l1, rfl, hb1, hm1, hl1⟩, rfl⟩, rfl⟩⟩⟩ := h
  have hn0 := inR_u32 hn0
  have hf0 : ∀ c ∈ l0, Fits [.int .u8, .int .u8, .int .u8] c := fun c hc => by simp only [Fits, Ev.Fit]; exact hl0 c hc
  have hl1 : ∀ x ∈ l1, _ ∧ _ := fun x hx => inR_u16 (hl1 x hx)
  have e : argsA Try.prog Try.f9.params.toList [[.c (.int .u32 n0)], [.rr 3 l0], [.ri .u16 l1]] = [.c (.int .u32 n0), .rr 3 l0, .ri .u16 l1] := by kernel_rfl
  exact (congrArg (fun x => Con Try.prog L0 9 [] x [] (.c (.bool true))) e).mpr (by obtain ⟨L, rfl, hL⟩ := rows_of aSt _ hf0 open_St; exact con_Once n0 L l1 hn0 hL hl1)

set_option maxRecDepth 100000 in
theorem eventsOnce_lifted (os : Os) (started : os.Started) (H : Type) (enc : TypeId × Value → H) :
    ReturnsInHanded {} Try.checked os 9 .any (fun w args => (Rows.eventsOnceSpec.pre enc Try.prog Try.f9 [] false w args ∧ True) ∧ sizedMet enc Try.prog Try.f9 (OpenSpec.ofChange Rows.eventsOnceSpec) false w args)
      (Rows.eventsOnceSpec.post enc Try.prog Try.f9 false true false false) :=
  law_lifted (C := Try.checked) (X := (fun _ => True)) (L := L0) (World.doorLaid Try.prog 400 os) #[.int .u32 0, .slice none 0 0, .slice none 0 0] 12 (fun _ _ _ h => h) own started (by kernel_rfl) Try.func9 laidOut (by kernel_rfl) (by kernel_rfl) Try.underlying4 rfl
    (fun ds h => match ds, h with | [_, _, _], _ => rfl) rfl (World.shaped_of_RefB (by kernel_rfl) (by kernel_rfl)) (by kernel_rfl) (by kernel_rfl) (by kernel_rfl) trivial (fun _ _ => by intro g k l hg; cases hg) (by kernel_rfl) eventsOnce_con

theorem eventsOnce_holds : Rows.EventsOnceSaid :=
  OpenClaim.holds_of_wide 9 Try.f9 rfl rfl rfl rfl rfl rfl rfl ⟨rfl, rfl, rfl, rfl, rfl⟩ rfl rfl rfl rfl rfl (by kernel_rfl) Try.func9 (by kernel_rfl)
    (of_decide_eq_true (by kernel_rfl)) (by unfold Func.isWrapper; first | (rw [if_pos (by decide +kernel)]; kernel_rfl) | (rw [if_neg (by decide +kernel)]; exact ⟨rfl, rfl⟩))
    (fun os started H enc _ => by rw [pre_plain rfl]; exact eventsOnce_lifted os started H enc)
end Go.Proofs.Ytllomeekbocfmaa
