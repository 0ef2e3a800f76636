/-
  EventsSilence: for every input the call returns true and the arguments read as before.
-/
import Derived.Test.YtllomeekbocfmaaK29G
import Derived.Test.YtllomeekbocfmaaEvRow
import Derived.Test.YtllomeekbocfmaaRows
namespace Go.Proofs.Ytllomeekbocfmaa
open Go Go.Ev Go.ChangeShapes Go.WideShapes Go.ChangeAt Go.WideMaps Go.WideElems Go.RowKit
set_option linter.unusedVariables false
set_option linter.unusedSimpArgs false

set_option maxRecDepth 100000 in
theorem eventsSilence_con (ls : List (List AV)) (h : FitsAll [[.int .i64], [.sr [.si .i16 2] 24]] ls) : Con Try.prog L0 5 [] (argsA Try.prog Try.f5.params.toList ls) [] (.c (.bool true)) := by
  simp only [FitsAll, Fits, Ev.Fit] at h
  obtain ⟨_, _, rfl, ⟨_, _, rfl, ⟨n0, rfl, hn0⟩, rfl⟩, ⟨_, _, rfl, ⟨_, _, rfl, ⟨l0, rfl, hb0, hm0, hl0⟩, rfl⟩, rfl⟩⟩ := h
  have hn0 := inR_i64 hn0
  have hf0 : ∀ c ∈ l0, Fits [.si .i16 2] c := fun c hc => by simp only [Fits, Ev.Fit]; exact hl0 c hc
  have e : argsA Try.prog Try.f5.params.toList [[.c (.int .i64 n0)], [.rr 1 l0]] = [.a [.c (.int .i64 n0)], .rr 1 l0] := by kernel_rfl
  exact (congrArg (fun x => Con Try.prog L0 5 [] x [] (.c (.bool true))) e).mpr (by obtain ⟨L, rfl, hL⟩ := rows_of aL _ hf0 open_L; exact con_Silences n0 L hL)

set_option maxRecDepth 100000 in
theorem eventsSilence_lifted (os : Os) (started : os.Started) (H : Type) (enc : TypeId × Value → H) :
    ReturnsInHanded {} Try.checked os 5 .any (fun w args => (Rows.eventsSilenceSpec.pre enc Try.prog Try.f5 [] false w args ∧ True) ∧ sizedMet enc Try.prog Try.f5 (OpenSpec.ofChange Rows.eventsSilenceSpec) false w args)
      (Rows.eventsSilenceSpec.post enc Try.prog Try.f5 false true false false) :=
  law_lifted (C := Try.checked) (X := (fun _ => True)) (L := L0) (World.doorLaid Try.prog 400 os) #[.agg #[.int .i64 0], .slice none 0 0] 12 (fun _ _ _ h => h) own started (by kernel_rfl) Try.func5 laidOut (by kernel_rfl) (by kernel_rfl) Try.underlying4 rfl
    (fun ds h => match ds, h with | [_, _], _ => rfl) rfl (World.shaped_of_RefB (by kernel_rfl) (by kernel_rfl)) (by kernel_rfl) (by kernel_rfl) (by kernel_rfl) trivial (fun _ _ => by intro g k l hg; cases hg) (by kernel_rfl) eventsSilence_con

theorem eventsSilence_holds : Rows.EventsSilenceSaid :=
  OpenClaim.holds_of_wide 5 Try.f5 rfl rfl rfl rfl rfl rfl rfl ⟨rfl, rfl, rfl, rfl, rfl⟩ rfl rfl rfl rfl rfl (by kernel_rfl) Try.func5 (by kernel_rfl)
    (of_decide_eq_true (by kernel_rfl)) (by unfold Func.isWrapper; first | (rw [if_pos (by decide +kernel)]; kernel_rfl) | (rw [if_neg (by decide +kernel)]; exact ⟨rfl, rfl⟩))
    (fun os started H enc _ => by rw [pre_plain rfl]; exact eventsSilence_lifted os started H enc)
end Go.Proofs.Ytllomeekbocfmaa
