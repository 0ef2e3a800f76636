/-
  ReportLoses: for every input the call returns true and the arguments read as before.
-/
import Derived.Test.YtgkeopjnfkgpbaaK26K
import Derived.Test.YtgkeopjnfkgpbaaEvRow
import Derived.Test.YtgkeopjnfkgpbaaRows
namespace Go.Proofs.Ytgkeopjnfkgpbaa
open Go Go.Ev Go.ChangeShapes Go.WideShapes Go.ChangeAt Go.WideMaps Go.WideElems Go.RowKit
set_option linter.unusedVariables false
set_option linter.unusedSimpArgs false

set_option maxRecDepth 100000 in
theorem reportLoses_con (ls : List (List AV)) (h : FitsAll [[.int .u32], [.sr [.bool] 1], [.int .u8]] ls) : Con Try.prog L0 4 [] (argsA Try.prog Try.f4.params.toList ls) [] (.c (.bool true)) := by
  simp only [FitsAll, Fits, Ev.Fit] at h
  obtain ⟨_, _, rfl, ⟨_, _, rfl, ⟨n0, rfl, hn0⟩, rfl⟩, ⟨_, _, rfl, ⟨_, _, rfl, ⟨l0, rfl, hb0, hm0, hl0⟩, rfl⟩, ⟨_, _, rfl, ⟨_, _, rfl, ⟨n1, rfl, hn1⟩, rfl⟩, rfl⟩⟩⟩ := h
  have hn0 := inR_u32 hn0
  have hf0 : ∀ c ∈ l0, Fits [.bool] c := fun c hc => by simp only [Fits, Ev.Fit]; exact hl0 c hc
  have hn1 := inR_u8 hn1
  have e : argsA Try.prog Try.f4.params.toList [[.c (.int .u32 n0)], [.rr 1 l0], [.c (.int .u8 n1)]] = [.c (.int .u32 n0), .rr 1 l0, .c (.int .u8 n1)] := by kernel_rfl
  exact (congrArg (fun x => Con Try.prog L0 4 [] x [] (.c (.bool true))) e).mpr (by obtain ⟨L, rfl, hL⟩ := rows_of aB _ hf0 open_B; exact con_LLoses n0 L n1 hn0 hn1)

set_option maxRecDepth 100000 in
theorem reportLoses_lifted (os : Os) (started : os.Started) (H : Type) (enc : TypeId × Value → H) :
    ReturnsInHanded {} Try.checked os 4 .any (fun w args => (Rows.reportLosesSpec.pre enc Try.prog Try.f4 [] false w args ∧ True) ∧ sizedMet enc Try.prog Try.f4 (OpenSpec.ofChange Rows.reportLosesSpec) false w args)
      (Rows.reportLosesSpec.post enc Try.prog Try.f4 false true false false) :=
  law_lifted (C := Try.checked) (X := (fun _ => True)) (L := L0) (World.doorLaid Try.prog 400 os) #[.int .u32 0, .slice none 0 0, .int .u8 0] 12 (fun _ _ _ h => h) own started (by kernel_rfl) Try.func4 laidOut (by kernel_rfl) (by kernel_rfl) Try.underlying4 rfl
    (fun ds h => match ds, h with | [_, _, _], _ => rfl) rfl (World.shaped_of_RefB (by kernel_rfl) (by kernel_rfl)) (by kernel_rfl) (by kernel_rfl) (by kernel_rfl) trivial (fun _ _ => by intro g k l hg; cases hg) (by kernel_rfl) reportLoses_con

theorem reportLoses_holds : Rows.ReportLosesSaid :=
  OpenClaim.holds_of_wide 4 Try.f4 rfl rfl rfl rfl rfl rfl rfl ⟨rfl, rfl, rfl, rfl, rfl⟩ rfl rfl rfl rfl rfl (by kernel_rfl) Try.func4 (by kernel_rfl)
    (of_decide_eq_true (by kernel_rfl)) (by unfold Func.isWrapper; first | (rw [if_pos (by decide +kernel)]; kernel_rfl) | (rw [if_neg (by decide +kernel)]; exact ⟨rfl, rfl⟩))
    (fun os started H enc _ => by rw [pre_plain rfl]; exact reportLoses_lifted os started H enc)
end Go.Proofs.Ytgkeopjnfkgpbaa
