/-
  ReportKnown: for every input the call returns true and the arguments read as before.
-/
import Derived.Test.YtgkeopjnfkgpbaaK26I
import Derived.Test.YtgkeopjnfkgpbaaEvRow
import Derived.Test.YtgkeopjnfkgpbaaRows
namespace Go.Proofs.Ytgkeopjnfkgpbaa
open Go Go.Ev Go.ChangeShapes Go.WideShapes Go.ChangeAt Go.WideMaps Go.WideElems Go.RowKit
set_option linter.unusedVariables false
set_option linter.unusedSimpArgs false

set_option maxRecDepth 100000 in
theorem reportKnown_con (ls : List (List AV)) (h : FitsAll [] ls) : Con Try.prog L0 6 [] (argsA Try.prog Try.f6.params.toList ls) [] (.c (.bool true)) := by
  simp only [FitsAll, Fits, Ev.Fit] at h
  obtain rfl := h
  have e : argsA Try.prog Try.f6.params.toList [] = [] := by kernel_rfl
  exact (congrArg (fun x => Con Try.prog L0 6 [] x [] (.c (.bool true))) e).mpr (con_LKnown)

set_option maxRecDepth 100000 in
theorem reportKnown_lifted (os : Os) (started : os.Started) (H : Type) (enc : TypeId × Value → H) :
    ReturnsInHanded {} Try.checked os 6 .any (fun w args => (Rows.reportKnownSpec.pre enc Try.prog Try.f6 [] false w args ∧ True) ∧ sizedMet enc Try.prog Try.f6 (OpenSpec.ofChange Rows.reportKnownSpec) false w args)
      (Rows.reportKnownSpec.post enc Try.prog Try.f6 false true false false) :=
  law_lifted (C := Try.checked) (X := (fun _ => True)) (L := L0) (World.doorLaid Try.prog 400 os) #[] 12 (fun _ _ _ h => h) own started (by kernel_rfl) Try.func6 laidOut (by kernel_rfl) (by kernel_rfl) Try.underlying4 rfl
    (fun ds h => match ds, h with | [], _ => rfl) rfl (World.shaped_of_RefB (by kernel_rfl) (by kernel_rfl)) (by kernel_rfl) (by kernel_rfl) (by kernel_rfl) trivial (fun _ _ => by intro g k l hg; cases hg) (by kernel_rfl) reportKnown_con

theorem reportKnown_holds : Rows.ReportKnownSaid :=
  OpenClaim.holds_of_wide 6 Try.f6 rfl rfl rfl rfl rfl rfl rfl ⟨rfl, rfl, rfl, rfl, rfl⟩ rfl rfl rfl rfl rfl (by kernel_rfl) Try.func6 (by kernel_rfl)
    (of_decide_eq_true (by kernel_rfl)) (by unfold Func.isWrapper; first | (rw [if_pos (by decide +kernel)]; kernel_rfl) | (rw [if_neg (by decide +kernel)]; exact ⟨rfl, rfl⟩))
    (fun os started H enc _ => by rw [pre_plain rfl]; exact reportKnown_lifted os started H enc)
end Go.Proofs.Ytgkeopjnfkgpbaa
