/-
  ReportEncodes: for every input the call returns true and the arguments read as before.
-/
import Derived.Test.YtgkeopjnfkgpbaaK26O
import Derived.Test.YtgkeopjnfkgpbaaEvRow
import Derived.Test.YtgkeopjnfkgpbaaRows
namespace Go.Proofs.Ytgkeopjnfkgpbaa
open Go Go.Ev Go.ChangeShapes Go.WideShapes Go.ChangeAt Go.WideMaps Go.WideElems Go.RowKit
set_option linter.unusedVariables false
set_option linter.unusedSimpArgs false

set_option maxRecDepth 100000 in
theorem reportEncodes_con (ls : List (List AV)) (h : FitsAll [[.sr [.bool, .int .u32, .int .u64, .int .u32, .int .u32, .int .u32, .sr [.int .u32, .int .u8, .int .i64, .int .u32, .int .u32, .int .u32, .int .u32] 32] 56]] ls) : Con Try.prog L0 7 [] (argsA Try.prog Try.f7.params.toList ls) [] (.c (.bool true)) := by
  simp only [FitsAll, Fits, Ev.Fit] at h
  obtain ⟨_, _, rfl, ⟨_, _, rfl, ⟨l0, rfl, hb0, hm0, hl0⟩, rfl⟩, rfl⟩ := h
  have hf0 : ∀ c ∈ l0, Fits [.bool, .int .u32, .int .u64, .int .u32, .int .u32, .int .u32, .sr [.int .u32, .int .u8, .int .i64, .int .u32, .int .u32, .int .u32, .int .u32] 32] c := fun c hc => by simp only [Fits, Ev.Fit]; exact hl0 c hc
  have e : argsA Try.prog Try.f7.params.toList [[.rr 7 l0]] = [.rr 7 l0] := by kernel_rfl
  exact (congrArg (fun x => Con Try.prog L0 7 [] x [] (.c (.bool true))) e).mpr (by obtain ⟨L, rfl, hL⟩ := rows_of aR _ hf0 open_R; exact con_LEncodes L hL (by simpa using hb0))

set_option maxRecDepth 100000 in
theorem reportEncodes_lifted (os : Os) (started : os.Started) (H : Type) (enc : TypeId × Value → H) :
    ReturnsInHanded {} Try.checked os 7 .any (fun w args => (Rows.reportEncodesSpec.pre enc Try.prog Try.f7 [] false w args ∧ True) ∧ sizedMet enc Try.prog Try.f7 (OpenSpec.ofChange Rows.reportEncodesSpec) false w args)
      (Rows.reportEncodesSpec.post enc Try.prog Try.f7 false true false false) :=
  law_lifted (C := Try.checked) (X := (fun _ => True)) (L := L0) (World.doorLaid Try.prog 400 os) #[.slice none 0 0] 12 (fun _ _ _ h => h) own started (by kernel_rfl) Try.func7 laidOut (by kernel_rfl) (by kernel_rfl) Try.underlying4 rfl
    (fun ds h => match ds, h with | [_], _ => rfl) rfl (World.shaped_of_RefB (by kernel_rfl) (by kernel_rfl)) (by kernel_rfl) (by kernel_rfl) (by kernel_rfl) trivial (fun _ _ => by intro g k l hg; cases hg) (by kernel_rfl) reportEncodes_con

theorem reportEncodes_holds : Rows.ReportEncodesSaid :=
  OpenClaim.holds_of_wide 7 Try.f7 rfl rfl rfl rfl rfl rfl rfl ⟨rfl, rfl, rfl, rfl, rfl⟩ rfl rfl rfl rfl rfl (by kernel_rfl) Try.func7 (by kernel_rfl)
    (of_decide_eq_true (by kernel_rfl)) (by unfold Func.isWrapper; first | (rw [if_pos (by decide +kernel)]; kernel_rfl) | (rw [if_neg (by decide +kernel)]; exact ⟨rfl, rfl⟩))
    (fun os started H enc _ => by rw [pre_plain rfl]; exact reportEncodes_lifted os started H enc)
end Go.Proofs.Ytgkeopjnfkgpbaa
