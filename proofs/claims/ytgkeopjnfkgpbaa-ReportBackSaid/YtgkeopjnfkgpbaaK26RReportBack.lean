/-
  ReportBack: for every input the call returns true and the arguments read as before.
-/
import Derived.Test.YtgkeopjnfkgpbaaK26Q
import Derived.Test.YtgkeopjnfkgpbaaEvRow
import Derived.Test.YtgkeopjnfkgpbaaRows
namespace Go.Proofs.Ytgkeopjnfkgpbaa
open Go Go.Ev Go.ChangeShapes Go.WideShapes Go.ChangeAt Go.WideMaps Go.WideElems Go.RowKit
set_option linter.unusedVariables false
set_option linter.unusedSimpArgs false

set_option maxRecDepth 100000 in
theorem reportBack_con (ls : List (List AV)) (h : FitsAll [[.sr [.bool, .int .u32, .int .u64, .int .u32, .int .u32, .int .u32, .sr [.int .u32, .int .u8, .int .i64, .int .u32, .int .u32, .int .u32, .int .u32] 32] 56], [.si .u8 1]] ls) : Con Try.prog L0 9 [] (argsA Try.prog Try.f9.params.toList ls) [] (.c (.bool true)) := by
  simp only [FitsAll, Fits, Ev.Fit] at h
  obtain ⟨_, _, rfl, ⟨_, _, rfl, ⟨l0, rfl, hb0, hm0, hl0⟩, rfl⟩, ⟨_, _, rfl, ⟨_, _, rfl, ⟨l1, rfl, hb1, hm1, hl1⟩, rfl⟩, rfl⟩⟩ := h
  have hf0 : ∀ c ∈ l0, Fits [.bool, .int .u32, .int .u64, .int .u32, .int .u32, .int .u32, .sr [.int .u32, .int .u8, .int .i64, .int .u32, .int .u32, .int .u32, .int .u32] 32] c := fun c hc => by simp only [Fits, Ev.Fit]; exact hl0 c hc
  have hl1 : ∀ x ∈ l1, _ ∧ _ := fun x hx => inR_u8 (hl1 x hx)
  have e : argsA Try.prog Try.f9.params.toList [[.rr 7 l0], [.ri .u8 l1]] = [.rr 7 l0, .ri .u8 l1] := by kernel_rfl
  exact (congrArg (fun x => Con Try.prog L0 9 [] x [] (.c (.bool true))) e).mpr (by obtain ⟨L, rfl, hL⟩ := rows_of aR _ hf0 open_R; exact con_LBack L hL (by simpa using hb0) l1 hl1)

set_option maxRecDepth 100000 in
theorem reportBack_lifted (os : Os) (started : os.Started) (H : Type) (enc : TypeId × Value → H) :
    ReturnsInHanded {} Try.checked os 9 .any (fun w args => (Rows.reportBackSpec.pre enc Try.prog Try.f9 [] false w args ∧ True) ∧ sizedMet enc Try.prog Try.f9 (OpenSpec.ofChange Rows.reportBackSpec) false w args)
      (Rows.reportBackSpec.post enc Try.prog Try.f9 false true false false) :=
  law_lifted (C := Try.checked) (X := (fun _ => True)) (L := L0) (World.doorLaid Try.prog 400 os) #[.slice none 0 0, .slice none 0 0] 12 (fun _ _ _ h => h) own started (by kernel_rfl) Try.func9 laidOut (by kernel_rfl) (by kernel_rfl) Try.underlying4 rfl
    (fun ds h => match ds, h with | [_, _], _ => rfl) rfl (World.shaped_of_RefB (by kernel_rfl) (by kernel_rfl)) (by kernel_rfl) (by kernel_rfl) (by kernel_rfl) trivial (fun _ _ => by intro g k l hg; cases hg) (by kernel_rfl) reportBack_con

theorem reportBack_holds : Rows.ReportBackSaid :=
  OpenClaim.holds_of_wide 9 Try.f9 rfl rfl rfl rfl rfl rfl rfl ⟨rfl, rfl, rfl, rfl, rfl⟩ rfl rfl rfl rfl rfl (by kernel_rfl) Try.func9 (by kernel_rfl)
    (of_decide_eq_true (by kernel_rfl)) (by unfold Func.isWrapper; first | (rw [if_pos (by decide +kernel)]; kernel_rfl) | (rw [if_neg (by decide +kernel)]; exact ⟨rfl, rfl⟩))
    (fun os started H enc _ => by rw [pre_plain rfl]; exact reportBack_lifted os started H enc)
end Go.Proofs.Ytgkeopjnfkgpbaa
