/-
  ReportArrives: for every input the call returns true and the arguments read as before.
-/
import Derived.Test.YtgkeopjnfkgpbaaK26I
import Derived.Test.YtgkeopjnfkgpbaaEvRow
import Derived.Test.YtgkeopjnfkgpbaaRows
namespace Go.Proofs.Ytgkeopjnfkgpbaa
open Go Go.Ev Go.ChangeShapes Go.WideShapes Go.ChangeAt Go.WideMaps Go.WideElems Go.RowKit
set_option linter.unusedVariables false
set_option linter.unusedSimpArgs false

set_option maxRecDepth 100000 in
theorem reportArrives_con (ls : List (List AV)) (h : FitsAll [[.bool, .int .i64, .int .i64, .int .i64, .int .i64, .int .i64, .int .i64, .int .i64], [.sr [.int .i64, .int .i64, .int .i64] 24], [.int .u32], [.int .u32], [.int .u32]] ls) : Con Try.prog L0 3 [] (argsA Try.prog Try.f3.params.toList ls) [] (.c (.bool true)) := by
  simp only [FitsAll, Fits, Ev.Fit] at h
  obtain ⟨_, _, rfl, ⟨_, _, rfl, ⟨b0, rfl⟩, ⟨_, _, rfl, ⟨n0, rfl, hn0⟩, ⟨_, _, rfl, ⟨n1, rfl, hn1⟩, ⟨_, _, rfl, ⟨n2, rfl, hn2⟩, ⟨_, _, rfl, ⟨n3, rfl, hn3⟩, ⟨_, _, rfl, ⟨n4, rfl, hn4⟩, ⟨_, _, rfl, ⟨n5, rfl, hn5⟩, ⟨_, _, rfl, ⟨n6, rfl, hn6⟩, rfl⟩⟩⟩⟩⟩⟩⟩⟩, ⟨_, _, rfl, ⟨_, _, rfl, ⟨l0, rfl, hb0, hm0, hl0⟩, rfl⟩, ⟨_, _, rfl, ⟨_, _, rfl, ⟨n7, rfl, hn7⟩, rfl⟩, ⟨_, _, rfl, ⟨_, _, rfl, ⟨n8, rfl, hn8⟩, rfl⟩, ⟨_, _, rfl, ⟨_, _, rfl, ⟨n9, rfl, hn9⟩, rfl⟩, rfl⟩⟩⟩⟩⟩ := h
  have hn0 := inR_i64 hn0
  have hn1 := inR_i64 hn1
  have hn2 := inR_i64 hn2
  have hn3 := inR_i64 hn3
  have hn4 := inR_i64 hn4
  have hn5 := inR_i64 hn5
  have hn6 := inR_i64 hn6
  have hf0 : ∀ c ∈ l0, Fits [.int .i64, .int .i64, .int .i64] c := fun c hc => by simp only [Fits, Ev.Fit]; exact hl0 c hc
  have hn7 := inR_u32 hn7
  have hn8 := inR_u32 hn8
  have hn9 := inR_u32 hn9
  have e : argsA Try.prog Try.f3.params.toList [[.c (.bool b0), .c (.int .i64 n0), .c (.int .i64 n1), .c (.int .i64 n2), .c (.int .i64 n3), .c (.int .i64 n4), .c (.int .i64 n5), .c (.int .i64 n6)], [.rr 3 l0], [.c (.int .u32 n7)], [.c (.int .u32 n8)], [.c (.int .u32 n9)]] = [.a [.c (.bool b0), .c (.int .i64 n0), .c (.int .i64 n1), .c (.int .i64 n2), .c (.int .i64 n3), .c (.int .i64 n4), .c (.int .i64 n5), .c (.int .i64 n6)], .rr 3 l0, .c (.int .u32 n7), .c (.int .u32 n8), .c (.int .u32 n9)] := by kernel_rfl
  exact (congrArg (fun x => Con Try.prog L0 3 [] x [] (.c (.bool true))) e).mpr (by obtain ⟨L, rfl, hL⟩ := rows_of aP _ hf0 open_P; exact con_LArrives ⟨b0, n0, n1, n2, n3, n4, n5, n6⟩ L n7 n8 n9)

set_option maxRecDepth 100000 in
theorem reportArrives_lifted (os : Os) (started : os.Started) (H : Type) (enc : TypeId × Value → H) :
    ReturnsInHanded {} Try.checked os 3 .any (fun w args => (Rows.reportArrivesSpec.pre enc Try.prog Try.f3 [] false w args ∧ True) ∧ sizedMet enc Try.prog Try.f3 (OpenSpec.ofChange Rows.reportArrivesSpec) false w args)
      (Rows.reportArrivesSpec.post enc Try.prog Try.f3 false true false false) :=
  law_lifted (C := Try.checked) (X := (fun _ => True)) (L := L0) (World.doorLaid Try.prog 400 os) #[.agg #[.bool false, .int .i64 0, .int .i64 0, .int .i64 0, .int .i64 0, .int .i64 0, .int .i64 0, .int .i64 0], .slice none 0 0, .int .u32 0, .int .u32 0, .int .u32 0] 12 (fun _ _ _ h => h) own started (by kernel_rfl) Try.func3 laidOut (by kernel_rfl) (by kernel_rfl) Try.underlying4 rfl
    (fun ds h => match ds, h with | [_, _, _, _, _], _ => rfl) rfl (World.shaped_of_RefB (by kernel_rfl) (by kernel_rfl)) (by kernel_rfl) (by kernel_rfl) (by kernel_rfl) trivial (fun _ _ => by intro g k l hg; cases hg) (by kernel_rfl) reportArrives_con

theorem reportArrives_holds : Rows.ReportArrivesSaid :=
  OpenClaim.holds_of_wide 3 Try.f3 rfl rfl rfl rfl rfl rfl rfl ⟨rfl, rfl, rfl, rfl, rfl⟩ rfl rfl rfl rfl rfl (by kernel_rfl) Try.func3 (by kernel_rfl)
    (of_decide_eq_true (by kernel_rfl)) (by unfold Func.isWrapper; first | (rw [if_pos (by decide +kernel)]; kernel_rfl) | (rw [if_neg (by decide +kernel)]; exact ⟨rfl, rfl⟩))
    (fun os started H enc _ => by rw [pre_plain rfl]; exact reportArrives_lifted os started H enc)
end Go.Proofs.Ytgkeopjnfkgpbaa
