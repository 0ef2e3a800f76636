/-
  CompandPacks: for every input the call returns true and the arguments read as before.
-/
import Derived.Test.YtmghbhaocfehnaaK27F
import Derived.Test.YtmghbhaocfehnaaEvOpen
import Derived.Test.YtmghbhaocfehnaaRows
namespace Go.Proofs.Ytmghbhaocfehnaa
open Go Go.Ev Go.ChangeShapes Go.WideShapes Go.ChangeAt Go.WideMaps Go.WideElems Go.RowKit
set_option linter.unusedVariables false
set_option linter.unusedSimpArgs false

set_option maxRecDepth 100000 in
theorem compandPacks_con (ls : List (List AV)) (h : FitsAll [[.int .u8], [.si .i16 2], [.si .u8 1]] ls) : Con Try.prog L0 5 [] (argsA Try.prog Try.f5.params.toList ls) [] (.c (.bool true)) := by
  simp only [FitsAll, Fits, Ev.Fit] at h
  obtain ⟨_, _, rfl, ⟨_, _, rfl, ⟨n0, rfl, hn0⟩, rfl⟩, ⟨_, _, rfl, ⟨_, _, rfl, ⟨l0, rfl, hb0, hm0, hl0⟩, rfl⟩, ⟨_, _, rfl, ⟨_, _, rfl, ⟨l1, rfl, hb1, hm1, hl1⟩, rfl⟩, rfl⟩⟩⟩ := h
  have hn0 := inR_u8 hn0
  have hl0 : ∀ x ∈ l0, _ ∧ _ := fun x hx => inR_i16 (hl0 x hx)
  have hl1 : ∀ x ∈ l1, _ ∧ _ := fun x hx => inR_u8 (hl1 x hx)
  have e : argsA Try.prog Try.f5.params.toList [[.c (.int .u8 n0)], [.ri .i16 l0], [.ri .u8 l1]] = [.c (.int .u8 n0), .ri .i16 l0, .ri .u8 l1] := by kernel_rfl
  rw [e]
  exact con_Packs n0 l0 l1 hl0 hl1

set_option maxRecDepth 100000 in
theorem compandPacks_lifted (os : Os) (started : os.Started) (H : Type) (enc : TypeId × Value → H) :
    ReturnsInHanded {} Try.checked os 5 .any (fun w args => (Rows.compandPacksSpec.pre enc Try.prog Try.f5 [] false w args ∧ True) ∧ sizedMet enc Try.prog Try.f5 (OpenSpec.ofChange Rows.compandPacksSpec) false w args)
      (Rows.compandPacksSpec.post enc Try.prog Try.f5 false true false false) :=
  law_lifted (C := Try.checked) (X := (fun _ => True)) (L := L0) (World.doorLaid Try.prog 400 os) #[.int .u8 0, .slice none 0 0, .slice none 0 0] 12 (fun _ _ _ h => h) own started (by kernel_rfl) Try.func5 laidOut (by kernel_rfl) (by kernel_rfl) Try.underlying4 rfl
    (fun ds h => match ds, h with | [_, _, _], _ => rfl) rfl (World.shaped_of_RefB (by kernel_rfl) (by kernel_rfl)) (by kernel_rfl) (by kernel_rfl) (by kernel_rfl) trivial (fun _ _ => by intro g k l hg; cases hg) (by kernel_rfl) compandPacks_con

theorem compandPacks_holds : Rows.CompandPacksSaid :=
  OpenClaim.holds_of_wide 5 Try.f5 rfl rfl rfl rfl rfl rfl rfl ⟨rfl, rfl, rfl, rfl, rfl⟩ rfl rfl rfl rfl rfl (by kernel_rfl) Try.func5 (by kernel_rfl)
    (of_decide_eq_true (by kernel_rfl)) (by unfold Func.isWrapper; first | (rw [if_pos (by decide +kernel)]; kernel_rfl) | (rw [if_neg (by decide +kernel)]; exact ⟨rfl, rfl⟩))
    (fun os started H enc _ => by rw [pre_plain rfl]; exact compandPacks_lifted os started H enc)
end Go.Proofs.Ytmghbhaocfehnaa
