/-
  DeltaKnown: for every input the call returns true and the arguments read as before.
-/
import Derived.Test.YtphemeddfckijaaDoorK28Q
import Derived.Test.YtphemeddfckijaaDoorEvOpen
import Derived.Test.YtphemeddfckijaaDoorTie
import Derived.Test.YtphemeddfckijaaDoorCards
import Derived.SevenTiedAt
namespace Go.Proofs.YtphemeddfckijaaDoor
open Go Go.Ev Go.ChangeShapes Go.WideShapes Go.ChangeAt Go.WideMaps Go.WideElems Go.RowKit
set_option linter.unusedVariables false
set_option linter.unusedSimpArgs false

set_option maxRecDepth 100000 in
theorem deltaKnown_con (ls : List (List AV)) (h : FitsAll [] ls) : Con Tryd.prog L0 8 [] (argsA Tryd.prog Tryd.f8.params.toList ls) [] (.c (.bool true)) := by
  simp only [FitsAll, Fits, Ev.Fit] at h
  obtain rfl := h
  have e : argsA Tryd.prog Tryd.f8.params.toList [] = [] := by kernel_rfl
  rw [e]
  exact con8

set_option maxRecDepth 100000 in
theorem deltaKnown_lifted (os : Os) (started : os.Started) (H : Type) (enc : TypeId × Value → H) :
    ReturnsInHanded {} Tryd.checked os 8 .any (fun w args => (Rows.deltaKnownSpec.pre enc Tryd.prog Tryd.f8 [] false w args ∧ laidMetH Tryd.prog Rows.deltaKnownRow.laid w) ∧ sizedMet enc Tryd.prog Tryd.f8 (OpenSpec.ofChange Rows.deltaKnownSpec) false w args)
      (Rows.deltaKnownSpec.post enc Tryd.prog Tryd.f8 false true false false) :=
  law_lifted (C := Tryd.checked) (X := (laidMetH Tryd.prog Rows.deltaKnownRow.laid)) (L := L0) (World.doorLaid Tryd.prog 400 os) #[] 12 (fun _ _ hh h => h.of_heap hh) own started (by kernel_rfl) Tryd.func8 laidOut (by kernel_rfl) (by kernel_rfl) Tryd.underlying4 rfl
    (fun ds h => match ds, h with | [], _ => rfl) rfl (World.shaped_of_RefB (by kernel_rfl) (by kernel_rfl)) (by kernel_rfl) (by kernel_rfl) (by kernel_rfl) (YtphemeddfckijaaDoor_met os _) (fun _ => YtphemeddfckijaaDoor_laid) (by kernel_rfl) deltaKnown_con

theorem deltaKnown_holds : Rows.DeltaKnownSaid :=
  OpenClaim.holds_of_wide 8 Tryd.f8 rfl rfl rfl rfl rfl rfl rfl ⟨rfl, rfl, rfl, rfl, rfl⟩ rfl rfl rfl rfl rfl (by kernel_rfl) Tryd.func8 (by kernel_rfl)
    (of_decide_eq_true (by kernel_rfl)) (by unfold Func.isWrapper; first | (rw [if_pos (by decide +kernel)]; kernel_rfl) | (rw [if_neg (by decide +kernel)]; exact ⟨rfl, rfl⟩))
    (fun os started H enc _ => deltaKnown_lifted os started H enc)

theorem deltaKnown_card : Rows.DeltaKnownCardSaid :=
  Claim7.holds_tied_plain_at .later [] [.data] true (true, "0ccef64fe72710b09ccde7586819e9f72242edcc81081cc7f9fe914400ae899f") false
    deltaKnown_holds (fun _ h => by cases h) (by kernel_rfl) (fun _ h => by cases h) deltaKnown_row_tie rfl ⟨rfl, rfl⟩ (by kernel_rfl) rfl
    (fun f fn hf hfn => by
      obtain rfl : f = 8 := Option.some.inj ((show Tryd.prog.funcNamed "dialtone/dialtonelaw28.DeltaKnown" = some 8 by kernel_rfl).symm.trans hf) |>.symm
      obtain rfl : fn = Tryd.f8 := (Option.some.inj (Tryd.func8.symm.trans hfn)).symm
      exact ⟨by kernel_rfl, fun j t ht => by
        have h : ∀ t ∈ Tryd.f8.params.toList, Tryd.prog.wantsStandIn t = false := by
          rw [show Tryd.f8.params.toList = [] from by kernel_rfl]
          simp
        exact h t (List.mem_of_getElem? (by rw [Array.getElem?_toList]; exact ht))⟩)
    (by kernel_rfl)
end Go.Proofs.YtphemeddfckijaaDoor
