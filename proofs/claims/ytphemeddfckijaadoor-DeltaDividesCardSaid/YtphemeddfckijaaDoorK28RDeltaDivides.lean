/-
  DeltaDivides: for every input the call returns true and the arguments read as before.
-/
import Derived.Test.YtphemeddfckijaaDoorK28Q
import Derived.Test.YtphemeddfckijaaDoorEvOpen
import Derived.Test.YtphemeddfckijaaDoorTie
import Derived.Test.YtphemeddfckijaaDoorCards
import Derived.SevenTiedAt
namespace Go.Proofs.YtphemeddfckijaaDoor
open Go Go.Ev Go.ChangeShapes Go.WideShapes Go.ChangeAt Go.WideMaps Go.WideElems Go.RowKit
set_option linter.unusedVariables false
set_option linter.unusedSimpArgs false

set_option maxRecDepth 100000 in
theorem deltaDivides_con (ls : List (List AV)) (h : FitsAll [[.int .i64, .int .i64], [.si .i16 2], [.int .u16]] ls) : Con Tryd.prog L0 7 [] (argsA Tryd.prog Tryd.f7.params.toList ls) [] (.c (.bool true)) := by
  simp only [FitsAll, Fits, Ev.Fit] at h
  obtain ⟨_, _, rfl, ⟨_, _, rfl, ⟨n0, rfl, hn0⟩, ⟨_, _, rfl, ⟨n1, rfl, hn1⟩, rfl⟩⟩, ⟨_, _, rfl, ⟨_, _, rfl, ⟨l0, rfl, hb0, hm0, hl0⟩, rfl⟩, ⟨_, _, rfl, ⟨_, _, rfl, ⟨n2, rfl, hn2⟩, rfl⟩, rfl⟩⟩⟩ := h
  have hn0 := inR_i64 hn0
  have hn1 := inR_i64 hn1
  have hl0 : ∀ x ∈ l0, _ ∧ _ := fun x hx => inR_i16 (hl0 x hx)
  have hn2 := inR_u16 hn2
  have e : argsA Tryd.prog Tryd.f7.params.toList [[.c (.int .i64 n0), .c (.int .i64 n1)], [.ri .i16 l0], [.c (.int .u16 n2)]] = [.a [.c (.int .i64 n0), .c (.int .i64 n1)], .ri .i16 l0, .c (.int .u16 n2)] := by kernel_rfl
  rw [e]
  exact con7' n0 n1 l0 n2 hl0 hn2

set_option maxRecDepth 100000 in
theorem deltaDivides_lifted (os : Os) (started : os.Started) (H : Type) (enc : TypeId × Value → H) :
    ReturnsInHanded {} Tryd.checked os 7 .any (fun w args => (Rows.deltaDividesSpec.pre enc Tryd.prog Tryd.f7 [] false w args ∧ laidMetH Tryd.prog Rows.deltaDividesRow.laid w) ∧ sizedMet enc Tryd.prog Tryd.f7 (OpenSpec.ofChange Rows.deltaDividesSpec) false w args)
      (Rows.deltaDividesSpec.post enc Tryd.prog Tryd.f7 false true false false) :=
  law_lifted (C := Tryd.checked) (X := (laidMetH Tryd.prog Rows.deltaDividesRow.laid)) (L := L0) (World.doorLaid Tryd.prog 400 os) #[.agg #[.int .i64 0, .int .i64 0], .slice none 0 0, .int .u16 0] 12 (fun _ _ hh h => h.of_heap hh) own started (by kernel_rfl) Tryd.func7 laidOut (by kernel_rfl) (by kernel_rfl) Tryd.underlying4 rfl
    (fun ds h => match ds, h with | [_, _, _], _ => rfl) rfl (World.shaped_of_RefB (by kernel_rfl) (by kernel_rfl)) (by kernel_rfl) (by kernel_rfl) (by kernel_rfl) (YtphemeddfckijaaDoor_met os _) (fun _ => YtphemeddfckijaaDoor_laid) (by kernel_rfl) deltaDivides_con

theorem deltaDivides_holds : Rows.DeltaDividesSaid :=
  OpenClaim.holds_of_wide 7 Tryd.f7 rfl rfl rfl rfl rfl rfl rfl ⟨rfl, rfl, rfl, rfl, rfl⟩ rfl rfl rfl rfl rfl (by kernel_rfl) Tryd.func7 (by kernel_rfl)
    (of_decide_eq_true (by kernel_rfl)) (by unfold Func.isWrapper; first | (rw [if_pos (by decide +kernel)]; kernel_rfl) | (rw [if_neg (by decide +kernel)]; exact ⟨rfl, rfl⟩))
    (fun os started H enc _ => deltaDivides_lifted os started H enc)

theorem deltaDivides_card : Rows.DeltaDividesCardSaid :=
  Claim7.holds_tied_plain_at .later [] [.data] true (true, "0ccef64fe72710b09ccde7586819e9f72242edcc81081cc7f9fe914400ae899f") false
    deltaDivides_holds (fun _ h => by cases h) (by kernel_rfl) (fun _ h => by cases h) deltaDivides_row_tie rfl ⟨rfl, rfl⟩ (by kernel_rfl) rfl
    (fun f fn hf hfn => by
      obtain rfl : f = 7 := Option.some.inj ((show Tryd.prog.funcNamed "dialtone/dialtonelaw28.DeltaDivides" = some 7 by kernel_rfl).symm.trans hf) |>.symm
      obtain rfl : fn = Tryd.f7 := (Option.some.inj (Tryd.func7.symm.trans hfn)).symm
      exact ⟨by kernel_rfl, fun j t ht => by
        have h : ∀ t ∈ Tryd.f7.params.toList, Tryd.prog.wantsStandIn t = false := by
          rw [show Tryd.f7.params.toList = [23, 36, 44] from by kernel_rfl]
          simp only [List.forall_mem_cons, List.not_mem_nil, false_imp_iff, implies_true, and_true]
          exact ⟨by kernel_rfl, by kernel_rfl, by kernel_rfl⟩
        exact h t (List.mem_of_getElem? (by rw [Array.getElem?_toList]; exact ht))⟩)
    (by kernel_rfl)
end Go.Proofs.YtphemeddfckijaaDoor
