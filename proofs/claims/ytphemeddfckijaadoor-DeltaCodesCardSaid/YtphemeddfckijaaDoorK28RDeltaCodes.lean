/-
  DeltaCodes: for every input the call returns true and the arguments read as before.
-/
import Derived.Test.YtphemeddfckijaaDoorK28Q
import Derived.Test.YtphemeddfckijaaDoorEvOpen
import Derived.Test.YtphemeddfckijaaDoorTie
import Derived.Test.YtphemeddfckijaaDoorCards
import Derived.SevenTiedAt
namespace Go.Proofs.YtphemeddfckijaaDoor
open Go Go.Ev Go.ChangeShapes Go.WideShapes Go.ChangeAt Go.WideMaps Go.WideElems Go.RowKit
set_option linter.unusedVariables false
set_option linter.unusedSimpArgs false

set_option maxRecDepth 100000 in
theorem deltaCodes_con (ls : List (List AV)) (h : FitsAll [[.int .i64, .int .i64], [.int .i16], [.int .u8]] ls) : Con Tryd.prog L0 3 [] (argsA Tryd.prog Tryd.f3.params.toList ls) [] (.c (.bool true)) := by
  simp only [FitsAll, Fits, Ev.Fit] at h
  obtain ⟨_, _, rfl, ⟨_, _, rfl, ⟨n0, rfl, hn0⟩, ⟨_, _, rfl, ⟨n1, rfl, hn1⟩, rfl⟩⟩, ⟨_, _, rfl, ⟨_, _, rfl, ⟨n2, rfl, hn2⟩, rfl⟩, ⟨_, _, rfl, ⟨_, _, rfl, ⟨n3, rfl, hn3⟩, rfl⟩, rfl⟩⟩⟩ := h
  have hn0 := inR_i64 hn0
  have hn1 := inR_i64 hn1
  have hn2 := inR_i16 hn2
  have hn3 := inR_u8 hn3
  have e : argsA Tryd.prog Tryd.f3.params.toList [[.c (.int .i64 n0), .c (.int .i64 n1)], [.c (.int .i16 n2)], [.c (.int .u8 n3)]] = [.a [.c (.int .i64 n0), .c (.int .i64 n1)], .c (.int .i16 n2), .c (.int .u8 n3)] := by kernel_rfl
  rw [e]
  exact con3 n0 n1 n2 n3 hn2 hn3

set_option maxRecDepth 100000 in
theorem deltaCodes_lifted (os : Os) (started : os.Started) (H : Type) (enc : TypeId × Value → H) :
    ReturnsInHanded {} Tryd.checked os 3 .any (fun w args => (Rows.deltaCodesSpec.pre enc Tryd.prog Tryd.f3 [] false w args ∧ laidMetH Tryd.prog Rows.deltaCodesRow.laid w) ∧ sizedMet enc Tryd.prog Tryd.f3 (OpenSpec.ofChange Rows.deltaCodesSpec) false w args)
      (Rows.deltaCodesSpec.post enc Tryd.prog Tryd.f3 false true false false) :=
  law_lifted (C := Tryd.checked) (X := (laidMetH Tryd.prog Rows.deltaCodesRow.laid)) (L := L0) (World.doorLaid Tryd.prog 400 os) #[.agg #[.int .i64 0, .int .i64 0], .int .i16 0, .int .u8 0] 12 (fun _ _ hh h => h.of_heap hh) own started (by kernel_rfl) Tryd.func3 laidOut (by kernel_rfl) (by kernel_rfl) Tryd.underlying4 rfl
    (fun ds h => match ds, h with | [_, _, _], _ => rfl) rfl (World.shaped_of_RefB (by kernel_rfl) (by kernel_rfl)) (by kernel_rfl) (by kernel_rfl) (by kernel_rfl) (YtphemeddfckijaaDoor_met os _) (fun _ => YtphemeddfckijaaDoor_laid) (by kernel_rfl) deltaCodes_con

theorem deltaCodes_holds : Rows.DeltaCodesSaid :=
  OpenClaim.holds_of_wide 3 Tryd.f3 rfl rfl rfl rfl rfl rfl rfl ⟨rfl, rfl, rfl, rfl, rfl⟩ rfl rfl rfl rfl rfl (by kernel_rfl) Tryd.func3 (by kernel_rfl)
    (of_decide_eq_true (by kernel_rfl)) (by unfold Func.isWrapper; first | (rw [if_pos (by decide +kernel)]; kernel_rfl) | (rw [if_neg (by decide +kernel)]; exact ⟨rfl, rfl⟩))
    (fun os started H enc _ => deltaCodes_lifted os started H enc)

theorem deltaCodes_card : Rows.DeltaCodesCardSaid :=
  Claim7.holds_tied_plain_at .later [] [.data] true (true, "0ccef64fe72710b09ccde7586819e9f72242edcc81081cc7f9fe914400ae899f") false
    deltaCodes_holds (fun _ h => by cases h) (by kernel_rfl) (fun _ h => by cases h) deltaCodes_row_tie rfl ⟨rfl, rfl⟩ (by kernel_rfl) rfl
    (fun f fn hf hfn => by
      obtain rfl : f = 3 := Option.some.inj ((show Tryd.prog.funcNamed "dialtone/dialtonelaw28.DeltaCodes" = some 3 by kernel_rfl).symm.trans hf) |>.symm
      obtain rfl : fn = Tryd.f3 := (Option.some.inj (Tryd.func3.symm.trans hfn)).symm
      exact ⟨by kernel_rfl, fun j t ht => by
        have h : ∀ t ∈ Tryd.f3.params.toList, Tryd.prog.wantsStandIn t = false := by
          rw [show Tryd.f3.params.toList = [23, 24, 5] from by kernel_rfl]
          simp only [List.forall_mem_cons, List.not_mem_nil, false_imp_iff, implies_true, and_true]
          exact ⟨by kernel_rfl, by kernel_rfl, by kernel_rfl⟩
        exact h t (List.mem_of_getElem? (by rw [Array.getElem?_toList]; exact ht))⟩)
    (by kernel_rfl)
end Go.Proofs.YtphemeddfckijaaDoor
