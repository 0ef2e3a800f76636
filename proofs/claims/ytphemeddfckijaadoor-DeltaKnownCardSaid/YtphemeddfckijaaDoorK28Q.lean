/-
  The seat's listed variable: what the row says of it gives the walks' table; the witness.
-/
import Derived.Test.YtphemeddfckijaaDoorTie
import Derived.Test.YtphemeddfckijaaDoorCards
import Derived.Test.YtphemeddfckijaaDoorK28L
import Derived.Test.YtphemeddfckijaaDoorEvLaw
import Derived.SevenTiedAt
namespace Go.Proofs.YtphemeddfckijaaDoor
open Go Go.Ev Go.ChangeShapes Go.WideShapes Go.ChangeAt Go.WideMaps Go.WideElems Go.RowKit
set_option linter.unusedVariables false
set_option linter.unusedSimpArgs false

theorem own : ownKnob Tryd.prog.godebug = none := by kernel_rfl
theorem laidOut : laidOutB Tryd.prog = true := by kernel_rfl
theorem gMoves : Tryd.prog.globalNamed "dialtone/delta.moves" = some 0 := by kernel_rfl
theorem tMoves : (Tryd.prog.globals[0]?).map (·.type) = some 51 := by kernel_rfl

theorem YtphemeddfckijaaDoor_met (os : Os) (args : Array Value) : laidMetH Tryd.prog Rows.deltaStepsRow.laid ((World.doorLaid Tryd.prog 400 os).forCall (fun _ _ => 0) ⟨#[], args, []⟩).memory :=
  laidMetH_of_parts3 (fuel := 8) (laidMet_of_run' 8 (by kernel_rfl) (by kernel_rfl)) (by kernel_rfl) (by kernel_rfl)

theorem YtphemeddfckijaaDoor_laid {W : World} (h : laidMetH Tryd.prog Rows.deltaStepsRow.laid W) : layMet L0 (fun b => b < W.heap.size) W := by
  rw [MakeChecks.laidMetH_plain _ _ _ (by kernel_rfl)] at h
  obtain ⟨ps, h1, h2⟩ := h
  obtain ⟨g0, t0, cs0, f0, p0, q0, hg0, ht0, hv0, hd0, _⟩ := h1
  obtain rfl := Option.some.inj (gMoves.symm.trans hg0)
  obtain rfl := Option.some.inj (tMoves.symm.trans ht0)
  have hcell : ∀ (i : Nat) (z : Int), ([-1, -1, -1, -1, 2, 4, 6, 8] : List Int)[i]? = some z → W.cell? ⟨0, i, none⟩ = some (.int .i64 z) := fun i z hz => by
    have := arr_ints Tryd.underlying51 Tryd.underlying3 (by kernel_rfl) hd0 (zs := [-1, -1, -1, -1, 2, 4, 6, 8]) rfl i z hz
    rw [World.var?_cell gMoves hv0 i]
    simpa using this
  intro g k l hg
  simp only [L0, List.mem_singleton, Prod.mk.injEq] at hg
  obtain ⟨rfl, rfl, rfl⟩ := hg
  refine ⟨?_, hcell⟩
  have := hcell 0 (-1) rfl
  rcases Nat.lt_or_ge 0 W.heap.size with h | h
  · exact h
  · have e : W.heap[0]? = none := Array.getElem?_eq_none h
    simp [World.cell?, e] at this
end Go.Proofs.YtphemeddfckijaaDoor
