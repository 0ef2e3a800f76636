/-
  DERIVED. GIVEN WITH THE SEED: THE CARDS: each row of YtphemeddfckijaaDoorRows.lean that lists a variable, with what it lists TIED to the program's text (the seventh form; the later family's looks); each row that meets fmt, with fmt's text TOLD by the authors' own Lean function (tested against real Go, not proved from fmt's source: count such statements apart). THE CARD IS WHAT COUNTS. Prove the row's statement (the work); the ties are given (YtphemeddfckijaaDoorTie.lean); close each card by the builder's one call (the guide's Derived/Test/ToyasCard.lean, 'card_holds'). Laid BY PROGRAM, IN A SANDBOX (cutbox-door.mjs). By AI agents, Wed Nov 11 2026. No macro, syntax, notation, axiom, sorry.
-/
import Derived.Test.YtphemeddfckijaaDoorRows
import GoSem.ClaimSeven
namespace Go.Proofs.YtphemeddfckijaaDoor
namespace Rows

/-- THE TIED CARD OF 'dialtonelaw28.DeltaCodes'. -/
def deltaCodesCard : Claim7 := { stood := { row := deltaCodesRow, standIns := [], harness := (true, "0ccef64fe72710b09ccde7586819e9f72242edcc81081cc7f9fe914400ae899f"), looks := false }, kinds := [], alts := [], laidByText := true, laidKinds := [.data], laidTests := true, laidLooks := .later }
def DeltaCodesCardSaid : Prop := Claim7.holds Tryd.pinned (.plain (OpenSpec.ofChange deltaCodesSpec)) deltaCodesCard

/-- THE TIED CARD OF 'dialtonelaw28.DeltaSteps'. -/
def deltaStepsCard : Claim7 := { stood := { row := deltaStepsRow, standIns := [], harness := (true, "0ccef64fe72710b09ccde7586819e9f72242edcc81081cc7f9fe914400ae899f"), looks := false }, kinds := [], alts := [], laidByText := true, laidKinds := [.data], laidTests := true, laidLooks := .later }
def DeltaStepsCardSaid : Prop := Claim7.holds Tryd.pinned (.plain (OpenSpec.ofChange deltaStepsSpec)) deltaStepsCard

/-- THE TIED CARD OF 'dialtonelaw28.DeltaNear'. -/
def deltaNearCard : Claim7 := { stood := { row := deltaNearRow, standIns := [], harness := (true, "0ccef64fe72710b09ccde7586819e9f72242edcc81081cc7f9fe914400ae899f"), looks := false }, kinds := [], alts := [], laidByText := true, laidKinds := [.data], laidTests := true, laidLooks := .later }
def DeltaNearCardSaid : Prop := Claim7.holds Tryd.pinned (.plain (OpenSpec.ofChange deltaNearSpec)) deltaNearCard

/-- THE TIED CARD OF 'dialtonelaw28.DeltaBlocks'. -/
def deltaBlocksCard : Claim7 := { stood := { row := deltaBlocksRow, standIns := [], harness := (true, "0ccef64fe72710b09ccde7586819e9f72242edcc81081cc7f9fe914400ae899f"), looks := false }, kinds := [], alts := [], laidByText := true, laidKinds := [.data], laidTests := true, laidLooks := .later }
def DeltaBlocksCardSaid : Prop := Claim7.holds Tryd.pinned (.plain (OpenSpec.ofChange deltaBlocksSpec)) deltaBlocksCard

/-- THE TIED CARD OF 'dialtonelaw28.DeltaDivides'. -/
def deltaDividesCard : Claim7 := { stood := { row := deltaDividesRow, standIns := [], harness := (true, "0ccef64fe72710b09ccde7586819e9f72242edcc81081cc7f9fe914400ae899f"), looks := false }, kinds := [], alts := [], laidByText := true, laidKinds := [.data], laidTests := true, laidLooks := .later }
def DeltaDividesCardSaid : Prop := Claim7.holds Tryd.pinned (.plain (OpenSpec.ofChange deltaDividesSpec)) deltaDividesCard

/-- THE TIED CARD OF 'dialtonelaw28.DeltaKnown'. -/
def deltaKnownCard : Claim7 := { stood := { row := deltaKnownRow, standIns := [], harness := (true, "0ccef64fe72710b09ccde7586819e9f72242edcc81081cc7f9fe914400ae899f"), looks := false }, kinds := [], alts := [], laidByText := true, laidKinds := [.data], laidTests := true, laidLooks := .later }
def DeltaKnownCardSaid : Prop := Claim7.holds Tryd.pinned (.plain (OpenSpec.ofChange deltaKnownSpec)) deltaKnownCard

/-- THE SECOND FORM's CARD OF 'dialtonelaw28.DeltaCodes'. -/
def deltaCodesUptoCard : Claim7 := { stood := { row := deltaCodesUptoRow, standIns := [], harness := (true, "0ccef64fe72710b09ccde7586819e9f72242edcc81081cc7f9fe914400ae899f"), looks := false }, kinds := [], alts := [], laidByText := true, laidKinds := [.data], laidTests := true, laidLooks := .later }
def DeltaCodesUptoCardSaid : Prop := Claim7.holds Tryd.pinned (.plain (OpenSpec.upto deltaCodesSpec)) deltaCodesUptoCard

/-- THE SECOND FORM's CARD OF 'dialtonelaw28.DeltaSteps'. -/
def deltaStepsUptoCard : Claim7 := { stood := { row := deltaStepsUptoRow, standIns := [], harness := (true, "0ccef64fe72710b09ccde7586819e9f72242edcc81081cc7f9fe914400ae899f"), looks := false }, kinds := [], alts := [], laidByText := true, laidKinds := [.data], laidTests := true, laidLooks := .later }
def DeltaStepsUptoCardSaid : Prop := Claim7.holds Tryd.pinned (.plain (OpenSpec.upto deltaStepsSpec)) deltaStepsUptoCard

/-- THE SECOND FORM's CARD OF 'dialtonelaw28.DeltaNear'. -/
def deltaNearUptoCard : Claim7 := { stood := { row := deltaNearUptoRow, standIns := [], harness := (true, "0ccef64fe72710b09ccde7586819e9f72242edcc81081cc7f9fe914400ae899f"), looks := false }, kinds := [], alts := [], laidByText := true, laidKinds := [.data], laidTests := true, laidLooks := .later }
def DeltaNearUptoCardSaid : Prop := Claim7.holds Tryd.pinned (.plain (OpenSpec.upto deltaNearSpec)) deltaNearUptoCard

/-- THE SECOND FORM's CARD OF 'dialtonelaw28.DeltaBlocks'. -/
def deltaBlocksUptoCard : Claim7 := { stood := { row := deltaBlocksUptoRow, standIns := [], harness := (true, "0ccef64fe72710b09ccde7586819e9f72242edcc81081cc7f9fe914400ae899f"), looks := false }, kinds := [], alts := [], laidByText := true, laidKinds := [.data], laidTests := true, laidLooks := .later }
def DeltaBlocksUptoCardSaid : Prop := Claim7.holds Tryd.pinned (.plain (OpenSpec.upto deltaBlocksSpec)) deltaBlocksUptoCard

/-- THE SECOND FORM's CARD OF 'dialtonelaw28.DeltaDivides'. -/
def deltaDividesUptoCard : Claim7 := { stood := { row := deltaDividesUptoRow, standIns := [], harness := (true, "0ccef64fe72710b09ccde7586819e9f72242edcc81081cc7f9fe914400ae899f"), looks := false }, kinds := [], alts := [], laidByText := true, laidKinds := [.data], laidTests := true, laidLooks := .later }
def DeltaDividesUptoCardSaid : Prop := Claim7.holds Tryd.pinned (.plain (OpenSpec.upto deltaDividesSpec)) deltaDividesUptoCard

/-- THE SECOND FORM's CARD OF 'dialtonelaw28.DeltaKnown'. -/
def deltaKnownUptoCard : Claim7 := { stood := { row := deltaKnownUptoRow, standIns := [], harness := (true, "0ccef64fe72710b09ccde7586819e9f72242edcc81081cc7f9fe914400ae899f"), looks := false }, kinds := [], alts := [], laidByText := true, laidKinds := [.data], laidTests := true, laidLooks := .later }
def DeltaKnownUptoCardSaid : Prop := Claim7.holds Tryd.pinned (.plain (OpenSpec.upto deltaKnownSpec)) deltaKnownUptoCard
end Rows
end Go.Proofs.YtphemeddfckijaaDoor
