/-
  NARROWER THAN 'FOR EVERY INPUT', by the rows' own cells (each row's printed sentence says how): DeltaCodes: laid · DeltaSteps: laid · DeltaNear: laid · DeltaBlocks: laid · DeltaDivides: laid · DeltaKnown: laid.
  DERIVED. THE GIVEN ROWS OF THIS SEAT. 6 by the template 'for every input the law returns true; each argument reads behind the call as it read before'; 0 by the template 'total and deterministic' (their statements: YtphemeddfckijaaDoorTotals.lean).
  GIVEN WITH THE SEED: the statements are not yours to turn. If you find one false, say at which input.
  Laid BY PROGRAM, IN A SANDBOX (cutbox-rows.mjs): the forced cells as the released guide's own fill.sh prints them over the translation 70dc41cb67e29d8a… (all of the seat's roots in one cut). By AI agents, Wed Nov 11 2026. No macro, syntax, notation, axiom, sorry.
-/
import Derived.Test.YtphemeddfckijaaDoorChecked
import GoSem.Claim
import GoSem.ClaimJoined
import GoSem.ClaimMapViews
import Derived.JoinedTies
import Derived.KernelRfl
namespace Go.Proofs.YtphemeddfckijaaDoor
/- THE CELL 'sum', in the pinned program and in every row, IS THE sha256 OF THE DUMP (.gsa) THAT YtphemeddfckijaaDoorProg.lean LOADS. Nothing in Lean hashes anything: it is a label: what it is worth is what the hold of that sum in a sandbox is worth. -/
noncomputable def Tryd.pinned : Pinned := { name := "ytphemeddfckijaadoor", sum := "70dc41cb67e29d8ae734d907cec56ef403c9d4c7dc65d7b2a62c3a8f07550ec0", checked := Tryd.checked }
namespace Rows
def none {H : Type} : Left H := { results := [], args := [] }

/- WHAT THE LISTED PACKAGE-LEVEL VARIABLES READ AS WHEN THE CALL BEGINS. Each datum BY PROGRAM (the guide's laid-datum.mjs) off the statement by which the dump's own 'gosem.cut.vars' lays the variable. In a bare row this is a premise. The card (YtphemeddfckijaaDoorCards.lean) ties it to the program's text. -/
def laid_dialtone_delta_moves {H : Type} : DataW H := .agg [.lit (.int .i64 (-1)), .lit (.int .i64 (-1)), .lit (.int .i64 (-1)), .lit (.int .i64 (-1)), .lit (.int .i64 2), .lit (.int .i64 4), .lit (.int .i64 6), .lit (.int .i64 8)]

/-- 'dialtonelaw28.DeltaCodes': WHATEVER THE INPUT: true; the input reads as it did. -/
def deltaCodesSpec : ChangeSpec := { name := "deltaCodes", fn := fun _ => fun
  | [d1, d2, d3] => { results := [.lit (.bool true)], args := [d1, d2, d3] }
  | _ => none }
def deltaCodesRow : OpenClaim := { program := "ytphemeddfckijaadoor", sum := "70dc41cb67e29d8ae734d907cec56ef403c9d4c7dc65d7b2a62c3a8f07550ec0", func := "dialtone/dialtonelaw28.DeltaCodes", spec := "deltaCodes", unfollowed := true, recurses := true, named := ["dialtone/delta.moves"], apart := false, laid := [("dialtone/delta.moves", laid_dialtone_delta_moves)] }
def DeltaCodesSaid : Prop := deltaCodesRow.holds Tryd.pinned (OpenSpec.ofChange deltaCodesSpec)

/-- ITS FALSE NEIGHBOUR: 'it returns false'. Refute it at one input. -/
def deltaCodesWrong : ChangeSpec := { name := "deltaCodes", fn := fun _ => fun
  | [d1, d2, d3] => { results := [.lit (.bool false)], args := [d1, d2, d3] }
  | _ => none }
def DeltaCodesWrongFalsely : Prop := deltaCodesRow.holds Tryd.pinned (OpenSpec.ofChange deltaCodesWrong)

/-- 'dialtonelaw28.DeltaSteps': WHATEVER THE INPUT: true; the input reads as it did. -/
def deltaStepsSpec : ChangeSpec := { name := "deltaSteps", fn := fun _ => fun
  | [d] => { results := [.lit (.bool true)], args := [d] }
  | _ => none }
def deltaStepsRow : OpenClaim := { program := "ytphemeddfckijaadoor", sum := "70dc41cb67e29d8ae734d907cec56ef403c9d4c7dc65d7b2a62c3a8f07550ec0", func := "dialtone/dialtonelaw28.DeltaSteps", spec := "deltaSteps", unfollowed := true, recurses := true, named := ["dialtone/delta.moves"], apart := false, laid := [("dialtone/delta.moves", laid_dialtone_delta_moves)] }
def DeltaStepsSaid : Prop := deltaStepsRow.holds Tryd.pinned (OpenSpec.ofChange deltaStepsSpec)

/-- ITS FALSE NEIGHBOUR: 'it returns false'. Refute it at one input. -/
def deltaStepsWrong : ChangeSpec := { name := "deltaSteps", fn := fun _ => fun
  | [d] => { results := [.lit (.bool false)], args := [d] }
  | _ => none }
def DeltaStepsWrongFalsely : Prop := deltaStepsRow.holds Tryd.pinned (OpenSpec.ofChange deltaStepsWrong)

/-- 'dialtonelaw28.DeltaNear': WHATEVER THE INPUT: true; the input reads as it did. -/
def deltaNearSpec : ChangeSpec := { name := "deltaNear", fn := fun _ => fun
  | [d1, d2] => { results := [.lit (.bool true)], args := [d1, d2] }
  | _ => none }
def deltaNearRow : OpenClaim := { program := "ytphemeddfckijaadoor", sum := "70dc41cb67e29d8ae734d907cec56ef403c9d4c7dc65d7b2a62c3a8f07550ec0", func := "dialtone/dialtonelaw28.DeltaNear", spec := "deltaNear", unfollowed := true, recurses := true, named := ["dialtone/delta.moves"], apart := false, laid := [("dialtone/delta.moves", laid_dialtone_delta_moves)] }
def DeltaNearSaid : Prop := deltaNearRow.holds Tryd.pinned (OpenSpec.ofChange deltaNearSpec)

/-- ITS FALSE NEIGHBOUR: 'it returns false'. Refute it at one input. -/
def deltaNearWrong : ChangeSpec := { name := "deltaNear", fn := fun _ => fun
  | [d1, d2] => { results := [.lit (.bool false)], args := [d1, d2] }
  | _ => none }
def DeltaNearWrongFalsely : Prop := deltaNearRow.holds Tryd.pinned (OpenSpec.ofChange deltaNearWrong)

/-- 'dialtonelaw28.DeltaBlocks': WHATEVER THE INPUT: true; the input reads as it did. -/
def deltaBlocksSpec : ChangeSpec := { name := "deltaBlocks", fn := fun _ => fun
  | [d1, d2, d3, d4] => { results := [.lit (.bool true)], args := [d1, d2, d3, d4] }
  | _ => none }
def deltaBlocksRow : OpenClaim := { program := "ytphemeddfckijaadoor", sum := "70dc41cb67e29d8ae734d907cec56ef403c9d4c7dc65d7b2a62c3a8f07550ec0", func := "dialtone/dialtonelaw28.DeltaBlocks", spec := "deltaBlocks", unfollowed := true, recurses := true, named := ["dialtone/delta.moves"], apart := false, laid := [("dialtone/delta.moves", laid_dialtone_delta_moves)] }
def DeltaBlocksSaid : Prop := deltaBlocksRow.holds Tryd.pinned (OpenSpec.ofChange deltaBlocksSpec)

/-- ITS FALSE NEIGHBOUR: 'it returns false'. Refute it at one input. -/
def deltaBlocksWrong : ChangeSpec := { name := "deltaBlocks", fn := fun _ => fun
  | [d1, d2, d3, d4] => { results := [.lit (.bool false)], args := [d1, d2, d3, d4] }
  | _ => none }
def DeltaBlocksWrongFalsely : Prop := deltaBlocksRow.holds Tryd.pinned (OpenSpec.ofChange deltaBlocksWrong)

/-- 'dialtonelaw28.DeltaDivides': WHATEVER THE INPUT: true; the input reads as it did. -/
def deltaDividesSpec : ChangeSpec := { name := "deltaDivides", fn := fun _ => fun
  | [d1, d2, d3] => { results := [.lit (.bool true)], args := [d1, d2, d3] }
  | _ => none }
def deltaDividesRow : OpenClaim := { program := "ytphemeddfckijaadoor", sum := "70dc41cb67e29d8ae734d907cec56ef403c9d4c7dc65d7b2a62c3a8f07550ec0", func := "dialtone/dialtonelaw28.DeltaDivides", spec := "deltaDivides", unfollowed := true, recurses := true, named := ["dialtone/delta.moves"], apart := false, laid := [("dialtone/delta.moves", laid_dialtone_delta_moves)] }
def DeltaDividesSaid : Prop := deltaDividesRow.holds Tryd.pinned (OpenSpec.ofChange deltaDividesSpec)

/-- ITS FALSE NEIGHBOUR: 'it returns false'. Refute it at one input. -/
def deltaDividesWrong : ChangeSpec := { name := "deltaDivides", fn := fun _ => fun
  | [d1, d2, d3] => { results := [.lit (.bool false)], args := [d1, d2, d3] }
  | _ => none }
def DeltaDividesWrongFalsely : Prop := deltaDividesRow.holds Tryd.pinned (OpenSpec.ofChange deltaDividesWrong)

/-- 'dialtonelaw28.DeltaKnown': WHATEVER THE INPUT: true; the input reads as it did. -/
def deltaKnownSpec : ChangeSpec := { name := "deltaKnown", fn := fun _ => fun
  | [] => { results := [.lit (.bool true)], args := [] }
  | _ => none }
def deltaKnownRow : OpenClaim := { program := "ytphemeddfckijaadoor", sum := "70dc41cb67e29d8ae734d907cec56ef403c9d4c7dc65d7b2a62c3a8f07550ec0", func := "dialtone/dialtonelaw28.DeltaKnown", spec := "deltaKnown", unfollowed := true, recurses := true, named := ["dialtone/delta.moves"], apart := false, laid := [("dialtone/delta.moves", laid_dialtone_delta_moves)] }
def DeltaKnownSaid : Prop := deltaKnownRow.holds Tryd.pinned (OpenSpec.ofChange deltaKnownSpec)

/-- ITS FALSE NEIGHBOUR: 'it returns false'. Refute it at one input. -/
def deltaKnownWrong : ChangeSpec := { name := "deltaKnown", fn := fun _ => fun
  | [] => { results := [.lit (.bool false)], args := [] }
  | _ => none }
def DeltaKnownWrongFalsely : Prop := deltaKnownRow.holds Tryd.pinned (OpenSpec.ofChange deltaKnownWrong)

/- THE SECOND FORM. 'bulk': how many values and letters a reading holds, each counted each time it is reached (what is shared counts as often as it is met; a slice's spare places count too). A statement '..UptoSaid' is the law's where the arguments, and the package variables that the reading takes, are together of bulk at most 1048576: NARROWER than '..Said'. Prove '..Said' where nothing that the law and all that it calls make is longer than what came in: it says more and counts as full. Else prove '..UptoSaid'. A law counts once. -/
mutual
def uptoBulk {H : Type} : DataW H → Nat
  | .lit (.string bytes) => bytes.length + 1
  | .lit _ => 1
  | .nil => 1
  | .ptr d => uptoBulk d + 1
  | .slice elems spare => uptoBulkAll elems + uptoBulkAll spare + 1
  | .agg parts => uptoBulkAll parts + 1
  | .iface _ d => uptoBulk d + 1
  | .map entries => uptoBulkEntries entries + 1
  | .held _ => 1
def uptoBulkAll {H : Type} : List (DataW H) → Nat
  | [] => 0
  | d :: r => uptoBulk d + uptoBulkAll r
def uptoBulkEntries {H : Type} : List (Lit × DataW H) → Nat
  | [] => 0
  | x :: r => uptoBulkEntry x + uptoBulkEntries r
def uptoBulkEntry {H : Type} : Lit × DataW H → Nat
  | (.string bytes, d) => bytes.length + uptoBulk d + 1
  | (_, d) => uptoBulk d + 1
 end
def uptoSmall : (H : Type) → List (DataW H) → Bool := fun _ ds => decide (uptoBulkAll ds ≤ 1048576)
def OpenSpec.upto (s : _root_.Go.ChangeSpec) : _root_.Go.OpenSpec := { _root_.Go.OpenSpec.ofChange s with cond := some uptoSmall }

/-- 'dialtonelaw28.DeltaCodes', WHERE WHAT IT READS IS OF BULK AT MOST 1048576: true; the input reads as it did. -/
def deltaCodesUptoRow : OpenClaim := { program := "ytphemeddfckijaadoor", sum := "70dc41cb67e29d8ae734d907cec56ef403c9d4c7dc65d7b2a62c3a8f07550ec0", func := "dialtone/dialtonelaw28.DeltaCodes", spec := "deltaCodes", unfollowed := true, recurses := true, named := ["dialtone/delta.moves"], apart := false, laid := [("dialtone/delta.moves", laid_dialtone_delta_moves)], narrowed := true }
def DeltaCodesUptoSaid : Prop := deltaCodesUptoRow.holds Tryd.pinned (OpenSpec.upto deltaCodesSpec)

/-- 'dialtonelaw28.DeltaSteps', WHERE WHAT IT READS IS OF BULK AT MOST 1048576: true; the input reads as it did. -/
def deltaStepsUptoRow : OpenClaim := { program := "ytphemeddfckijaadoor", sum := "70dc41cb67e29d8ae734d907cec56ef403c9d4c7dc65d7b2a62c3a8f07550ec0", func := "dialtone/dialtonelaw28.DeltaSteps", spec := "deltaSteps", unfollowed := true, recurses := true, named := ["dialtone/delta.moves"], apart := false, laid := [("dialtone/delta.moves", laid_dialtone_delta_moves)], narrowed := true }
def DeltaStepsUptoSaid : Prop := deltaStepsUptoRow.holds Tryd.pinned (OpenSpec.upto deltaStepsSpec)

/-- 'dialtonelaw28.DeltaNear', WHERE WHAT IT READS IS OF BULK AT MOST 1048576: true; the input reads as it did. -/
def deltaNearUptoRow : OpenClaim := { program := "ytphemeddfckijaadoor", sum := "70dc41cb67e29d8ae734d907cec56ef403c9d4c7dc65d7b2a62c3a8f07550ec0", func := "dialtone/dialtonelaw28.DeltaNear", spec := "deltaNear", unfollowed := true, recurses := true, named := ["dialtone/delta.moves"], apart := false, laid := [("dialtone/delta.moves", laid_dialtone_delta_moves)], narrowed := true }
def DeltaNearUptoSaid : Prop := deltaNearUptoRow.holds Tryd.pinned (OpenSpec.upto deltaNearSpec)

/-- 'dialtonelaw28.DeltaBlocks', WHERE WHAT IT READS IS OF BULK AT MOST 1048576: true; the input reads as it did. -/
def deltaBlocksUptoRow : OpenClaim := { program := "ytphemeddfckijaadoor", sum := "70dc41cb67e29d8ae734d907cec56ef403c9d4c7dc65d7b2a62c3a8f07550ec0", func := "dialtone/dialtonelaw28.DeltaBlocks", spec := "deltaBlocks", unfollowed := true, recurses := true, named := ["dialtone/delta.moves"], apart := false, laid := [("dialtone/delta.moves", laid_dialtone_delta_moves)], narrowed := true }
def DeltaBlocksUptoSaid : Prop := deltaBlocksUptoRow.holds Tryd.pinned (OpenSpec.upto deltaBlocksSpec)

/-- 'dialtonelaw28.DeltaDivides', WHERE WHAT IT READS IS OF BULK AT MOST 1048576: true; the input reads as it did. -/
def deltaDividesUptoRow : OpenClaim := { program := "ytphemeddfckijaadoor", sum := "70dc41cb67e29d8ae734d907cec56ef403c9d4c7dc65d7b2a62c3a8f07550ec0", func := "dialtone/dialtonelaw28.DeltaDivides", spec := "deltaDivides", unfollowed := true, recurses := true, named := ["dialtone/delta.moves"], apart := false, laid := [("dialtone/delta.moves", laid_dialtone_delta_moves)], narrowed := true }
def DeltaDividesUptoSaid : Prop := deltaDividesUptoRow.holds Tryd.pinned (OpenSpec.upto deltaDividesSpec)

/-- 'dialtonelaw28.DeltaKnown', WHERE WHAT IT READS IS OF BULK AT MOST 1048576: true; the input reads as it did. -/
def deltaKnownUptoRow : OpenClaim := { program := "ytphemeddfckijaadoor", sum := "70dc41cb67e29d8ae734d907cec56ef403c9d4c7dc65d7b2a62c3a8f07550ec0", func := "dialtone/dialtonelaw28.DeltaKnown", spec := "deltaKnown", unfollowed := true, recurses := true, named := ["dialtone/delta.moves"], apart := false, laid := [("dialtone/delta.moves", laid_dialtone_delta_moves)], narrowed := true }
def DeltaKnownUptoSaid : Prop := deltaKnownUptoRow.holds Tryd.pinned (OpenSpec.upto deltaKnownSpec)

end Rows
end Go.Proofs.YtphemeddfckijaaDoor
