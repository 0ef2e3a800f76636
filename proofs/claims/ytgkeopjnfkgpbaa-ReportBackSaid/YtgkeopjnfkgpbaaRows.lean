/-
  No cell of these rows narrows 'for every input' (looked for: loops, veiled, ifaces, maps, wideKeys, modest, calm, conditions, laid).
  DERIVED. THE GIVEN ROWS OF THIS SEAT. 7 by the template 'for every input the law returns true; each argument reads behind the call as it read before'; 0 by the template 'total and deterministic' (their statements: YtgkeopjnfkgpbaaTotals.lean).
  GIVEN WITH THE SEED: the statements are not yours to turn. If you find one false, say at which input.
  Laid BY PROGRAM, IN A SANDBOX (cutbox-rows.mjs): the forced cells as the released guide's own fill.sh prints them over the translation 693757f895c6a88c… (all of the seat's roots in one cut). By AI agents, Wed Nov 11 2026. No macro, syntax, notation, axiom, sorry.
-/
import Derived.Test.YtgkeopjnfkgpbaaChecked
import GoSem.Claim
import GoSem.ClaimJoined
import GoSem.ClaimMapViews
import Derived.JoinedTies
import Derived.KernelRfl
namespace Go.Proofs.Ytgkeopjnfkgpbaa
/- THE CELL 'sum', in the pinned program and in every row, IS THE sha256 OF THE DUMP (.gsa) THAT YtgkeopjnfkgpbaaProg.lean LOADS. Nothing in Lean hashes anything: it is a label: what it is worth is what the hold of that sum in a sandbox is worth. -/
noncomputable def Try.pinned : Pinned := { name := "ytgkeopjnfkgpbaa", sum := "693757f895c6a88c15987a531e306cb1e1231c7a8828cf21fb0f0a444b087ec3", checked := Try.checked }
namespace Rows
def none {H : Type} : Left H := { results := [], args := [] }

/-- 'dialtonelaw26.ReportArrives': WHATEVER THE INPUT: true; the input reads as it did. -/
def reportArrivesSpec : ChangeSpec := { name := "reportArrives", fn := fun _ => fun
  | [d1, d2, d3, d4, d5] => { results := [.lit (.bool true)], args := [d1, d2, d3, d4, d5] }
  | _ => none }
def reportArrivesRow : OpenClaim := { program := "ytgkeopjnfkgpbaa", sum := "693757f895c6a88c15987a531e306cb1e1231c7a8828cf21fb0f0a444b087ec3", func := "dialtone/dialtonelaw26.ReportArrives", spec := "reportArrives", unfollowed := true, recurses := true, apart := false }
def ReportArrivesSaid : Prop := reportArrivesRow.holds Try.pinned (OpenSpec.ofChange reportArrivesSpec)

/-- ITS FALSE NEIGHBOUR: 'it returns false'. Refute it at one input. -/
def reportArrivesWrong : ChangeSpec := { name := "reportArrives", fn := fun _ => fun
  | [d1, d2, d3, d4, d5] => { results := [.lit (.bool false)], args := [d1, d2, d3, d4, d5] }
  | _ => none }
def ReportArrivesWrongFalsely : Prop := reportArrivesRow.holds Try.pinned (OpenSpec.ofChange reportArrivesWrong)

/-- 'dialtonelaw26.ReportLoses': WHATEVER THE INPUT: true; the input reads as it did. -/
def reportLosesSpec : ChangeSpec := { name := "reportLoses", fn := fun _ => fun
  | [d1, d2, d3] => { results := [.lit (.bool true)], args := [d1, d2, d3] }
  | _ => none }
def reportLosesRow : OpenClaim := { program := "ytgkeopjnfkgpbaa", sum := "693757f895c6a88c15987a531e306cb1e1231c7a8828cf21fb0f0a444b087ec3", func := "dialtone/dialtonelaw26.ReportLoses", spec := "reportLoses", unfollowed := true, recurses := true, apart := false }
def ReportLosesSaid : Prop := reportLosesRow.holds Try.pinned (OpenSpec.ofChange reportLosesSpec)

/-- ITS FALSE NEIGHBOUR: 'it returns false'. Refute it at one input. -/
def reportLosesWrong : ChangeSpec := { name := "reportLoses", fn := fun _ => fun
  | [d1, d2, d3] => { results := [.lit (.bool false)], args := [d1, d2, d3] }
  | _ => none }
def ReportLosesWrongFalsely : Prop := reportLosesRow.holds Try.pinned (OpenSpec.ofChange reportLosesWrong)

/-- 'dialtonelaw26.ReportTrips': WHATEVER THE INPUT: true; the input reads as it did. -/
def reportTripsSpec : ChangeSpec := { name := "reportTrips", fn := fun _ => fun
  | [d1, d2, d3] => { results := [.lit (.bool true)], args := [d1, d2, d3] }
  | _ => none }
def reportTripsRow : OpenClaim := { program := "ytgkeopjnfkgpbaa", sum := "693757f895c6a88c15987a531e306cb1e1231c7a8828cf21fb0f0a444b087ec3", func := "dialtone/dialtonelaw26.ReportTrips", spec := "reportTrips", unfollowed := true, recurses := true, apart := false }
def ReportTripsSaid : Prop := reportTripsRow.holds Try.pinned (OpenSpec.ofChange reportTripsSpec)

/-- ITS FALSE NEIGHBOUR: 'it returns false'. Refute it at one input. -/
def reportTripsWrong : ChangeSpec := { name := "reportTrips", fn := fun _ => fun
  | [d1, d2, d3] => { results := [.lit (.bool false)], args := [d1, d2, d3] }
  | _ => none }
def ReportTripsWrongFalsely : Prop := reportTripsRow.holds Try.pinned (OpenSpec.ofChange reportTripsWrong)

/-- 'dialtonelaw26.ReportKnown': WHATEVER THE INPUT: true; the input reads as it did. -/
def reportKnownSpec : ChangeSpec := { name := "reportKnown", fn := fun _ => fun
  | [] => { results := [.lit (.bool true)], args := [] }
  | _ => none }
def reportKnownRow : OpenClaim := { program := "ytgkeopjnfkgpbaa", sum := "693757f895c6a88c15987a531e306cb1e1231c7a8828cf21fb0f0a444b087ec3", func := "dialtone/dialtonelaw26.ReportKnown", spec := "reportKnown", unfollowed := true, recurses := true, apart := false }
def ReportKnownSaid : Prop := reportKnownRow.holds Try.pinned (OpenSpec.ofChange reportKnownSpec)

/-- ITS FALSE NEIGHBOUR: 'it returns false'. Refute it at one input. -/
def reportKnownWrong : ChangeSpec := { name := "reportKnown", fn := fun _ => fun
  | [] => { results := [.lit (.bool false)], args := [] }
  | _ => none }
def ReportKnownWrongFalsely : Prop := reportKnownRow.holds Try.pinned (OpenSpec.ofChange reportKnownWrong)

/-- 'dialtonelaw26.ReportEncodes': WHATEVER THE INPUT: true; the input reads as it did. -/
def reportEncodesSpec : ChangeSpec := { name := "reportEncodes", fn := fun _ => fun
  | [d] => { results := [.lit (.bool true)], args := [d] }
  | _ => none }
def reportEncodesRow : OpenClaim := { program := "ytgkeopjnfkgpbaa", sum := "693757f895c6a88c15987a531e306cb1e1231c7a8828cf21fb0f0a444b087ec3", func := "dialtone/dialtonelaw26.ReportEncodes", spec := "reportEncodes", unfollowed := true, recurses := true, apart := false }
def ReportEncodesSaid : Prop := reportEncodesRow.holds Try.pinned (OpenSpec.ofChange reportEncodesSpec)

/-- ITS FALSE NEIGHBOUR: 'it returns false'. Refute it at one input. -/
def reportEncodesWrong : ChangeSpec := { name := "reportEncodes", fn := fun _ => fun
  | [d] => { results := [.lit (.bool false)], args := [d] }
  | _ => none }
def ReportEncodesWrongFalsely : Prop := reportEncodesRow.holds Try.pinned (OpenSpec.ofChange reportEncodesWrong)

/-- 'dialtonelaw26.ReportDecodes': WHATEVER THE INPUT: true; the input reads as it did. -/
def reportDecodesSpec : ChangeSpec := { name := "reportDecodes", fn := fun _ => fun
  | [d] => { results := [.lit (.bool true)], args := [d] }
  | _ => none }
def reportDecodesRow : OpenClaim := { program := "ytgkeopjnfkgpbaa", sum := "693757f895c6a88c15987a531e306cb1e1231c7a8828cf21fb0f0a444b087ec3", func := "dialtone/dialtonelaw26.ReportDecodes", spec := "reportDecodes", unfollowed := true, recurses := true, apart := false }
def ReportDecodesSaid : Prop := reportDecodesRow.holds Try.pinned (OpenSpec.ofChange reportDecodesSpec)

/-- ITS FALSE NEIGHBOUR: 'it returns false'. Refute it at one input. -/
def reportDecodesWrong : ChangeSpec := { name := "reportDecodes", fn := fun _ => fun
  | [d] => { results := [.lit (.bool false)], args := [d] }
  | _ => none }
def ReportDecodesWrongFalsely : Prop := reportDecodesRow.holds Try.pinned (OpenSpec.ofChange reportDecodesWrong)

/-- 'dialtonelaw26.ReportBack': WHATEVER THE INPUT: true; the input reads as it did. -/
def reportBackSpec : ChangeSpec := { name := "reportBack", fn := fun _ => fun
  | [d1, d2] => { results := [.lit (.bool true)], args := [d1, d2] }
  | _ => none }
def reportBackRow : OpenClaim := { program := "ytgkeopjnfkgpbaa", sum := "693757f895c6a88c15987a531e306cb1e1231c7a8828cf21fb0f0a444b087ec3", func := "dialtone/dialtonelaw26.ReportBack", spec := "reportBack", unfollowed := true, recurses := true, apart := false }
def ReportBackSaid : Prop := reportBackRow.holds Try.pinned (OpenSpec.ofChange reportBackSpec)

/-- ITS FALSE NEIGHBOUR: 'it returns false'. Refute it at one input. -/
def reportBackWrong : ChangeSpec := { name := "reportBack", fn := fun _ => fun
  | [d1, d2] => { results := [.lit (.bool false)], args := [d1, d2] }
  | _ => none }
def ReportBackWrongFalsely : Prop := reportBackRow.holds Try.pinned (OpenSpec.ofChange reportBackWrong)

/- THE SECOND FORM. 'bulk': how many values and letters a reading holds, each counted each time it is reached (what is shared counts as often as it is met; a slice's spare places count too). A statement '..UptoSaid' is the law's where the arguments, and the package variables that the reading takes, are together of bulk at most 1048576: NARROWER than '..Said'. Prove '..Said' where nothing that the law and all that it calls make is longer than what came in: it says more and counts as full. Else prove '..UptoSaid'. A law counts once. -/
mutual
def uptoBulk {H : Type} : DataW H → Nat
  | .lit (.string bytes) => bytes.length + 1
  | .lit _ => 1
  | .nil => 1
  | .ptr d => uptoBulk d + 1
  | .slice elems spare => uptoBulkAll elems + uptoBulkAll spare + 1
  | .agg parts => uptoBulkAll parts + 1
  | .iface _ d => uptoBulk d + 1
  | .map entries => uptoBulkEntries entries + 1
  | .held _ => 1
def uptoBulkAll {H : Type} : List (DataW H) → Nat
  | [] => 0
  | d :: r => uptoBulk d + uptoBulkAll r
def uptoBulkEntries {H : Type} : List (Lit × DataW H) → Nat
  | [] => 0
  | x :: r => uptoBulkEntry x + uptoBulkEntries r
def uptoBulkEntry {H : Type} : Lit × DataW H → Nat
  | (.string bytes, d) => bytes.length + uptoBulk d + 1
  | (_, d) => uptoBulk d + 1
 end
def uptoSmall : (H : Type) → List (DataW H) → Bool := fun _ ds => decide (uptoBulkAll ds ≤ 1048576)
def OpenSpec.upto (s : _root_.Go.ChangeSpec) : _root_.Go.OpenSpec := { _root_.Go.OpenSpec.ofChange s with cond := some uptoSmall }

/-- 'dialtonelaw26.ReportArrives', WHERE WHAT IT READS IS OF BULK AT MOST 1048576: true; the input reads as it did. -/
def reportArrivesUptoRow : OpenClaim := { program := "ytgkeopjnfkgpbaa", sum := "693757f895c6a88c15987a531e306cb1e1231c7a8828cf21fb0f0a444b087ec3", func := "dialtone/dialtonelaw26.ReportArrives", spec := "reportArrives", unfollowed := true, recurses := true, apart := false, narrowed := true }
def ReportArrivesUptoSaid : Prop := reportArrivesUptoRow.holds Try.pinned (OpenSpec.upto reportArrivesSpec)

/-- 'dialtonelaw26.ReportLoses', WHERE WHAT IT READS IS OF BULK AT MOST 1048576: true; the input reads as it did. -/
def reportLosesUptoRow : OpenClaim := { program := "ytgkeopjnfkgpbaa", sum := "693757f895c6a88c15987a531e306cb1e1231c7a8828cf21fb0f0a444b087ec3", func := "dialtone/dialtonelaw26.ReportLoses", spec := "reportLoses", unfollowed := true, recurses := true, apart := false, narrowed := true }
def ReportLosesUptoSaid : Prop := reportLosesUptoRow.holds Try.pinned (OpenSpec.upto reportLosesSpec)

/-- 'dialtonelaw26.ReportTrips', WHERE WHAT IT READS IS OF BULK AT MOST 1048576: true; the input reads as it did. -/
def reportTripsUptoRow : OpenClaim := { program := "ytgkeopjnfkgpbaa", sum := "693757f895c6a88c15987a531e306cb1e1231c7a8828cf21fb0f0a444b087ec3", func := "dialtone/dialtonelaw26.ReportTrips", spec := "reportTrips", unfollowed := true, recurses := true, apart := false, narrowed := true }
def ReportTripsUptoSaid : Prop := reportTripsUptoRow.holds Try.pinned (OpenSpec.upto reportTripsSpec)

/-- 'dialtonelaw26.ReportKnown', WHERE WHAT IT READS IS OF BULK AT MOST 1048576: true; the input reads as it did. -/
def reportKnownUptoRow : OpenClaim := { program := "ytgkeopjnfkgpbaa", sum := "693757f895c6a88c15987a531e306cb1e1231c7a8828cf21fb0f0a444b087ec3", func := "dialtone/dialtonelaw26.ReportKnown", spec := "reportKnown", unfollowed := true, recurses := true, apart := false, narrowed := true }
def ReportKnownUptoSaid : Prop := reportKnownUptoRow.holds Try.pinned (OpenSpec.upto reportKnownSpec)

/-- 'dialtonelaw26.ReportEncodes', WHERE WHAT IT READS IS OF BULK AT MOST 1048576: true; the input reads as it did. -/
def reportEncodesUptoRow : OpenClaim := { program := "ytgkeopjnfkgpbaa", sum := "693757f895c6a88c15987a531e306cb1e1231c7a8828cf21fb0f0a444b087ec3", func := "dialtone/dialtonelaw26.ReportEncodes", spec := "reportEncodes", unfollowed := true, recurses := true, apart := false, narrowed := true }
def ReportEncodesUptoSaid : Prop := reportEncodesUptoRow.holds Try.pinned (OpenSpec.upto reportEncodesSpec)

/-- 'dialtonelaw26.ReportDecodes', WHERE WHAT IT READS IS OF BULK AT MOST 1048576: true; the input reads as it did. -/
def reportDecodesUptoRow : OpenClaim := { program := "ytgkeopjnfkgpbaa", sum := "693757f895c6a88c15987a531e306cb1e1231c7a8828cf21fb0f0a444b087ec3", func := "dialtone/dialtonelaw26.ReportDecodes", spec := "reportDecodes", unfollowed := true, recurses := true, apart := false, narrowed := true }
def ReportDecodesUptoSaid : Prop := reportDecodesUptoRow.holds Try.pinned (OpenSpec.upto reportDecodesSpec)

/-- 'dialtonelaw26.ReportBack', WHERE WHAT IT READS IS OF BULK AT MOST 1048576: true; the input reads as it did. -/
def reportBackUptoRow : OpenClaim := { program := "ytgkeopjnfkgpbaa", sum := "693757f895c6a88c15987a531e306cb1e1231c7a8828cf21fb0f0a444b087ec3", func := "dialtone/dialtonelaw26.ReportBack", spec := "reportBack", unfollowed := true, recurses := true, apart := false, narrowed := true }
def ReportBackUptoSaid : Prop := reportBackUptoRow.holds Try.pinned (OpenSpec.upto reportBackSpec)

end Rows
end Go.Proofs.Ytgkeopjnfkgpbaa
