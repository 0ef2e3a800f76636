/-
  No cell of these rows narrows 'for every input' (looked for: loops, veiled, ifaces, maps, wideKeys, modest, calm, conditions, laid).
  DERIVED. THE GIVEN ROWS OF THIS SEAT. 5 by the template 'for every input the law returns true; each argument reads behind the call as it read before'; 0 by the template 'total and deterministic' (their statements: YtmghbhaocfehnaaTotals.lean).
  GIVEN WITH THE SEED: the statements are not yours to turn. If you find one false, say at which input.
  Laid BY PROGRAM, IN A SANDBOX (cutbox-rows.mjs): the forced cells as the released guide's own fill.sh prints them over the translation 0ada1cf4101b616b… (all of the seat's roots in one cut). By AI agents, Wed Nov 11 2026. No macro, syntax, notation, axiom, sorry.
-/
import Derived.Test.YtmghbhaocfehnaaChecked
import GoSem.Claim
import GoSem.ClaimJoined
import GoSem.ClaimMapViews
import Derived.JoinedTies
import Derived.KernelRfl
namespace Go.Proofs.Ytmghbhaocfehnaa
/- THE CELL 'sum', in the pinned program and in every row, IS THE sha256 OF THE DUMP (.gsa) THAT YtmghbhaocfehnaaProg.lean LOADS. Nothing in Lean hashes anything: it is a label: what it is worth is what the hold of that sum in a sandbox is worth. -/
noncomputable def Try.pinned : Pinned := { name := "ytmghbhaocfehnaa", sum := "0ada1cf4101b616bbd195074c2871aa2bc941ae3b053fe306e3a5cb921e2a89a", checked := Try.checked }
namespace Rows
def none {H : Type} : Left H := { results := [], args := [] }

/-- 'dialtonelaw27.CompandNear': WHATEVER THE INPUT: true; the input reads as it did. -/
def compandNearSpec : ChangeSpec := { name := "compandNear", fn := fun _ => fun
  | [d] => { results := [.lit (.bool true)], args := [d] }
  | _ => none }
def compandNearRow : OpenClaim := { program := "ytmghbhaocfehnaa", sum := "0ada1cf4101b616bbd195074c2871aa2bc941ae3b053fe306e3a5cb921e2a89a", func := "dialtone/dialtonelaw27.CompandNear", spec := "compandNear", unfollowed := true, recurses := true, apart := false }
def CompandNearSaid : Prop := compandNearRow.holds Try.pinned (OpenSpec.ofChange compandNearSpec)

/-- ITS FALSE NEIGHBOUR: 'it returns false'. Refute it at one input. -/
def compandNearWrong : ChangeSpec := { name := "compandNear", fn := fun _ => fun
  | [d] => { results := [.lit (.bool false)], args := [d] }
  | _ => none }
def CompandNearWrongFalsely : Prop := compandNearRow.holds Try.pinned (OpenSpec.ofChange compandNearWrong)

/-- 'dialtonelaw27.CompandCodes': WHATEVER THE INPUT: true; the input reads as it did. -/
def compandCodesSpec : ChangeSpec := { name := "compandCodes", fn := fun _ => fun
  | [d1, d2] => { results := [.lit (.bool true)], args := [d1, d2] }
  | _ => none }
def compandCodesRow : OpenClaim := { program := "ytmghbhaocfehnaa", sum := "0ada1cf4101b616bbd195074c2871aa2bc941ae3b053fe306e3a5cb921e2a89a", func := "dialtone/dialtonelaw27.CompandCodes", spec := "compandCodes", unfollowed := true, recurses := true, apart := false }
def CompandCodesSaid : Prop := compandCodesRow.holds Try.pinned (OpenSpec.ofChange compandCodesSpec)

/-- ITS FALSE NEIGHBOUR: 'it returns false'. Refute it at one input. -/
def compandCodesWrong : ChangeSpec := { name := "compandCodes", fn := fun _ => fun
  | [d1, d2] => { results := [.lit (.bool false)], args := [d1, d2] }
  | _ => none }
def CompandCodesWrongFalsely : Prop := compandCodesRow.holds Try.pinned (OpenSpec.ofChange compandCodesWrong)

/-- 'dialtonelaw27.CompandPacks': WHATEVER THE INPUT: true; the input reads as it did. -/
def compandPacksSpec : ChangeSpec := { name := "compandPacks", fn := fun _ => fun
  | [d1, d2, d3] => { results := [.lit (.bool true)], args := [d1, d2, d3] }
  | _ => none }
def compandPacksRow : OpenClaim := { program := "ytmghbhaocfehnaa", sum := "0ada1cf4101b616bbd195074c2871aa2bc941ae3b053fe306e3a5cb921e2a89a", func := "dialtone/dialtonelaw27.CompandPacks", spec := "compandPacks", unfollowed := true, recurses := true, apart := false }
def CompandPacksSaid : Prop := compandPacksRow.holds Try.pinned (OpenSpec.ofChange compandPacksSpec)

/-- ITS FALSE NEIGHBOUR: 'it returns false'. Refute it at one input. -/
def compandPacksWrong : ChangeSpec := { name := "compandPacks", fn := fun _ => fun
  | [d1, d2, d3] => { results := [.lit (.bool false)], args := [d1, d2, d3] }
  | _ => none }
def CompandPacksWrongFalsely : Prop := compandPacksRow.holds Try.pinned (OpenSpec.ofChange compandPacksWrong)

/-- 'dialtonelaw27.CompandAgain': WHATEVER THE INPUT: true; the input reads as it did. -/
def compandAgainSpec : ChangeSpec := { name := "compandAgain", fn := fun _ => fun
  | [d1, d2] => { results := [.lit (.bool true)], args := [d1, d2] }
  | _ => none }
def compandAgainRow : OpenClaim := { program := "ytmghbhaocfehnaa", sum := "0ada1cf4101b616bbd195074c2871aa2bc941ae3b053fe306e3a5cb921e2a89a", func := "dialtone/dialtonelaw27.CompandAgain", spec := "compandAgain", unfollowed := true, recurses := true, apart := false }
def CompandAgainSaid : Prop := compandAgainRow.holds Try.pinned (OpenSpec.ofChange compandAgainSpec)

/-- ITS FALSE NEIGHBOUR: 'it returns false'. Refute it at one input. -/
def compandAgainWrong : ChangeSpec := { name := "compandAgain", fn := fun _ => fun
  | [d1, d2] => { results := [.lit (.bool false)], args := [d1, d2] }
  | _ => none }
def CompandAgainWrongFalsely : Prop := compandAgainRow.holds Try.pinned (OpenSpec.ofChange compandAgainWrong)

/-- 'dialtonelaw27.CompandKnown': WHATEVER THE INPUT: true; the input reads as it did. -/
def compandKnownSpec : ChangeSpec := { name := "compandKnown", fn := fun _ => fun
  | [] => { results := [.lit (.bool true)], args := [] }
  | _ => none }
def compandKnownRow : OpenClaim := { program := "ytmghbhaocfehnaa", sum := "0ada1cf4101b616bbd195074c2871aa2bc941ae3b053fe306e3a5cb921e2a89a", func := "dialtone/dialtonelaw27.CompandKnown", spec := "compandKnown", unfollowed := true, recurses := true, apart := false }
def CompandKnownSaid : Prop := compandKnownRow.holds Try.pinned (OpenSpec.ofChange compandKnownSpec)

/-- ITS FALSE NEIGHBOUR: 'it returns false'. Refute it at one input. -/
def compandKnownWrong : ChangeSpec := { name := "compandKnown", fn := fun _ => fun
  | [] => { results := [.lit (.bool false)], args := [] }
  | _ => none }
def CompandKnownWrongFalsely : Prop := compandKnownRow.holds Try.pinned (OpenSpec.ofChange compandKnownWrong)

/- THE SECOND FORM. 'bulk': how many values and letters a reading holds, each counted each time it is reached (what is shared counts as often as it is met; a slice's spare places count too). A statement '..UptoSaid' is the law's where the arguments, and the package variables that the reading takes, are together of bulk at most 1048576: NARROWER than '..Said'. Prove '..Said' where nothing that the law and all that it calls make is longer than what came in: it says more and counts as full. Else prove '..UptoSaid'. A law counts once. -/
mutual
def uptoBulk {H : Type} : DataW H → Nat
  | .lit (.string bytes) => bytes.length + 1
  | .lit _ => 1
  | .nil => 1
  | .ptr d => uptoBulk d + 1
  | .slice elems spare => uptoBulkAll elems + uptoBulkAll spare + 1
  | .agg parts => uptoBulkAll parts + 1
  | .iface _ d => uptoBulk d + 1
  | .map entries => uptoBulkEntries entries + 1
  | .held _ => 1
def uptoBulkAll {H : Type} : List (DataW H) → Nat
  | [] => 0
  | d :: r => uptoBulk d + uptoBulkAll r
def uptoBulkEntries {H : Type} : List (Lit × DataW H) → Nat
  | [] => 0
  | x :: r => uptoBulkEntry x + uptoBulkEntries r
def uptoBulkEntry {H : Type} : Lit × DataW H → Nat
  | (.string bytes, d) => bytes.length + uptoBulk d + 1
  | (_, d) => uptoBulk d + 1
 end
def uptoSmall : (H : Type) → List (DataW H) → Bool := fun _ ds => decide (uptoBulkAll ds ≤ 1048576)
def OpenSpec.upto (s : _root_.Go.ChangeSpec) : _root_.Go.OpenSpec := { _root_.Go.OpenSpec.ofChange s with cond := some uptoSmall }

/-- 'dialtonelaw27.CompandNear', WHERE WHAT IT READS IS OF BULK AT MOST 1048576: true; the input reads as it did. -/
def compandNearUptoRow : OpenClaim := { program := "ytmghbhaocfehnaa", sum := "0ada1cf4101b616bbd195074c2871aa2bc941ae3b053fe306e3a5cb921e2a89a", func := "dialtone/dialtonelaw27.CompandNear", spec := "compandNear", unfollowed := true, recurses := true, apart := false, narrowed := true }
def CompandNearUptoSaid : Prop := compandNearUptoRow.holds Try.pinned (OpenSpec.upto compandNearSpec)

/-- 'dialtonelaw27.CompandCodes', WHERE WHAT IT READS IS OF BULK AT MOST 1048576: true; the input reads as it did. -/
def compandCodesUptoRow : OpenClaim := { program := "ytmghbhaocfehnaa", sum := "0ada1cf4101b616bbd195074c2871aa2bc941ae3b053fe306e3a5cb921e2a89a", func := "dialtone/dialtonelaw27.CompandCodes", spec := "compandCodes", unfollowed := true, recurses := true, apart := false, narrowed := true }
def CompandCodesUptoSaid : Prop := compandCodesUptoRow.holds Try.pinned (OpenSpec.upto compandCodesSpec)

/-- 'dialtonelaw27.CompandPacks', WHERE WHAT IT READS IS OF BULK AT MOST 1048576: true; the input reads as it did. -/
def compandPacksUptoRow : OpenClaim := { program := "ytmghbhaocfehnaa", sum := "0ada1cf4101b616bbd195074c2871aa2bc941ae3b053fe306e3a5cb921e2a89a", func := "dialtone/dialtonelaw27.CompandPacks", spec := "compandPacks", unfollowed := true, recurses := true, apart := false, narrowed := true }
def CompandPacksUptoSaid : Prop := compandPacksUptoRow.holds Try.pinned (OpenSpec.upto compandPacksSpec)

/-- 'dialtonelaw27.CompandAgain', WHERE WHAT IT READS IS OF BULK AT MOST 1048576: true; the input reads as it did. -/
def compandAgainUptoRow : OpenClaim := { program := "ytmghbhaocfehnaa", sum := "0ada1cf4101b616bbd195074c2871aa2bc941ae3b053fe306e3a5cb921e2a89a", func := "dialtone/dialtonelaw27.CompandAgain", spec := "compandAgain", unfollowed := true, recurses := true, apart := false, narrowed := true }
def CompandAgainUptoSaid : Prop := compandAgainUptoRow.holds Try.pinned (OpenSpec.upto compandAgainSpec)

/-- 'dialtonelaw27.CompandKnown', WHERE WHAT IT READS IS OF BULK AT MOST 1048576: true; the input reads as it did. -/
def compandKnownUptoRow : OpenClaim := { program := "ytmghbhaocfehnaa", sum := "0ada1cf4101b616bbd195074c2871aa2bc941ae3b053fe306e3a5cb921e2a89a", func := "dialtone/dialtonelaw27.CompandKnown", spec := "compandKnown", unfollowed := true, recurses := true, apart := false, narrowed := true }
def CompandKnownUptoSaid : Prop := compandKnownUptoRow.holds Try.pinned (OpenSpec.upto compandKnownSpec)

end Rows
end Go.Proofs.Ytmghbhaocfehnaa
