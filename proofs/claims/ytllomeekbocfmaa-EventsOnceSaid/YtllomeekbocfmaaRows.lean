/-
  No cell of these rows narrows 'for every input' (looked for: loops, veiled, ifaces, maps, wideKeys, modest, calm, conditions, laid).
  DERIVED. THE GIVEN ROWS OF THIS SEAT. 9 by the template 'for every input the law returns true; each argument reads behind the call as it read before'; 0 by the template 'total and deterministic' (their statements: YtllomeekbocfmaaTotals.lean).
  GIVEN WITH THE SEED: the statements are not yours to turn. If you find one false, say at which input.
  Laid BY PROGRAM, IN A SANDBOX (cutbox-rows.mjs): the forced cells as the released guide's own fill.sh prints them over the translation 01b3689b98b58171… (all of the seat's roots in one cut). By AI agents, Wed Nov 11 2026. No macro, syntax, notation, axiom, sorry.
-/
import Derived.Test.YtllomeekbocfmaaChecked
import GoSem.Claim
import GoSem.ClaimJoined
import GoSem.ClaimMapViews
import Derived.JoinedTies
import Derived.KernelRfl
namespace Go.Proofs.Ytllomeekbocfmaa
/- THE CELL 'sum', in the pinned program and in every row, IS THE sha256 OF THE DUMP (.gsa) THAT YtllomeekbocfmaaProg.lean LOADS. Nothing in Lean hashes anything: it is a label: what it is worth is what the hold of that sum in a sandbox is worth. -/
noncomputable def Try.pinned : Pinned := { name := "ytllomeekbocfmaa", sum := "01b3689b98b581717bd3e41cc9d472b985c807a6648ff4e55ca51f1efa8ddae8", checked := Try.checked }
namespace Rows
def none {H : Type} : Left H := { results := [], args := [] }

/-- 'dialtonelaw29.EventsHears': WHATEVER THE INPUT: true; the input reads as it did. -/
def eventsHearsSpec : ChangeSpec := { name := "eventsHears", fn := fun _ => fun
  | [d1, d2] => { results := [.lit (.bool true)], args := [d1, d2] }
  | _ => none }
def eventsHearsRow : OpenClaim := { program := "ytllomeekbocfmaa", sum := "01b3689b98b581717bd3e41cc9d472b985c807a6648ff4e55ca51f1efa8ddae8", func := "dialtone/dialtonelaw29.EventsHears", spec := "eventsHears", unfollowed := true, recurses := true, apart := false }
def EventsHearsSaid : Prop := eventsHearsRow.holds Try.pinned (OpenSpec.ofChange eventsHearsSpec)

/-- ITS FALSE NEIGHBOUR: 'it returns false'. Refute it at one input. -/
def eventsHearsWrong : ChangeSpec := { name := "eventsHears", fn := fun _ => fun
  | [d1, d2] => { results := [.lit (.bool false)], args := [d1, d2] }
  | _ => none }
def EventsHearsWrongFalsely : Prop := eventsHearsRow.holds Try.pinned (OpenSpec.ofChange eventsHearsWrong)

/-- 'dialtonelaw29.EventsLevels': WHATEVER THE INPUT: true; the input reads as it did. -/
def eventsLevelsSpec : ChangeSpec := { name := "eventsLevels", fn := fun _ => fun
  | [d1, d2] => { results := [.lit (.bool true)], args := [d1, d2] }
  | _ => none }
def eventsLevelsRow : OpenClaim := { program := "ytllomeekbocfmaa", sum := "01b3689b98b581717bd3e41cc9d472b985c807a6648ff4e55ca51f1efa8ddae8", func := "dialtone/dialtonelaw29.EventsLevels", spec := "eventsLevels", unfollowed := true, recurses := true, apart := false }
def EventsLevelsSaid : Prop := eventsLevelsRow.holds Try.pinned (OpenSpec.ofChange eventsLevelsSpec)

/-- ITS FALSE NEIGHBOUR: 'it returns false'. Refute it at one input. -/
def eventsLevelsWrong : ChangeSpec := { name := "eventsLevels", fn := fun _ => fun
  | [d1, d2] => { results := [.lit (.bool false)], args := [d1, d2] }
  | _ => none }
def EventsLevelsWrongFalsely : Prop := eventsLevelsRow.holds Try.pinned (OpenSpec.ofChange eventsLevelsWrong)

/-- 'dialtonelaw29.EventsSilence': WHATEVER THE INPUT: true; the input reads as it did. -/
def eventsSilenceSpec : ChangeSpec := { name := "eventsSilence", fn := fun _ => fun
  | [d1, d2] => { results := [.lit (.bool true)], args := [d1, d2] }
  | _ => none }
def eventsSilenceRow : OpenClaim := { program := "ytllomeekbocfmaa", sum := "01b3689b98b581717bd3e41cc9d472b985c807a6648ff4e55ca51f1efa8ddae8", func := "dialtone/dialtonelaw29.EventsSilence", spec := "eventsSilence", unfollowed := true, recurses := true, apart := false }
def EventsSilenceSaid : Prop := eventsSilenceRow.holds Try.pinned (OpenSpec.ofChange eventsSilenceSpec)

/-- ITS FALSE NEIGHBOUR: 'it returns false'. Refute it at one input. -/
def eventsSilenceWrong : ChangeSpec := { name := "eventsSilence", fn := fun _ => fun
  | [d1, d2] => { results := [.lit (.bool false)], args := [d1, d2] }
  | _ => none }
def EventsSilenceWrongFalsely : Prop := eventsSilenceRow.holds Try.pinned (OpenSpec.ofChange eventsSilenceWrong)

/-- 'dialtonelaw29.EventsTones': WHATEVER THE INPUT: true; the input reads as it did. -/
def eventsTonesSpec : ChangeSpec := { name := "eventsTones", fn := fun _ => fun
  | [d1, d2] => { results := [.lit (.bool true)], args := [d1, d2] }
  | _ => none }
def eventsTonesRow : OpenClaim := { program := "ytllomeekbocfmaa", sum := "01b3689b98b581717bd3e41cc9d472b985c807a6648ff4e55ca51f1efa8ddae8", func := "dialtone/dialtonelaw29.EventsTones", spec := "eventsTones", unfollowed := true, recurses := true, apart := false }
def EventsTonesSaid : Prop := eventsTonesRow.holds Try.pinned (OpenSpec.ofChange eventsTonesSpec)

/-- ITS FALSE NEIGHBOUR: 'it returns false'. Refute it at one input. -/
def eventsTonesWrong : ChangeSpec := { name := "eventsTones", fn := fun _ => fun
  | [d1, d2] => { results := [.lit (.bool false)], args := [d1, d2] }
  | _ => none }
def EventsTonesWrongFalsely : Prop := eventsTonesRow.holds Try.pinned (OpenSpec.ofChange eventsTonesWrong)

/-- 'dialtonelaw29.EventsSends': WHATEVER THE INPUT: true; the input reads as it did. -/
def eventsSendsSpec : ChangeSpec := { name := "eventsSends", fn := fun _ => fun
  | [d1, d2, d3, d4, d5] => { results := [.lit (.bool true)], args := [d1, d2, d3, d4, d5] }
  | _ => none }
def eventsSendsRow : OpenClaim := { program := "ytllomeekbocfmaa", sum := "01b3689b98b581717bd3e41cc9d472b985c807a6648ff4e55ca51f1efa8ddae8", func := "dialtone/dialtonelaw29.EventsSends", spec := "eventsSends", unfollowed := true, recurses := true, apart := false }
def EventsSendsSaid : Prop := eventsSendsRow.holds Try.pinned (OpenSpec.ofChange eventsSendsSpec)

/-- ITS FALSE NEIGHBOUR: 'it returns false'. Refute it at one input. -/
def eventsSendsWrong : ChangeSpec := { name := "eventsSends", fn := fun _ => fun
  | [d1, d2, d3, d4, d5] => { results := [.lit (.bool false)], args := [d1, d2, d3, d4, d5] }
  | _ => none }
def EventsSendsWrongFalsely : Prop := eventsSendsRow.holds Try.pinned (OpenSpec.ofChange eventsSendsWrong)

/-- 'dialtonelaw29.EventsFrames': WHATEVER THE INPUT: true; the input reads as it did. -/
def eventsFramesSpec : ChangeSpec := { name := "eventsFrames", fn := fun _ => fun
  | [d1, d2, d3, d4, d5] => { results := [.lit (.bool true)], args := [d1, d2, d3, d4, d5] }
  | _ => none }
def eventsFramesRow : OpenClaim := { program := "ytllomeekbocfmaa", sum := "01b3689b98b581717bd3e41cc9d472b985c807a6648ff4e55ca51f1efa8ddae8", func := "dialtone/dialtonelaw29.EventsFrames", spec := "eventsFrames", unfollowed := true, recurses := true, apart := false }
def EventsFramesSaid : Prop := eventsFramesRow.holds Try.pinned (OpenSpec.ofChange eventsFramesSpec)

/-- ITS FALSE NEIGHBOUR: 'it returns false'. Refute it at one input. -/
def eventsFramesWrong : ChangeSpec := { name := "eventsFrames", fn := fun _ => fun
  | [d1, d2, d3, d4, d5] => { results := [.lit (.bool false)], args := [d1, d2, d3, d4, d5] }
  | _ => none }
def EventsFramesWrongFalsely : Prop := eventsFramesRow.holds Try.pinned (OpenSpec.ofChange eventsFramesWrong)

/-- 'dialtonelaw29.EventsOnce': WHATEVER THE INPUT: true; the input reads as it did. -/
def eventsOnceSpec : ChangeSpec := { name := "eventsOnce", fn := fun _ => fun
  | [d1, d2, d3] => { results := [.lit (.bool true)], args := [d1, d2, d3] }
  | _ => none }
def eventsOnceRow : OpenClaim := { program := "ytllomeekbocfmaa", sum := "01b3689b98b581717bd3e41cc9d472b985c807a6648ff4e55ca51f1efa8ddae8", func := "dialtone/dialtonelaw29.EventsOnce", spec := "eventsOnce", unfollowed := true, recurses := true, apart := false }
def EventsOnceSaid : Prop := eventsOnceRow.holds Try.pinned (OpenSpec.ofChange eventsOnceSpec)

/-- ITS FALSE NEIGHBOUR: 'it returns false'. Refute it at one input. -/
def eventsOnceWrong : ChangeSpec := { name := "eventsOnce", fn := fun _ => fun
  | [d1, d2, d3] => { results := [.lit (.bool false)], args := [d1, d2, d3] }
  | _ => none }
def EventsOnceWrongFalsely : Prop := eventsOnceRow.holds Try.pinned (OpenSpec.ofChange eventsOnceWrong)

/-- 'dialtonelaw29.EventsNoise': WHATEVER THE INPUT: true; the input reads as it did. -/
def eventsNoiseSpec : ChangeSpec := { name := "eventsNoise", fn := fun _ => fun
  | [d1, d2, d3, d4] => { results := [.lit (.bool true)], args := [d1, d2, d3, d4] }
  | _ => none }
def eventsNoiseRow : OpenClaim := { program := "ytllomeekbocfmaa", sum := "01b3689b98b581717bd3e41cc9d472b985c807a6648ff4e55ca51f1efa8ddae8", func := "dialtone/dialtonelaw29.EventsNoise", spec := "eventsNoise", unfollowed := true, recurses := true, apart := false }
def EventsNoiseSaid : Prop := eventsNoiseRow.holds Try.pinned (OpenSpec.ofChange eventsNoiseSpec)

/-- ITS FALSE NEIGHBOUR: 'it returns false'. Refute it at one input. -/
def eventsNoiseWrong : ChangeSpec := { name := "eventsNoise", fn := fun _ => fun
  | [d1, d2, d3, d4] => { results := [.lit (.bool false)], args := [d1, d2, d3, d4] }
  | _ => none }
def EventsNoiseWrongFalsely : Prop := eventsNoiseRow.holds Try.pinned (OpenSpec.ofChange eventsNoiseWrong)

/-- 'dialtonelaw29.EventsKnown': WHATEVER THE INPUT: true; the input reads as it did. -/
def eventsKnownSpec : ChangeSpec := { name := "eventsKnown", fn := fun _ => fun
  | [] => { results := [.lit (.bool true)], args := [] }
  | _ => none }
def eventsKnownRow : OpenClaim := { program := "ytllomeekbocfmaa", sum := "01b3689b98b581717bd3e41cc9d472b985c807a6648ff4e55ca51f1efa8ddae8", func := "dialtone/dialtonelaw29.EventsKnown", spec := "eventsKnown", unfollowed := true, recurses := true, apart := false }
def EventsKnownSaid : Prop := eventsKnownRow.holds Try.pinned (OpenSpec.ofChange eventsKnownSpec)

/-- ITS FALSE NEIGHBOUR: 'it returns false'. Refute it at one input. -/
def eventsKnownWrong : ChangeSpec := { name := "eventsKnown", fn := fun _ => fun
  | [] => { results := [.lit (.bool false)], args := [] }
  | _ => none }
def EventsKnownWrongFalsely : Prop := eventsKnownRow.holds Try.pinned (OpenSpec.ofChange eventsKnownWrong)

/- THE SECOND FORM. 'bulk': how many values and letters a reading holds, each counted each time it is reached (what is shared counts as often as it is met; a slice's spare places count too). A statement '..UptoSaid' is the law's where the arguments, and the package variables that the reading takes, are together of bulk at most 1048576: NARROWER than '..Said'. Prove '..Said' where nothing that the law and all that it calls make is longer than what came in: it says more and counts as full. Else prove '..UptoSaid'. A law counts once. -/
mutual
def uptoBulk {H : Type} : DataW H → Nat
  | .lit (.string bytes) => bytes.length + 1
  | .lit _ => 1
  | .nil => 1
  | .ptr d => uptoBulk d + 1
  | .slice elems spare => uptoBulkAll elems + uptoBulkAll spare + 1
  | .agg parts => uptoBulkAll parts + 1
  | .iface _ d => uptoBulk d + 1
  | .map entries => uptoBulkEntries entries + 1
  | .held _ => 1
def uptoBulkAll {H : Type} : List (DataW H) → Nat
  | [] => 0
  | d :: r => uptoBulk d + uptoBulkAll r
def uptoBulkEntries {H : Type} : List (Lit × DataW H) → Nat
  | [] => 0
  | x :: r => uptoBulkEntry x + uptoBulkEntries r
def uptoBulkEntry {H : Type} : Lit × DataW H → Nat
  | (.string bytes, d) => bytes.length + uptoBulk d + 1
  | (_, d) => uptoBulk d + 1
 end
def uptoSmall : (H : Type) → List (DataW H) → Bool := fun _ ds => decide (uptoBulkAll ds ≤ 1048576)
def OpenSpec.upto (s : _root_.Go.ChangeSpec) : _root_.Go.OpenSpec := { _root_.Go.OpenSpec.ofChange s with cond := some uptoSmall }

/-- 'dialtonelaw29.EventsHears', WHERE WHAT IT READS IS OF BULK AT MOST 1048576: true; the input reads as it did. -/
def eventsHearsUptoRow : OpenClaim := { program := "ytllomeekbocfmaa", sum := "01b3689b98b581717bd3e41cc9d472b985c807a6648ff4e55ca51f1efa8ddae8", func := "dialtone/dialtonelaw29.EventsHears", spec := "eventsHears", unfollowed := true, recurses := true, apart := false, narrowed := true }
def EventsHearsUptoSaid : Prop := eventsHearsUptoRow.holds Try.pinned (OpenSpec.upto eventsHearsSpec)

/-- 'dialtonelaw29.EventsLevels', WHERE WHAT IT READS IS OF BULK AT MOST 1048576: true; the input reads as it did. -/
def eventsLevelsUptoRow : OpenClaim := { program := "ytllomeekbocfmaa", sum := "01b3689b98b581717bd3e41cc9d472b985c807a6648ff4e55ca51f1efa8ddae8", func := "dialtone/dialtonelaw29.EventsLevels", spec := "eventsLevels", unfollowed := true, recurses := true, apart := false, narrowed := true }
def EventsLevelsUptoSaid : Prop := eventsLevelsUptoRow.holds Try.pinned (OpenSpec.upto eventsLevelsSpec)

/-- 'dialtonelaw29.EventsSilence', WHERE WHAT IT READS IS OF BULK AT MOST 1048576: true; the input reads as it did. -/
def eventsSilenceUptoRow : OpenClaim := { program := "ytllomeekbocfmaa", sum := "01b3689b98b581717bd3e41cc9d472b985c807a6648ff4e55ca51f1efa8ddae8", func := "dialtone/dialtonelaw29.EventsSilence", spec := "eventsSilence", unfollowed := true, recurses := true, apart := false, narrowed := true }
def EventsSilenceUptoSaid : Prop := eventsSilenceUptoRow.holds Try.pinned (OpenSpec.upto eventsSilenceSpec)

/-- 'dialtonelaw29.EventsTones', WHERE WHAT IT READS IS OF BULK AT MOST 1048576: true; the input reads as it did. -/
def eventsTonesUptoRow : OpenClaim := { program := "ytllomeekbocfmaa", sum := "01b3689b98b581717bd3e41cc9d472b985c807a6648ff4e55ca51f1efa8ddae8", func := "dialtone/dialtonelaw29.EventsTones", spec := "eventsTones", unfollowed := true, recurses := true, apart := false, narrowed := true }
def EventsTonesUptoSaid : Prop := eventsTonesUptoRow.holds Try.pinned (OpenSpec.upto eventsTonesSpec)

/-- 'dialtonelaw29.EventsSends', WHERE WHAT IT READS IS OF BULK AT MOST 1048576: true; the input reads as it did. -/
def eventsSendsUptoRow : OpenClaim := { program := "ytllomeekbocfmaa", sum := "01b3689b98b581717bd3e41cc9d472b985c807a6648ff4e55ca51f1efa8ddae8", func := "dialtone/dialtonelaw29.EventsSends", spec := "eventsSends", unfollowed := true, recurses := true, apart := false, narrowed := true }
def EventsSendsUptoSaid : Prop := eventsSendsUptoRow.holds Try.pinned (OpenSpec.upto eventsSendsSpec)

/-- 'dialtonelaw29.EventsFrames', WHERE WHAT IT READS IS OF BULK AT MOST 1048576: true; the input reads as it did. -/
def eventsFramesUptoRow : OpenClaim := { program := "ytllomeekbocfmaa", sum := "01b3689b98b581717bd3e41cc9d472b985c807a6648ff4e55ca51f1efa8ddae8", func := "dialtone/dialtonelaw29.EventsFrames", spec := "eventsFrames", unfollowed := true, recurses := true, apart := false, narrowed := true }
def EventsFramesUptoSaid : Prop := eventsFramesUptoRow.holds Try.pinned (OpenSpec.upto eventsFramesSpec)

/-- 'dialtonelaw29.EventsOnce', WHERE WHAT IT READS IS OF BULK AT MOST 1048576: true; the input reads as it did. -/
def eventsOnceUptoRow : OpenClaim := { program := "ytllomeekbocfmaa", sum := "01b3689b98b581717bd3e41cc9d472b985c807a6648ff4e55ca51f1efa8ddae8", func := "dialtone/dialtonelaw29.EventsOnce", spec := "eventsOnce", unfollowed := true, recurses := true, apart := false, narrowed := true }
def EventsOnceUptoSaid : Prop := eventsOnceUptoRow.holds Try.pinned (OpenSpec.upto eventsOnceSpec)

/-- 'dialtonelaw29.EventsNoise', WHERE WHAT IT READS IS OF BULK AT MOST 1048576: true; the input reads as it did. -/
def eventsNoiseUptoRow : OpenClaim := { program := "ytllomeekbocfmaa", sum := "01b3689b98b581717bd3e41cc9d472b985c807a6648ff4e55ca51f1efa8ddae8", func := "dialtone/dialtonelaw29.EventsNoise", spec := "eventsNoise", unfollowed := true, recurses := true, apart := false, narrowed := true }
def EventsNoiseUptoSaid : Prop := eventsNoiseUptoRow.holds Try.pinned (OpenSpec.upto eventsNoiseSpec)

/-- 'dialtonelaw29.EventsKnown', WHERE WHAT IT READS IS OF BULK AT MOST 1048576: true; the input reads as it did. -/
def eventsKnownUptoRow : OpenClaim := { program := "ytllomeekbocfmaa", sum := "01b3689b98b581717bd3e41cc9d472b985c807a6648ff4e55ca51f1efa8ddae8", func := "dialtone/dialtonelaw29.EventsKnown", spec := "eventsKnown", unfollowed := true, recurses := true, apart := false, narrowed := true }
def EventsKnownUptoSaid : Prop := eventsKnownUptoRow.holds Try.pinned (OpenSpec.upto eventsKnownSpec)

end Rows
end Go.Proofs.Ytllomeekbocfmaa
