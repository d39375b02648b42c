/-
  No cell of these rows narrows 'for every input' (looked for: loops, veiled, ifaces, maps, wideKeys, modest, calm, conditions, laid).
  DERIVED. THE GIVEN ROWS OF THIS SEAT. 11 by the template 'for every input the law returns true; each argument reads behind the call as it read before'; 0 by the template 'total and deterministic' (their statements: YtlhhdonpoglfkaaTotals.lean).
  GIVEN WITH THE SEED: the statements are not yours to turn. If you find one false, say at which input.
  Laid BY PROGRAM, IN A SANDBOX (cutbox-rows.mjs): the forced cells as the released guide's own fill.sh prints them over the translation 1a91dbb26b68a042… (all of the seat's roots in one cut). By AI agents, Wed Nov 11 2026. No macro, syntax, notation, axiom, sorry.
-/
import Derived.Test.YtlhhdonpoglfkaaChecked
import GoSem.Claim
import GoSem.ClaimJoined
import GoSem.ClaimMapViews
import Derived.JoinedTies
import Derived.KernelRfl
namespace Go.Proofs.Ytlhhdonpoglfkaa
/- THE CELL 'sum', in the pinned program and in every row, IS THE sha256 OF THE DUMP (.gsa) THAT YtlhhdonpoglfkaaProg.lean LOADS. Nothing in Lean hashes anything: it is a label: what it is worth is what the hold of that sum in a sandbox is worth. -/
noncomputable def Try.pinned : Pinned := { name := "ytlhhdonpoglfkaa", sum := "1a91dbb26b68a042593f516a5bfbf8d3b02a7a33934811688bd66d1b47ba3c7e", checked := Try.checked }
namespace Rows
def none {H : Type} : Left H := { results := [], args := [] }

/-- 'skywaylaw3.RunwayChecks': WHATEVER THE INPUT: true; the input reads as it did. -/
def runwayChecksSpec : ChangeSpec := { name := "runwayChecks", fn := fun _ => fun
  | [d1, d2, d3, d4] => { results := [.lit (.bool true)], args := [d1, d2, d3, d4] }
  | _ => none }
def runwayChecksRow : OpenClaim := { program := "ytlhhdonpoglfkaa", sum := "1a91dbb26b68a042593f516a5bfbf8d3b02a7a33934811688bd66d1b47ba3c7e", func := "skyway/skywaylaw3.RunwayChecks", spec := "runwayChecks", inPlace := ["slices.overlaps[skyway/api.RunwayMove]"], unfollowed := true, recurses := true, apart := false }
def RunwayChecksSaid : Prop := runwayChecksRow.holds Try.pinned (OpenSpec.ofChange runwayChecksSpec)

/-- ITS FALSE NEIGHBOUR: 'it returns false'. Refute it at one input. -/
def runwayChecksWrong : ChangeSpec := { name := "runwayChecks", fn := fun _ => fun
  | [d1, d2, d3, d4] => { results := [.lit (.bool false)], args := [d1, d2, d3, d4] }
  | _ => none }
def RunwayChecksWrongFalsely : Prop := runwayChecksRow.holds Try.pinned (OpenSpec.ofChange runwayChecksWrong)

/-- 'skywaylaw3.RunwaySafes': WHATEVER THE INPUT: true; the input reads as it did. -/
def runwaySafesSpec : ChangeSpec := { name := "runwaySafes", fn := fun _ => fun
  | [d1, d2, d3] => { results := [.lit (.bool true)], args := [d1, d2, d3] }
  | _ => none }
def runwaySafesRow : OpenClaim := { program := "ytlhhdonpoglfkaa", sum := "1a91dbb26b68a042593f516a5bfbf8d3b02a7a33934811688bd66d1b47ba3c7e", func := "skyway/skywaylaw3.RunwaySafes", spec := "runwaySafes", inPlace := ["slices.overlaps[skyway/api.RunwayMove]"], unfollowed := true, recurses := true, apart := false }
def RunwaySafesSaid : Prop := runwaySafesRow.holds Try.pinned (OpenSpec.ofChange runwaySafesSpec)

/-- ITS FALSE NEIGHBOUR: 'it returns false'. Refute it at one input. -/
def runwaySafesWrong : ChangeSpec := { name := "runwaySafes", fn := fun _ => fun
  | [d1, d2, d3] => { results := [.lit (.bool false)], args := [d1, d2, d3] }
  | _ => none }
def RunwaySafesWrongFalsely : Prop := runwaySafesRow.holds Try.pinned (OpenSpec.ofChange runwaySafesWrong)

/-- 'skywaylaw3.RunwayInserts': WHATEVER THE INPUT: true; the input reads as it did. -/
def runwayInsertsSpec : ChangeSpec := { name := "runwayInserts", fn := fun _ => fun
  | [d1, d2, d3, d4] => { results := [.lit (.bool true)], args := [d1, d2, d3, d4] }
  | _ => none }
def runwayInsertsRow : OpenClaim := { program := "ytlhhdonpoglfkaa", sum := "1a91dbb26b68a042593f516a5bfbf8d3b02a7a33934811688bd66d1b47ba3c7e", func := "skyway/skywaylaw3.RunwayInserts", spec := "runwayInserts", inPlace := ["slices.overlaps[skyway/api.RunwayMove]"], unfollowed := true, recurses := true, apart := false }
def RunwayInsertsSaid : Prop := runwayInsertsRow.holds Try.pinned (OpenSpec.ofChange runwayInsertsSpec)

/-- ITS FALSE NEIGHBOUR: 'it returns false'. Refute it at one input. -/
def runwayInsertsWrong : ChangeSpec := { name := "runwayInserts", fn := fun _ => fun
  | [d1, d2, d3, d4] => { results := [.lit (.bool false)], args := [d1, d2, d3, d4] }
  | _ => none }
def RunwayInsertsWrongFalsely : Prop := runwayInsertsRow.holds Try.pinned (OpenSpec.ofChange runwayInsertsWrong)

/-- 'skywaylaw3.RunwayChanges': WHATEVER THE INPUT: true; the input reads as it did. -/
def runwayChangesSpec : ChangeSpec := { name := "runwayChanges", fn := fun _ => fun
  | [d1, d2, d3] => { results := [.lit (.bool true)], args := [d1, d2, d3] }
  | _ => none }
def runwayChangesRow : OpenClaim := { program := "ytlhhdonpoglfkaa", sum := "1a91dbb26b68a042593f516a5bfbf8d3b02a7a33934811688bd66d1b47ba3c7e", func := "skyway/skywaylaw3.RunwayChanges", spec := "runwayChanges", inPlace := ["slices.overlaps[skyway/api.RunwayMove]"], unfollowed := true, recurses := true, apart := false }
def RunwayChangesSaid : Prop := runwayChangesRow.holds Try.pinned (OpenSpec.ofChange runwayChangesSpec)

/-- ITS FALSE NEIGHBOUR: 'it returns false'. Refute it at one input. -/
def runwayChangesWrong : ChangeSpec := { name := "runwayChanges", fn := fun _ => fun
  | [d1, d2, d3] => { results := [.lit (.bool false)], args := [d1, d2, d3] }
  | _ => none }
def RunwayChangesWrongFalsely : Prop := runwayChangesRow.holds Try.pinned (OpenSpec.ofChange runwayChangesWrong)

/-- 'skywaylaw3.TaxiQueues': WHATEVER THE INPUT: true; the input reads as it did. -/
def taxiQueuesSpec : ChangeSpec := { name := "taxiQueues", fn := fun _ => fun
  | [d1, d2, d3, d4] => { results := [.lit (.bool true)], args := [d1, d2, d3, d4] }
  | _ => none }
def taxiQueuesRow : OpenClaim := { program := "ytlhhdonpoglfkaa", sum := "1a91dbb26b68a042593f516a5bfbf8d3b02a7a33934811688bd66d1b47ba3c7e", func := "skyway/skywaylaw3.TaxiQueues", spec := "taxiQueues", unfollowed := true, recurses := true, apart := false }
def TaxiQueuesSaid : Prop := taxiQueuesRow.holds Try.pinned (OpenSpec.ofChange taxiQueuesSpec)

/-- ITS FALSE NEIGHBOUR: 'it returns false'. Refute it at one input. -/
def taxiQueuesWrong : ChangeSpec := { name := "taxiQueues", fn := fun _ => fun
  | [d1, d2, d3, d4] => { results := [.lit (.bool false)], args := [d1, d2, d3, d4] }
  | _ => none }
def TaxiQueuesWrongFalsely : Prop := taxiQueuesRow.holds Try.pinned (OpenSpec.ofChange taxiQueuesWrong)

/-- 'skywaylaw3.TaxiWaits': WHATEVER THE INPUT: true; the input reads as it did. -/
def taxiWaitsSpec : ChangeSpec := { name := "taxiWaits", fn := fun _ => fun
  | [d1, d2] => { results := [.lit (.bool true)], args := [d1, d2] }
  | _ => none }
def taxiWaitsRow : OpenClaim := { program := "ytlhhdonpoglfkaa", sum := "1a91dbb26b68a042593f516a5bfbf8d3b02a7a33934811688bd66d1b47ba3c7e", func := "skyway/skywaylaw3.TaxiWaits", spec := "taxiWaits", unfollowed := true, recurses := true, apart := false }
def TaxiWaitsSaid : Prop := taxiWaitsRow.holds Try.pinned (OpenSpec.ofChange taxiWaitsSpec)

/-- ITS FALSE NEIGHBOUR: 'it returns false'. Refute it at one input. -/
def taxiWaitsWrong : ChangeSpec := { name := "taxiWaits", fn := fun _ => fun
  | [d1, d2] => { results := [.lit (.bool false)], args := [d1, d2] }
  | _ => none }
def TaxiWaitsWrongFalsely : Prop := taxiWaitsRow.holds Try.pinned (OpenSpec.ofChange taxiWaitsWrong)

/-- 'skywaylaw3.SlotAssigns': WHATEVER THE INPUT: true; the input reads as it did. -/
def slotAssignsSpec : ChangeSpec := { name := "slotAssigns", fn := fun _ => fun
  | [d1, d2, d3] => { results := [.lit (.bool true)], args := [d1, d2, d3] }
  | _ => none }
def slotAssignsRow : OpenClaim := { program := "ytlhhdonpoglfkaa", sum := "1a91dbb26b68a042593f516a5bfbf8d3b02a7a33934811688bd66d1b47ba3c7e", func := "skyway/skywaylaw3.SlotAssigns", spec := "slotAssigns", unfollowed := true, recurses := true, apart := false }
def SlotAssignsSaid : Prop := slotAssignsRow.holds Try.pinned (OpenSpec.ofChange slotAssignsSpec)

/-- ITS FALSE NEIGHBOUR: 'it returns false'. Refute it at one input. -/
def slotAssignsWrong : ChangeSpec := { name := "slotAssigns", fn := fun _ => fun
  | [d1, d2, d3] => { results := [.lit (.bool false)], args := [d1, d2, d3] }
  | _ => none }
def SlotAssignsWrongFalsely : Prop := slotAssignsRow.holds Try.pinned (OpenSpec.ofChange slotAssignsWrong)

/-- 'skywaylaw3.SlotDelays': WHATEVER THE INPUT: true; the input reads as it did. -/
def slotDelaysSpec : ChangeSpec := { name := "slotDelays", fn := fun _ => fun
  | [d1, d2, d3, d4] => { results := [.lit (.bool true)], args := [d1, d2, d3, d4] }
  | _ => none }
def slotDelaysRow : OpenClaim := { program := "ytlhhdonpoglfkaa", sum := "1a91dbb26b68a042593f516a5bfbf8d3b02a7a33934811688bd66d1b47ba3c7e", func := "skyway/skywaylaw3.SlotDelays", spec := "slotDelays", unfollowed := true, recurses := true, apart := false }
def SlotDelaysSaid : Prop := slotDelaysRow.holds Try.pinned (OpenSpec.ofChange slotDelaysSpec)

/-- ITS FALSE NEIGHBOUR: 'it returns false'. Refute it at one input. -/
def slotDelaysWrong : ChangeSpec := { name := "slotDelays", fn := fun _ => fun
  | [d1, d2, d3, d4] => { results := [.lit (.bool false)], args := [d1, d2, d3, d4] }
  | _ => none }
def SlotDelaysWrongFalsely : Prop := slotDelaysRow.holds Try.pinned (OpenSpec.ofChange slotDelaysWrong)

/-- 'skywaylaw3.SlotReleases': WHATEVER THE INPUT: true; the input reads as it did. -/
def slotReleasesSpec : ChangeSpec := { name := "slotReleases", fn := fun _ => fun
  | [d1, d2, d3, d4] => { results := [.lit (.bool true)], args := [d1, d2, d3, d4] }
  | _ => none }
def slotReleasesRow : OpenClaim := { program := "ytlhhdonpoglfkaa", sum := "1a91dbb26b68a042593f516a5bfbf8d3b02a7a33934811688bd66d1b47ba3c7e", func := "skyway/skywaylaw3.SlotReleases", spec := "slotReleases", unfollowed := true, recurses := true, apart := false }
def SlotReleasesSaid : Prop := slotReleasesRow.holds Try.pinned (OpenSpec.ofChange slotReleasesSpec)

/-- ITS FALSE NEIGHBOUR: 'it returns false'. Refute it at one input. -/
def slotReleasesWrong : ChangeSpec := { name := "slotReleases", fn := fun _ => fun
  | [d1, d2, d3, d4] => { results := [.lit (.bool false)], args := [d1, d2, d3, d4] }
  | _ => none }
def SlotReleasesWrongFalsely : Prop := slotReleasesRow.holds Try.pinned (OpenSpec.ofChange slotReleasesWrong)

/-- 'skywaylaw3.SequenceTimes': WHATEVER THE INPUT: true; the input reads as it did. -/
def sequenceTimesSpec : ChangeSpec := { name := "sequenceTimes", fn := fun _ => fun
  | [d1, d2, d3] => { results := [.lit (.bool true)], args := [d1, d2, d3] }
  | _ => none }
def sequenceTimesRow : OpenClaim := { program := "ytlhhdonpoglfkaa", sum := "1a91dbb26b68a042593f516a5bfbf8d3b02a7a33934811688bd66d1b47ba3c7e", func := "skyway/skywaylaw3.SequenceTimes", spec := "sequenceTimes", unfollowed := true, recurses := true, apart := false }
def SequenceTimesSaid : Prop := sequenceTimesRow.holds Try.pinned (OpenSpec.ofChange sequenceTimesSpec)

/-- ITS FALSE NEIGHBOUR: 'it returns false'. Refute it at one input. -/
def sequenceTimesWrong : ChangeSpec := { name := "sequenceTimes", fn := fun _ => fun
  | [d1, d2, d3] => { results := [.lit (.bool false)], args := [d1, d2, d3] }
  | _ => none }
def SequenceTimesWrongFalsely : Prop := sequenceTimesRow.holds Try.pinned (OpenSpec.ofChange sequenceTimesWrong)

/-- 'skywaylaw3.SequenceBests': WHATEVER THE INPUT: true; the input reads as it did. -/
def sequenceBestsSpec : ChangeSpec := { name := "sequenceBests", fn := fun _ => fun
  | [d1, d2, d3] => { results := [.lit (.bool true)], args := [d1, d2, d3] }
  | _ => none }
def sequenceBestsRow : OpenClaim := { program := "ytlhhdonpoglfkaa", sum := "1a91dbb26b68a042593f516a5bfbf8d3b02a7a33934811688bd66d1b47ba3c7e", func := "skyway/skywaylaw3.SequenceBests", spec := "sequenceBests", unfollowed := true, recurses := true, apart := false }
def SequenceBestsSaid : Prop := sequenceBestsRow.holds Try.pinned (OpenSpec.ofChange sequenceBestsSpec)

/-- ITS FALSE NEIGHBOUR: 'it returns false'. Refute it at one input. -/
def sequenceBestsWrong : ChangeSpec := { name := "sequenceBests", fn := fun _ => fun
  | [d1, d2, d3] => { results := [.lit (.bool false)], args := [d1, d2, d3] }
  | _ => none }
def SequenceBestsWrongFalsely : Prop := sequenceBestsRow.holds Try.pinned (OpenSpec.ofChange sequenceBestsWrong)

/- THE SECOND FORM. 'bulk': how many values and letters a reading holds, each counted each time it is reached (what is shared counts as often as it is met; a slice's spare places count too). A statement '..UptoSaid' is the law's where the arguments, and the package variables that the reading takes, are together of bulk at most 1048576: NARROWER than '..Said'. Prove '..Said' where nothing that the law and all that it calls make is longer than what came in: it says more and counts as full. Else prove '..UptoSaid'. A law counts once. -/
mutual
def uptoBulk {H : Type} : DataW H → Nat
  | .lit (.string bytes) => bytes.length + 1
  | .lit _ => 1
  | .nil => 1
  | .ptr d => uptoBulk d + 1
  | .slice elems spare => uptoBulkAll elems + uptoBulkAll spare + 1
  | .agg parts => uptoBulkAll parts + 1
  | .iface _ d => uptoBulk d + 1
  | .map entries => uptoBulkEntries entries + 1
  | .held _ => 1
def uptoBulkAll {H : Type} : List (DataW H) → Nat
  | [] => 0
  | d :: r => uptoBulk d + uptoBulkAll r
def uptoBulkEntries {H : Type} : List (Lit × DataW H) → Nat
  | [] => 0
  | x :: r => uptoBulkEntry x + uptoBulkEntries r
def uptoBulkEntry {H : Type} : Lit × DataW H → Nat
  | (.string bytes, d) => bytes.length + uptoBulk d + 1
  | (_, d) => uptoBulk d + 1
 end
def uptoSmall : (H : Type) → List (DataW H) → Bool := fun _ ds => decide (uptoBulkAll ds ≤ 1048576)
def OpenSpec.upto (s : _root_.Go.ChangeSpec) : _root_.Go.OpenSpec := { _root_.Go.OpenSpec.ofChange s with cond := some uptoSmall }

/-- 'skywaylaw3.RunwayChecks', WHERE WHAT IT READS IS OF BULK AT MOST 1048576: true; the input reads as it did. -/
def runwayChecksUptoRow : OpenClaim := { program := "ytlhhdonpoglfkaa", sum := "1a91dbb26b68a042593f516a5bfbf8d3b02a7a33934811688bd66d1b47ba3c7e", func := "skyway/skywaylaw3.RunwayChecks", spec := "runwayChecks", inPlace := ["slices.overlaps[skyway/api.RunwayMove]"], unfollowed := true, recurses := true, apart := false, narrowed := true }
def RunwayChecksUptoSaid : Prop := runwayChecksUptoRow.holds Try.pinned (OpenSpec.upto runwayChecksSpec)

/-- 'skywaylaw3.RunwaySafes', WHERE WHAT IT READS IS OF BULK AT MOST 1048576: true; the input reads as it did. -/
def runwaySafesUptoRow : OpenClaim := { program := "ytlhhdonpoglfkaa", sum := "1a91dbb26b68a042593f516a5bfbf8d3b02a7a33934811688bd66d1b47ba3c7e", func := "skyway/skywaylaw3.RunwaySafes", spec := "runwaySafes", inPlace := ["slices.overlaps[skyway/api.RunwayMove]"], unfollowed := true, recurses := true, apart := false, narrowed := true }
def RunwaySafesUptoSaid : Prop := runwaySafesUptoRow.holds Try.pinned (OpenSpec.upto runwaySafesSpec)

/-- 'skywaylaw3.RunwayInserts', WHERE WHAT IT READS IS OF BULK AT MOST 1048576: true; the input reads as it did. -/
def runwayInsertsUptoRow : OpenClaim := { program := "ytlhhdonpoglfkaa", sum := "1a91dbb26b68a042593f516a5bfbf8d3b02a7a33934811688bd66d1b47ba3c7e", func := "skyway/skywaylaw3.RunwayInserts", spec := "runwayInserts", inPlace := ["slices.overlaps[skyway/api.RunwayMove]"], unfollowed := true, recurses := true, apart := false, narrowed := true }
def RunwayInsertsUptoSaid : Prop := runwayInsertsUptoRow.holds Try.pinned (OpenSpec.upto runwayInsertsSpec)

/-- 'skywaylaw3.RunwayChanges', WHERE WHAT IT READS IS OF BULK AT MOST 1048576: true; the input reads as it did. -/
def runwayChangesUptoRow : OpenClaim := { program := "ytlhhdonpoglfkaa", sum := "1a91dbb26b68a042593f516a5bfbf8d3b02a7a33934811688bd66d1b47ba3c7e", func := "skyway/skywaylaw3.RunwayChanges", spec := "runwayChanges", inPlace := ["slices.overlaps[skyway/api.RunwayMove]"], unfollowed := true, recurses := true, apart := false, narrowed := true }
def RunwayChangesUptoSaid : Prop := runwayChangesUptoRow.holds Try.pinned (OpenSpec.upto runwayChangesSpec)

/-- 'skywaylaw3.TaxiQueues', WHERE WHAT IT READS IS OF BULK AT MOST 1048576: true; the input reads as it did. -/
def taxiQueuesUptoRow : OpenClaim := { program := "ytlhhdonpoglfkaa", sum := "1a91dbb26b68a042593f516a5bfbf8d3b02a7a33934811688bd66d1b47ba3c7e", func := "skyway/skywaylaw3.TaxiQueues", spec := "taxiQueues", unfollowed := true, recurses := true, apart := false, narrowed := true }
def TaxiQueuesUptoSaid : Prop := taxiQueuesUptoRow.holds Try.pinned (OpenSpec.upto taxiQueuesSpec)

/-- 'skywaylaw3.TaxiWaits', WHERE WHAT IT READS IS OF BULK AT MOST 1048576: true; the input reads as it did. -/
def taxiWaitsUptoRow : OpenClaim := { program := "ytlhhdonpoglfkaa", sum := "1a91dbb26b68a042593f516a5bfbf8d3b02a7a33934811688bd66d1b47ba3c7e", func := "skyway/skywaylaw3.TaxiWaits", spec := "taxiWaits", unfollowed := true, recurses := true, apart := false, narrowed := true }
def TaxiWaitsUptoSaid : Prop := taxiWaitsUptoRow.holds Try.pinned (OpenSpec.upto taxiWaitsSpec)

/-- 'skywaylaw3.SlotAssigns', WHERE WHAT IT READS IS OF BULK AT MOST 1048576: true; the input reads as it did. -/
def slotAssignsUptoRow : OpenClaim := { program := "ytlhhdonpoglfkaa", sum := "1a91dbb26b68a042593f516a5bfbf8d3b02a7a33934811688bd66d1b47ba3c7e", func := "skyway/skywaylaw3.SlotAssigns", spec := "slotAssigns", unfollowed := true, recurses := true, apart := false, narrowed := true }
def SlotAssignsUptoSaid : Prop := slotAssignsUptoRow.holds Try.pinned (OpenSpec.upto slotAssignsSpec)

/-- 'skywaylaw3.SlotDelays', WHERE WHAT IT READS IS OF BULK AT MOST 1048576: true; the input reads as it did. -/
def slotDelaysUptoRow : OpenClaim := { program := "ytlhhdonpoglfkaa", sum := "1a91dbb26b68a042593f516a5bfbf8d3b02a7a33934811688bd66d1b47ba3c7e", func := "skyway/skywaylaw3.SlotDelays", spec := "slotDelays", unfollowed := true, recurses := true, apart := false, narrowed := true }
def SlotDelaysUptoSaid : Prop := slotDelaysUptoRow.holds Try.pinned (OpenSpec.upto slotDelaysSpec)

/-- 'skywaylaw3.SlotReleases', WHERE WHAT IT READS IS OF BULK AT MOST 1048576: true; the input reads as it did. -/
def slotReleasesUptoRow : OpenClaim := { program := "ytlhhdonpoglfkaa", sum := "1a91dbb26b68a042593f516a5bfbf8d3b02a7a33934811688bd66d1b47ba3c7e", func := "skyway/skywaylaw3.SlotReleases", spec := "slotReleases", unfollowed := true, recurses := true, apart := false, narrowed := true }
def SlotReleasesUptoSaid : Prop := slotReleasesUptoRow.holds Try.pinned (OpenSpec.upto slotReleasesSpec)

/-- 'skywaylaw3.SequenceTimes', WHERE WHAT IT READS IS OF BULK AT MOST 1048576: true; the input reads as it did. -/
def sequenceTimesUptoRow : OpenClaim := { program := "ytlhhdonpoglfkaa", sum := "1a91dbb26b68a042593f516a5bfbf8d3b02a7a33934811688bd66d1b47ba3c7e", func := "skyway/skywaylaw3.SequenceTimes", spec := "sequenceTimes", unfollowed := true, recurses := true, apart := false, narrowed := true }
def SequenceTimesUptoSaid : Prop := sequenceTimesUptoRow.holds Try.pinned (OpenSpec.upto sequenceTimesSpec)

/-- 'skywaylaw3.SequenceBests', WHERE WHAT IT READS IS OF BULK AT MOST 1048576: true; the input reads as it did. -/
def sequenceBestsUptoRow : OpenClaim := { program := "ytlhhdonpoglfkaa", sum := "1a91dbb26b68a042593f516a5bfbf8d3b02a7a33934811688bd66d1b47ba3c7e", func := "skyway/skywaylaw3.SequenceBests", spec := "sequenceBests", unfollowed := true, recurses := true, apart := false, narrowed := true }
def SequenceBestsUptoSaid : Prop := sequenceBestsUptoRow.holds Try.pinned (OpenSpec.upto sequenceBestsSpec)

end Rows
end Go.Proofs.Ytlhhdonpoglfkaa
