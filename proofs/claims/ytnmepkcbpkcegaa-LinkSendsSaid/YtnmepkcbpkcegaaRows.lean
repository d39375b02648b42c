/-
  No cell of these rows narrows 'for every input' (looked for: loops, veiled, ifaces, maps, wideKeys, modest, calm, conditions, laid).
  DERIVED. THE GIVEN ROWS OF THIS SEAT. 11 by the template 'for every input the law returns true; each argument reads behind the call as it read before'; 0 by the template 'total and deterministic' (their statements: YtnmepkcbpkcegaaTotals.lean).
  GIVEN WITH THE SEED: the statements are not yours to turn. If you find one false, say at which input.
  Laid BY PROGRAM, IN A SANDBOX (cutbox-rows.mjs): the forced cells as the released guide's own fill.sh prints them over the translation 84b2440eab57e56a… (all of the seat's roots in one cut). By AI agents, Wed Nov 11 2026. No macro, syntax, notation, axiom, sorry.
-/
import Derived.Test.YtnmepkcbpkcegaaChecked
import GoSem.Claim
import GoSem.ClaimJoined
import GoSem.ClaimMapViews
import Derived.JoinedTies
import Derived.KernelRfl
namespace Go.Proofs.Ytnmepkcbpkcegaa
/- THE CELL 'sum', in the pinned program and in every row, IS THE sha256 OF THE DUMP (.gsa) THAT YtnmepkcbpkcegaaProg.lean LOADS. Nothing in Lean hashes anything: it is a label: what it is worth is what the hold of that sum in a sandbox is worth. -/
noncomputable def Try.pinned : Pinned := { name := "ytnmepkcbpkcegaa", sum := "84b2440eab57e56a7ef117ff818d8eada7652d3e7386d3dc5f759b2fa9a20bec", checked := Try.checked }
namespace Rows
def none {H : Type} : Left H := { results := [], args := [] }

/-- 'skywaylaw3.HandoverGives': WHATEVER THE INPUT: true; the input reads as it did. -/
def handoverGivesSpec : ChangeSpec := { name := "handoverGives", fn := fun _ => fun
  | [d] => { results := [.lit (.bool true)], args := [d] }
  | _ => none }
def handoverGivesRow : OpenClaim := { program := "ytnmepkcbpkcegaa", sum := "84b2440eab57e56a7ef117ff818d8eada7652d3e7386d3dc5f759b2fa9a20bec", func := "skyway/skywaylaw3.HandoverGives", spec := "handoverGives", unfollowed := true, recurses := true, apart := false }
def HandoverGivesSaid : Prop := handoverGivesRow.holds Try.pinned (OpenSpec.ofChange handoverGivesSpec)

/-- ITS FALSE NEIGHBOUR: 'it returns false'. Refute it at one input. -/
def handoverGivesWrong : ChangeSpec := { name := "handoverGives", fn := fun _ => fun
  | [d] => { results := [.lit (.bool false)], args := [d] }
  | _ => none }
def HandoverGivesWrongFalsely : Prop := handoverGivesRow.holds Try.pinned (OpenSpec.ofChange handoverGivesWrong)

/-- 'skywaylaw3.HandoverHears': WHATEVER THE INPUT: true; the input reads as it did. -/
def handoverHearsSpec : ChangeSpec := { name := "handoverHears", fn := fun _ => fun
  | [d1, d2] => { results := [.lit (.bool true)], args := [d1, d2] }
  | _ => none }
def handoverHearsRow : OpenClaim := { program := "ytnmepkcbpkcegaa", sum := "84b2440eab57e56a7ef117ff818d8eada7652d3e7386d3dc5f759b2fa9a20bec", func := "skyway/skywaylaw3.HandoverHears", spec := "handoverHears", unfollowed := true, recurses := true, apart := false }
def HandoverHearsSaid : Prop := handoverHearsRow.holds Try.pinned (OpenSpec.ofChange handoverHearsSpec)

/-- ITS FALSE NEIGHBOUR: 'it returns false'. Refute it at one input. -/
def handoverHearsWrong : ChangeSpec := { name := "handoverHears", fn := fun _ => fun
  | [d1, d2] => { results := [.lit (.bool false)], args := [d1, d2] }
  | _ => none }
def HandoverHearsWrongFalsely : Prop := handoverHearsRow.holds Try.pinned (OpenSpec.ofChange handoverHearsWrong)

/-- 'skywaylaw3.HandoverRanks': WHATEVER THE INPUT: true; the input reads as it did. -/
def handoverRanksSpec : ChangeSpec := { name := "handoverRanks", fn := fun _ => fun
  | [d1, d2] => { results := [.lit (.bool true)], args := [d1, d2] }
  | _ => none }
def handoverRanksRow : OpenClaim := { program := "ytnmepkcbpkcegaa", sum := "84b2440eab57e56a7ef117ff818d8eada7652d3e7386d3dc5f759b2fa9a20bec", func := "skyway/skywaylaw3.HandoverRanks", spec := "handoverRanks", unfollowed := true, recurses := true, apart := false }
def HandoverRanksSaid : Prop := handoverRanksRow.holds Try.pinned (OpenSpec.ofChange handoverRanksSpec)

/-- ITS FALSE NEIGHBOUR: 'it returns false'. Refute it at one input. -/
def handoverRanksWrong : ChangeSpec := { name := "handoverRanks", fn := fun _ => fun
  | [d1, d2] => { results := [.lit (.bool false)], args := [d1, d2] }
  | _ => none }
def HandoverRanksWrongFalsely : Prop := handoverRanksRow.holds Try.pinned (OpenSpec.ofChange handoverRanksWrong)

/-- 'skywaylaw3.WakeGaps': WHATEVER THE INPUT: true; the input reads as it did. -/
def wakeGapsSpec : ChangeSpec := { name := "wakeGaps", fn := fun _ => fun
  | [d1, d2] => { results := [.lit (.bool true)], args := [d1, d2] }
  | _ => none }
def wakeGapsRow : OpenClaim := { program := "ytnmepkcbpkcegaa", sum := "84b2440eab57e56a7ef117ff818d8eada7652d3e7386d3dc5f759b2fa9a20bec", func := "skyway/skywaylaw3.WakeGaps", spec := "wakeGaps", apart := false }
def WakeGapsSaid : Prop := wakeGapsRow.holds Try.pinned (OpenSpec.ofChange wakeGapsSpec)

/-- ITS FALSE NEIGHBOUR: 'it returns false'. Refute it at one input. -/
def wakeGapsWrong : ChangeSpec := { name := "wakeGaps", fn := fun _ => fun
  | [d1, d2] => { results := [.lit (.bool false)], args := [d1, d2] }
  | _ => none }
def WakeGapsWrongFalsely : Prop := wakeGapsRow.holds Try.pinned (OpenSpec.ofChange wakeGapsWrong)

/-- 'skywaylaw3.WakeClasses': WHATEVER THE INPUT: true; the input reads as it did. -/
def wakeClassesSpec : ChangeSpec := { name := "wakeClasses", fn := fun _ => fun
  | [d1, d2, d3] => { results := [.lit (.bool true)], args := [d1, d2, d3] }
  | _ => none }
def wakeClassesRow : OpenClaim := { program := "ytnmepkcbpkcegaa", sum := "84b2440eab57e56a7ef117ff818d8eada7652d3e7386d3dc5f759b2fa9a20bec", func := "skyway/skywaylaw3.WakeClasses", spec := "wakeClasses", apart := false }
def WakeClassesSaid : Prop := wakeClassesRow.holds Try.pinned (OpenSpec.ofChange wakeClassesSpec)

/-- ITS FALSE NEIGHBOUR: 'it returns false'. Refute it at one input. -/
def wakeClassesWrong : ChangeSpec := { name := "wakeClasses", fn := fun _ => fun
  | [d1, d2, d3] => { results := [.lit (.bool false)], args := [d1, d2, d3] }
  | _ => none }
def WakeClassesWrongFalsely : Prop := wakeClassesRow.holds Try.pinned (OpenSpec.ofChange wakeClassesWrong)

/-- 'skywaylaw3.WakeValids': WHATEVER THE INPUT: true; the input reads as it did. -/
def wakeValidsSpec : ChangeSpec := { name := "wakeValids", fn := fun _ => fun
  | [d1, d2, d3] => { results := [.lit (.bool true)], args := [d1, d2, d3] }
  | _ => none }
def wakeValidsRow : OpenClaim := { program := "ytnmepkcbpkcegaa", sum := "84b2440eab57e56a7ef117ff818d8eada7652d3e7386d3dc5f759b2fa9a20bec", func := "skyway/skywaylaw3.WakeValids", spec := "wakeValids", apart := false }
def WakeValidsSaid : Prop := wakeValidsRow.holds Try.pinned (OpenSpec.ofChange wakeValidsSpec)

/-- ITS FALSE NEIGHBOUR: 'it returns false'. Refute it at one input. -/
def wakeValidsWrong : ChangeSpec := { name := "wakeValids", fn := fun _ => fun
  | [d1, d2, d3] => { results := [.lit (.bool false)], args := [d1, d2, d3] }
  | _ => none }
def WakeValidsWrongFalsely : Prop := wakeValidsRow.holds Try.pinned (OpenSpec.ofChange wakeValidsWrong)

/-- 'skywaylaw3.FlowAsks': WHATEVER THE INPUT: true; the input reads as it did. -/
def flowAsksSpec : ChangeSpec := { name := "flowAsks", fn := fun _ => fun
  | [d1, d2] => { results := [.lit (.bool true)], args := [d1, d2] }
  | _ => none }
def flowAsksRow : OpenClaim := { program := "ytnmepkcbpkcegaa", sum := "84b2440eab57e56a7ef117ff818d8eada7652d3e7386d3dc5f759b2fa9a20bec", func := "skyway/skywaylaw3.FlowAsks", spec := "flowAsks", unfollowed := true, recurses := true, apart := false }
def FlowAsksSaid : Prop := flowAsksRow.holds Try.pinned (OpenSpec.ofChange flowAsksSpec)

/-- ITS FALSE NEIGHBOUR: 'it returns false'. Refute it at one input. -/
def flowAsksWrong : ChangeSpec := { name := "flowAsks", fn := fun _ => fun
  | [d1, d2] => { results := [.lit (.bool false)], args := [d1, d2] }
  | _ => none }
def FlowAsksWrongFalsely : Prop := flowAsksRow.holds Try.pinned (OpenSpec.ofChange flowAsksWrong)

/-- 'skywaylaw3.FlowDemands': WHATEVER THE INPUT: true; the input reads as it did. -/
def flowDemandsSpec : ChangeSpec := { name := "flowDemands", fn := fun _ => fun
  | [d1, d2] => { results := [.lit (.bool true)], args := [d1, d2] }
  | _ => none }
def flowDemandsRow : OpenClaim := { program := "ytnmepkcbpkcegaa", sum := "84b2440eab57e56a7ef117ff818d8eada7652d3e7386d3dc5f759b2fa9a20bec", func := "skyway/skywaylaw3.FlowDemands", spec := "flowDemands", unfollowed := true, recurses := true, apart := false }
def FlowDemandsSaid : Prop := flowDemandsRow.holds Try.pinned (OpenSpec.ofChange flowDemandsSpec)

/-- ITS FALSE NEIGHBOUR: 'it returns false'. Refute it at one input. -/
def flowDemandsWrong : ChangeSpec := { name := "flowDemands", fn := fun _ => fun
  | [d1, d2] => { results := [.lit (.bool false)], args := [d1, d2] }
  | _ => none }
def FlowDemandsWrongFalsely : Prop := flowDemandsRow.holds Try.pinned (OpenSpec.ofChange flowDemandsWrong)

/-- 'skywaylaw3.LinkSends': WHATEVER THE INPUT: true; the input reads as it did. -/
def linkSendsSpec : ChangeSpec := { name := "linkSends", fn := fun _ => fun
  | [d1, d2] => { results := [.lit (.bool true)], args := [d1, d2] }
  | _ => none }
def linkSendsRow : OpenClaim := { program := "ytnmepkcbpkcegaa", sum := "84b2440eab57e56a7ef117ff818d8eada7652d3e7386d3dc5f759b2fa9a20bec", func := "skyway/skywaylaw3.LinkSends", spec := "linkSends", unfollowed := true, recurses := true, apart := false }
def LinkSendsSaid : Prop := linkSendsRow.holds Try.pinned (OpenSpec.ofChange linkSendsSpec)

/-- ITS FALSE NEIGHBOUR: 'it returns false'. Refute it at one input. -/
def linkSendsWrong : ChangeSpec := { name := "linkSends", fn := fun _ => fun
  | [d1, d2] => { results := [.lit (.bool false)], args := [d1, d2] }
  | _ => none }
def LinkSendsWrongFalsely : Prop := linkSendsRow.holds Try.pinned (OpenSpec.ofChange linkSendsWrong)

/-- 'skywaylaw3.LinkHears': WHATEVER THE INPUT: true; the input reads as it did. -/
def linkHearsSpec : ChangeSpec := { name := "linkHears", fn := fun _ => fun
  | [d1, d2, d3] => { results := [.lit (.bool true)], args := [d1, d2, d3] }
  | _ => none }
def linkHearsRow : OpenClaim := { program := "ytnmepkcbpkcegaa", sum := "84b2440eab57e56a7ef117ff818d8eada7652d3e7386d3dc5f759b2fa9a20bec", func := "skyway/skywaylaw3.LinkHears", spec := "linkHears", unfollowed := true, recurses := true, apart := false }
def LinkHearsSaid : Prop := linkHearsRow.holds Try.pinned (OpenSpec.ofChange linkHearsSpec)

/-- ITS FALSE NEIGHBOUR: 'it returns false'. Refute it at one input. -/
def linkHearsWrong : ChangeSpec := { name := "linkHears", fn := fun _ => fun
  | [d1, d2, d3] => { results := [.lit (.bool false)], args := [d1, d2, d3] }
  | _ => none }
def LinkHearsWrongFalsely : Prop := linkHearsRow.holds Try.pinned (OpenSpec.ofChange linkHearsWrong)

/-- 'skywaylaw3.LinkChannels': WHATEVER THE INPUT: true; the input reads as it did. -/
def linkChannelsSpec : ChangeSpec := { name := "linkChannels", fn := fun _ => fun
  | [d] => { results := [.lit (.bool true)], args := [d] }
  | _ => none }
def linkChannelsRow : OpenClaim := { program := "ytnmepkcbpkcegaa", sum := "84b2440eab57e56a7ef117ff818d8eada7652d3e7386d3dc5f759b2fa9a20bec", func := "skyway/skywaylaw3.LinkChannels", spec := "linkChannels", unfollowed := true, recurses := true, apart := false }
def LinkChannelsSaid : Prop := linkChannelsRow.holds Try.pinned (OpenSpec.ofChange linkChannelsSpec)

/-- ITS FALSE NEIGHBOUR: 'it returns false'. Refute it at one input. -/
def linkChannelsWrong : ChangeSpec := { name := "linkChannels", fn := fun _ => fun
  | [d] => { results := [.lit (.bool false)], args := [d] }
  | _ => none }
def LinkChannelsWrongFalsely : Prop := linkChannelsRow.holds Try.pinned (OpenSpec.ofChange linkChannelsWrong)

/- THE SECOND FORM. 'bulk': how many values and letters a reading holds, each counted each time it is reached (what is shared counts as often as it is met; a slice's spare places count too). A statement '..UptoSaid' is the law's where the arguments, and the package variables that the reading takes, are together of bulk at most 1048576: NARROWER than '..Said'. Prove '..Said' where nothing that the law and all that it calls make is longer than what came in: it says more and counts as full. Else prove '..UptoSaid'. A law counts once. -/
mutual
def uptoBulk {H : Type} : DataW H → Nat
  | .lit (.string bytes) => bytes.length + 1
  | .lit _ => 1
  | .nil => 1
  | .ptr d => uptoBulk d + 1
  | .slice elems spare => uptoBulkAll elems + uptoBulkAll spare + 1
  | .agg parts => uptoBulkAll parts + 1
  | .iface _ d => uptoBulk d + 1
  | .map entries => uptoBulkEntries entries + 1
  | .held _ => 1
def uptoBulkAll {H : Type} : List (DataW H) → Nat
  | [] => 0
  | d :: r => uptoBulk d + uptoBulkAll r
def uptoBulkEntries {H : Type} : List (Lit × DataW H) → Nat
  | [] => 0
  | x :: r => uptoBulkEntry x + uptoBulkEntries r
def uptoBulkEntry {H : Type} : Lit × DataW H → Nat
  | (.string bytes, d) => bytes.length + uptoBulk d + 1
  | (_, d) => uptoBulk d + 1
 end
def uptoSmall : (H : Type) → List (DataW H) → Bool := fun _ ds => decide (uptoBulkAll ds ≤ 1048576)
def OpenSpec.upto (s : _root_.Go.ChangeSpec) : _root_.Go.OpenSpec := { _root_.Go.OpenSpec.ofChange s with cond := some uptoSmall }

/-- 'skywaylaw3.HandoverGives', WHERE WHAT IT READS IS OF BULK AT MOST 1048576: true; the input reads as it did. -/
def handoverGivesUptoRow : OpenClaim := { program := "ytnmepkcbpkcegaa", sum := "84b2440eab57e56a7ef117ff818d8eada7652d3e7386d3dc5f759b2fa9a20bec", func := "skyway/skywaylaw3.HandoverGives", spec := "handoverGives", unfollowed := true, recurses := true, apart := false, narrowed := true }
def HandoverGivesUptoSaid : Prop := handoverGivesUptoRow.holds Try.pinned (OpenSpec.upto handoverGivesSpec)

/-- 'skywaylaw3.HandoverHears', WHERE WHAT IT READS IS OF BULK AT MOST 1048576: true; the input reads as it did. -/
def handoverHearsUptoRow : OpenClaim := { program := "ytnmepkcbpkcegaa", sum := "84b2440eab57e56a7ef117ff818d8eada7652d3e7386d3dc5f759b2fa9a20bec", func := "skyway/skywaylaw3.HandoverHears", spec := "handoverHears", unfollowed := true, recurses := true, apart := false, narrowed := true }
def HandoverHearsUptoSaid : Prop := handoverHearsUptoRow.holds Try.pinned (OpenSpec.upto handoverHearsSpec)

/-- 'skywaylaw3.HandoverRanks', WHERE WHAT IT READS IS OF BULK AT MOST 1048576: true; the input reads as it did. -/
def handoverRanksUptoRow : OpenClaim := { program := "ytnmepkcbpkcegaa", sum := "84b2440eab57e56a7ef117ff818d8eada7652d3e7386d3dc5f759b2fa9a20bec", func := "skyway/skywaylaw3.HandoverRanks", spec := "handoverRanks", unfollowed := true, recurses := true, apart := false, narrowed := true }
def HandoverRanksUptoSaid : Prop := handoverRanksUptoRow.holds Try.pinned (OpenSpec.upto handoverRanksSpec)

/-- 'skywaylaw3.WakeGaps', WHERE WHAT IT READS IS OF BULK AT MOST 1048576: true; the input reads as it did. -/
def wakeGapsUptoRow : OpenClaim := { program := "ytnmepkcbpkcegaa", sum := "84b2440eab57e56a7ef117ff818d8eada7652d3e7386d3dc5f759b2fa9a20bec", func := "skyway/skywaylaw3.WakeGaps", spec := "wakeGaps", apart := false, narrowed := true }
def WakeGapsUptoSaid : Prop := wakeGapsUptoRow.holds Try.pinned (OpenSpec.upto wakeGapsSpec)

/-- 'skywaylaw3.WakeClasses', WHERE WHAT IT READS IS OF BULK AT MOST 1048576: true; the input reads as it did. -/
def wakeClassesUptoRow : OpenClaim := { program := "ytnmepkcbpkcegaa", sum := "84b2440eab57e56a7ef117ff818d8eada7652d3e7386d3dc5f759b2fa9a20bec", func := "skyway/skywaylaw3.WakeClasses", spec := "wakeClasses", apart := false, narrowed := true }
def WakeClassesUptoSaid : Prop := wakeClassesUptoRow.holds Try.pinned (OpenSpec.upto wakeClassesSpec)

/-- 'skywaylaw3.WakeValids', WHERE WHAT IT READS IS OF BULK AT MOST 1048576: true; the input reads as it did. -/
def wakeValidsUptoRow : OpenClaim := { program := "ytnmepkcbpkcegaa", sum := "84b2440eab57e56a7ef117ff818d8eada7652d3e7386d3dc5f759b2fa9a20bec", func := "skyway/skywaylaw3.WakeValids", spec := "wakeValids", apart := false, narrowed := true }
def WakeValidsUptoSaid : Prop := wakeValidsUptoRow.holds Try.pinned (OpenSpec.upto wakeValidsSpec)

/-- 'skywaylaw3.FlowAsks', WHERE WHAT IT READS IS OF BULK AT MOST 1048576: true; the input reads as it did. -/
def flowAsksUptoRow : OpenClaim := { program := "ytnmepkcbpkcegaa", sum := "84b2440eab57e56a7ef117ff818d8eada7652d3e7386d3dc5f759b2fa9a20bec", func := "skyway/skywaylaw3.FlowAsks", spec := "flowAsks", unfollowed := true, recurses := true, apart := false, narrowed := true }
def FlowAsksUptoSaid : Prop := flowAsksUptoRow.holds Try.pinned (OpenSpec.upto flowAsksSpec)

/-- 'skywaylaw3.FlowDemands', WHERE WHAT IT READS IS OF BULK AT MOST 1048576: true; the input reads as it did. -/
def flowDemandsUptoRow : OpenClaim := { program := "ytnmepkcbpkcegaa", sum := "84b2440eab57e56a7ef117ff818d8eada7652d3e7386d3dc5f759b2fa9a20bec", func := "skyway/skywaylaw3.FlowDemands", spec := "flowDemands", unfollowed := true, recurses := true, apart := false, narrowed := true }
def FlowDemandsUptoSaid : Prop := flowDemandsUptoRow.holds Try.pinned (OpenSpec.upto flowDemandsSpec)

/-- 'skywaylaw3.LinkSends', WHERE WHAT IT READS IS OF BULK AT MOST 1048576: true; the input reads as it did. -/
def linkSendsUptoRow : OpenClaim := { program := "ytnmepkcbpkcegaa", sum := "84b2440eab57e56a7ef117ff818d8eada7652d3e7386d3dc5f759b2fa9a20bec", func := "skyway/skywaylaw3.LinkSends", spec := "linkSends", unfollowed := true, recurses := true, apart := false, narrowed := true }
def LinkSendsUptoSaid : Prop := linkSendsUptoRow.holds Try.pinned (OpenSpec.upto linkSendsSpec)

/-- 'skywaylaw3.LinkHears', WHERE WHAT IT READS IS OF BULK AT MOST 1048576: true; the input reads as it did. -/
def linkHearsUptoRow : OpenClaim := { program := "ytnmepkcbpkcegaa", sum := "84b2440eab57e56a7ef117ff818d8eada7652d3e7386d3dc5f759b2fa9a20bec", func := "skyway/skywaylaw3.LinkHears", spec := "linkHears", unfollowed := true, recurses := true, apart := false, narrowed := true }
def LinkHearsUptoSaid : Prop := linkHearsUptoRow.holds Try.pinned (OpenSpec.upto linkHearsSpec)

/-- 'skywaylaw3.LinkChannels', WHERE WHAT IT READS IS OF BULK AT MOST 1048576: true; the input reads as it did. -/
def linkChannelsUptoRow : OpenClaim := { program := "ytnmepkcbpkcegaa", sum := "84b2440eab57e56a7ef117ff818d8eada7652d3e7386d3dc5f759b2fa9a20bec", func := "skyway/skywaylaw3.LinkChannels", spec := "linkChannels", unfollowed := true, recurses := true, apart := false, narrowed := true }
def LinkChannelsUptoSaid : Prop := linkChannelsUptoRow.holds Try.pinned (OpenSpec.upto linkChannelsSpec)

end Rows
end Go.Proofs.Ytnmepkcbpkcegaa
