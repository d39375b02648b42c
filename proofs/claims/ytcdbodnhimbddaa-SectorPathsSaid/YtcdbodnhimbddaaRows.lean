/-
  No cell of these rows narrows 'for every input' (looked for: loops, veiled, ifaces, maps, wideKeys, modest, calm, conditions, laid).
  DERIVED. THE GIVEN ROWS OF THIS SEAT. 4 by the template 'for every input the law returns true; each argument reads behind the call as it read before'; 0 by the template 'total and deterministic' (their statements: YtcdbodnhimbddaaTotals.lean).
  GIVEN WITH THE SEED: the statements are not yours to turn. If you find one false, say at which input.
  Laid BY PROGRAM, IN A SANDBOX (cutbox-rows.mjs): the forced cells as the released guide's own fill.sh prints them over the translation 8dec9812df73bc02… (all of the seat's roots in one cut). By AI agents, Wed Nov 11 2026. No macro, syntax, notation, axiom, sorry.
-/
import Derived.Test.YtcdbodnhimbddaaChecked
import GoSem.Claim
import GoSem.ClaimJoined
import GoSem.ClaimMapViews
import Derived.JoinedTies
import Derived.KernelRfl
namespace Go.Proofs.Ytcdbodnhimbddaa
/- THE CELL 'sum', in the pinned program and in every row, IS THE sha256 OF THE DUMP (.gsa) THAT YtcdbodnhimbddaaProg.lean LOADS. Nothing in Lean hashes anything: it is a label: what it is worth is what the hold of that sum in a sandbox is worth. -/
noncomputable def Try.pinned : Pinned := { name := "ytcdbodnhimbddaa", sum := "8dec9812df73bc029f5ccc6270ce53b1f7d673d5ccc111ed80ce15fd9e0bc1ab", checked := Try.checked }
namespace Rows
def none {H : Type} : Left H := { results := [], args := [] }

/-- 'skywaylaw3.SectorChecks': WHATEVER THE INPUT: true; the input reads as it did. -/
def sectorChecksSpec : ChangeSpec := { name := "sectorChecks", fn := fun _ => fun
  | [d1, d2] => { results := [.lit (.bool true)], args := [d1, d2] }
  | _ => none }
def sectorChecksRow : OpenClaim := { program := "ytcdbodnhimbddaa", sum := "8dec9812df73bc029f5ccc6270ce53b1f7d673d5ccc111ed80ce15fd9e0bc1ab", func := "skyway/skywaylaw3.SectorChecks", spec := "sectorChecks", unfollowed := true, recurses := true, apart := false }
def SectorChecksSaid : Prop := sectorChecksRow.holds Try.pinned (OpenSpec.ofChange sectorChecksSpec)

/-- ITS FALSE NEIGHBOUR: 'it returns false'. Refute it at one input. -/
def sectorChecksWrong : ChangeSpec := { name := "sectorChecks", fn := fun _ => fun
  | [d1, d2] => { results := [.lit (.bool false)], args := [d1, d2] }
  | _ => none }
def SectorChecksWrongFalsely : Prop := sectorChecksRow.holds Try.pinned (OpenSpec.ofChange sectorChecksWrong)

/-- 'skywaylaw3.SectorBoxes': WHATEVER THE INPUT: true; the input reads as it did. -/
def sectorBoxesSpec : ChangeSpec := { name := "sectorBoxes", fn := fun _ => fun
  | [d] => { results := [.lit (.bool true)], args := [d] }
  | _ => none }
def sectorBoxesRow : OpenClaim := { program := "ytcdbodnhimbddaa", sum := "8dec9812df73bc029f5ccc6270ce53b1f7d673d5ccc111ed80ce15fd9e0bc1ab", func := "skyway/skywaylaw3.SectorBoxes", spec := "sectorBoxes", unfollowed := true, recurses := true, apart := false }
def SectorBoxesSaid : Prop := sectorBoxesRow.holds Try.pinned (OpenSpec.ofChange sectorBoxesSpec)

/-- ITS FALSE NEIGHBOUR: 'it returns false'. Refute it at one input. -/
def sectorBoxesWrong : ChangeSpec := { name := "sectorBoxes", fn := fun _ => fun
  | [d] => { results := [.lit (.bool false)], args := [d] }
  | _ => none }
def SectorBoxesWrongFalsely : Prop := sectorBoxesRow.holds Try.pinned (OpenSpec.ofChange sectorBoxesWrong)

/-- 'skywaylaw3.SectorFinds': WHATEVER THE INPUT: true; the input reads as it did. -/
def sectorFindsSpec : ChangeSpec := { name := "sectorFinds", fn := fun _ => fun
  | [d1, d2, d3] => { results := [.lit (.bool true)], args := [d1, d2, d3] }
  | _ => none }
def sectorFindsRow : OpenClaim := { program := "ytcdbodnhimbddaa", sum := "8dec9812df73bc029f5ccc6270ce53b1f7d673d5ccc111ed80ce15fd9e0bc1ab", func := "skyway/skywaylaw3.SectorFinds", spec := "sectorFinds", unfollowed := true, recurses := true, apart := false }
def SectorFindsSaid : Prop := sectorFindsRow.holds Try.pinned (OpenSpec.ofChange sectorFindsSpec)

/-- ITS FALSE NEIGHBOUR: 'it returns false'. Refute it at one input. -/
def sectorFindsWrong : ChangeSpec := { name := "sectorFinds", fn := fun _ => fun
  | [d1, d2, d3] => { results := [.lit (.bool false)], args := [d1, d2, d3] }
  | _ => none }
def SectorFindsWrongFalsely : Prop := sectorFindsRow.holds Try.pinned (OpenSpec.ofChange sectorFindsWrong)

/-- 'skywaylaw3.SectorPaths': WHATEVER THE INPUT: true; the input reads as it did. -/
def sectorPathsSpec : ChangeSpec := { name := "sectorPaths", fn := fun _ => fun
  | [d1, d2] => { results := [.lit (.bool true)], args := [d1, d2] }
  | _ => none }
def sectorPathsRow : OpenClaim := { program := "ytcdbodnhimbddaa", sum := "8dec9812df73bc029f5ccc6270ce53b1f7d673d5ccc111ed80ce15fd9e0bc1ab", func := "skyway/skywaylaw3.SectorPaths", spec := "sectorPaths", unfollowed := true, recurses := true, apart := false }
def SectorPathsSaid : Prop := sectorPathsRow.holds Try.pinned (OpenSpec.ofChange sectorPathsSpec)

/-- ITS FALSE NEIGHBOUR: 'it returns false'. Refute it at one input. -/
def sectorPathsWrong : ChangeSpec := { name := "sectorPaths", fn := fun _ => fun
  | [d1, d2] => { results := [.lit (.bool false)], args := [d1, d2] }
  | _ => none }
def SectorPathsWrongFalsely : Prop := sectorPathsRow.holds Try.pinned (OpenSpec.ofChange sectorPathsWrong)

/- THE SECOND FORM. 'bulk': how many values and letters a reading holds, each counted each time it is reached (what is shared counts as often as it is met; a slice's spare places count too). A statement '..UptoSaid' is the law's where the arguments, and the package variables that the reading takes, are together of bulk at most 1048576: NARROWER than '..Said'. Prove '..Said' where nothing that the law and all that it calls make is longer than what came in: it says more and counts as full. Else prove '..UptoSaid'. A law counts once. -/
mutual
def uptoBulk {H : Type} : DataW H → Nat
  | .lit (.string bytes) => bytes.length + 1
  | .lit _ => 1
  | .nil => 1
  | .ptr d => uptoBulk d + 1
  | .slice elems spare => uptoBulkAll elems + uptoBulkAll spare + 1
  | .agg parts => uptoBulkAll parts + 1
  | .iface _ d => uptoBulk d + 1
  | .map entries => uptoBulkEntries entries + 1
  | .held _ => 1
def uptoBulkAll {H : Type} : List (DataW H) → Nat
  | [] => 0
  | d :: r => uptoBulk d + uptoBulkAll r
def uptoBulkEntries {H : Type} : List (Lit × DataW H) → Nat
  | [] => 0
  | x :: r => uptoBulkEntry x + uptoBulkEntries r
def uptoBulkEntry {H : Type} : Lit × DataW H → Nat
  | (.string bytes, d) => bytes.length + uptoBulk d + 1
  | (_, d) => uptoBulk d + 1
 end
def uptoSmall : (H : Type) → List (DataW H) → Bool := fun _ ds => decide (uptoBulkAll ds ≤ 1048576)
def OpenSpec.upto (s : _root_.Go.ChangeSpec) : _root_.Go.OpenSpec := { _root_.Go.OpenSpec.ofChange s with cond := some uptoSmall }

/-- 'skywaylaw3.SectorChecks', WHERE WHAT IT READS IS OF BULK AT MOST 1048576: true; the input reads as it did. -/
def sectorChecksUptoRow : OpenClaim := { program := "ytcdbodnhimbddaa", sum := "8dec9812df73bc029f5ccc6270ce53b1f7d673d5ccc111ed80ce15fd9e0bc1ab", func := "skyway/skywaylaw3.SectorChecks", spec := "sectorChecks", unfollowed := true, recurses := true, apart := false, narrowed := true }
def SectorChecksUptoSaid : Prop := sectorChecksUptoRow.holds Try.pinned (OpenSpec.upto sectorChecksSpec)

/-- 'skywaylaw3.SectorBoxes', WHERE WHAT IT READS IS OF BULK AT MOST 1048576: true; the input reads as it did. -/
def sectorBoxesUptoRow : OpenClaim := { program := "ytcdbodnhimbddaa", sum := "8dec9812df73bc029f5ccc6270ce53b1f7d673d5ccc111ed80ce15fd9e0bc1ab", func := "skyway/skywaylaw3.SectorBoxes", spec := "sectorBoxes", unfollowed := true, recurses := true, apart := false, narrowed := true }
def SectorBoxesUptoSaid : Prop := sectorBoxesUptoRow.holds Try.pinned (OpenSpec.upto sectorBoxesSpec)

/-- 'skywaylaw3.SectorFinds', WHERE WHAT IT READS IS OF BULK AT MOST 1048576: true; the input reads as it did. -/
def sectorFindsUptoRow : OpenClaim := { program := "ytcdbodnhimbddaa", sum := "8dec9812df73bc029f5ccc6270ce53b1f7d673d5ccc111ed80ce15fd9e0bc1ab", func := "skyway/skywaylaw3.SectorFinds", spec := "sectorFinds", unfollowed := true, recurses := true, apart := false, narrowed := true }
def SectorFindsUptoSaid : Prop := sectorFindsUptoRow.holds Try.pinned (OpenSpec.upto sectorFindsSpec)

/-- 'skywaylaw3.SectorPaths', WHERE WHAT IT READS IS OF BULK AT MOST 1048576: true; the input reads as it did. -/
def sectorPathsUptoRow : OpenClaim := { program := "ytcdbodnhimbddaa", sum := "8dec9812df73bc029f5ccc6270ce53b1f7d673d5ccc111ed80ce15fd9e0bc1ab", func := "skyway/skywaylaw3.SectorPaths", spec := "sectorPaths", unfollowed := true, recurses := true, apart := false, narrowed := true }
def SectorPathsUptoSaid : Prop := sectorPathsUptoRow.holds Try.pinned (OpenSpec.upto sectorPathsSpec)

end Rows
end Go.Proofs.Ytcdbodnhimbddaa
