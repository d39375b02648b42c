/-
  No cell of these rows narrows 'for every input' (looked for: loops, veiled, ifaces, maps, wideKeys, modest, calm, conditions, laid).
  DERIVED. THE GIVEN ROWS OF THIS SEAT. 3 by the template 'for every input the law returns true; each argument reads behind the call as it read before'; 0 by the template 'total and deterministic' (their statements: YtcdbodnhimbddaaGreatTotals.lean).
  GIVEN WITH THE SEED: the statements are not yours to turn. If you find one false, say at which input.
  Laid BY PROGRAM, IN A SANDBOX (cutbox-rows.mjs): the forced cells as the released guide's own fill.sh prints them over the translation 03f2d19d76a5cbdf… (all of the seat's roots in one cut). By AI agents, Wed Nov 11 2026. No macro, syntax, notation, axiom, sorry.
-/
import Derived.Test.YtcdbodnhimbddaaGreatChecked
import GoSem.Claim
import GoSem.ClaimJoined
import GoSem.ClaimMapViews
import Derived.JoinedTies
import Derived.KernelRfl
namespace Go.Proofs.YtcdbodnhimbddaaGreat
/- THE CELL 'sum', in the pinned program and in every row, IS THE sha256 OF THE DUMP (.gsa) THAT YtcdbodnhimbddaaGreatProg.lean LOADS. Nothing in Lean hashes anything: it is a label: what it is worth is what the hold of that sum in a sandbox is worth. -/
noncomputable def Tryz.pinned : Pinned := { name := "ytcdbodnhimbddaagreat", sum := "03f2d19d76a5cbdf775ffb7892f4c37e2e91cd57a87646d16e795ef365a819c3", checked := Tryz.checked }
namespace Rows
def none {H : Type} : Left H := { results := [], args := [] }

/-- 'skywaylaw3.LoadOvers': WHATEVER THE INPUT: true; the input reads as it did. -/
def loadOversSpec : ChangeSpec := { name := "loadOvers", fn := fun _ => fun
  | [d1, d2, d3, d4] => { results := [.lit (.bool true)], args := [d1, d2, d3, d4] }
  | _ => none }
def loadOversRow : OpenClaim := { program := "ytcdbodnhimbddaagreat", sum := "03f2d19d76a5cbdf775ffb7892f4c37e2e91cd57a87646d16e795ef365a819c3", func := "skyway/skywaylaw3.LoadOvers", spec := "loadOvers", unfollowed := true, recurses := true, apart := false }
def LoadOversSaid : Prop := loadOversRow.holds Tryz.pinned (OpenSpec.ofChange loadOversSpec)

/-- ITS FALSE NEIGHBOUR: 'it returns false'. Refute it at one input. -/
def loadOversWrong : ChangeSpec := { name := "loadOvers", fn := fun _ => fun
  | [d1, d2, d3, d4] => { results := [.lit (.bool false)], args := [d1, d2, d3, d4] }
  | _ => none }
def LoadOversWrongFalsely : Prop := loadOversRow.holds Tryz.pinned (OpenSpec.ofChange loadOversWrong)

/-- 'skywaylaw3.LoadPeaks': WHATEVER THE INPUT: true; the input reads as it did. -/
def loadPeaksSpec : ChangeSpec := { name := "loadPeaks", fn := fun _ => fun
  | [d1, d2, d3] => { results := [.lit (.bool true)], args := [d1, d2, d3] }
  | _ => none }
def loadPeaksRow : OpenClaim := { program := "ytcdbodnhimbddaagreat", sum := "03f2d19d76a5cbdf775ffb7892f4c37e2e91cd57a87646d16e795ef365a819c3", func := "skyway/skywaylaw3.LoadPeaks", spec := "loadPeaks", unfollowed := true, recurses := true, apart := false }
def LoadPeaksSaid : Prop := loadPeaksRow.holds Tryz.pinned (OpenSpec.ofChange loadPeaksSpec)

/-- ITS FALSE NEIGHBOUR: 'it returns false'. Refute it at one input. -/
def loadPeaksWrong : ChangeSpec := { name := "loadPeaks", fn := fun _ => fun
  | [d1, d2, d3] => { results := [.lit (.bool false)], args := [d1, d2, d3] }
  | _ => none }
def LoadPeaksWrongFalsely : Prop := loadPeaksRow.holds Tryz.pinned (OpenSpec.ofChange loadPeaksWrong)

/-- 'skywaylaw3.LoadCounts': WHATEVER THE INPUT: true; the input reads as it did. -/
def loadCountsSpec : ChangeSpec := { name := "loadCounts", fn := fun _ => fun
  | [d1, d2, d3] => { results := [.lit (.bool true)], args := [d1, d2, d3] }
  | _ => none }
def loadCountsRow : OpenClaim := { program := "ytcdbodnhimbddaagreat", sum := "03f2d19d76a5cbdf775ffb7892f4c37e2e91cd57a87646d16e795ef365a819c3", func := "skyway/skywaylaw3.LoadCounts", spec := "loadCounts", unfollowed := true, recurses := true, apart := false }
def LoadCountsSaid : Prop := loadCountsRow.holds Tryz.pinned (OpenSpec.ofChange loadCountsSpec)

/-- ITS FALSE NEIGHBOUR: 'it returns false'. Refute it at one input. -/
def loadCountsWrong : ChangeSpec := { name := "loadCounts", fn := fun _ => fun
  | [d1, d2, d3] => { results := [.lit (.bool false)], args := [d1, d2, d3] }
  | _ => none }
def LoadCountsWrongFalsely : Prop := loadCountsRow.holds Tryz.pinned (OpenSpec.ofChange loadCountsWrong)

/- THE SECOND FORM. 'bulk': how many values and letters a reading holds, each counted each time it is reached (what is shared counts as often as it is met; a slice's spare places count too). A statement '..UptoSaid' is the law's where the arguments, and the package variables that the reading takes, are together of bulk at most 1048576: NARROWER than '..Said'. Prove '..Said' where nothing that the law and all that it calls make is longer than what came in: it says more and counts as full. Else prove '..UptoSaid'. A law counts once. -/
mutual
def uptoBulk {H : Type} : DataW H → Nat
  | .lit (.string bytes) => bytes.length + 1
  | .lit _ => 1
  | .nil => 1
  | .ptr d => uptoBulk d + 1
  | .slice elems spare => uptoBulkAll elems + uptoBulkAll spare + 1
  | .agg parts => uptoBulkAll parts + 1
  | .iface _ d => uptoBulk d + 1
  | .map entries => uptoBulkEntries entries + 1
  | .held _ => 1
def uptoBulkAll {H : Type} : List (DataW H) → Nat
  | [] => 0
  | d :: r => uptoBulk d + uptoBulkAll r
def uptoBulkEntries {H : Type} : List (Lit × DataW H) → Nat
  | [] => 0
  | x :: r => uptoBulkEntry x + uptoBulkEntries r
def uptoBulkEntry {H : Type} : Lit × DataW H → Nat
  | (.string bytes, d) => bytes.length + uptoBulk d + 1
  | (_, d) => uptoBulk d + 1
 end
def uptoSmall : (H : Type) → List (DataW H) → Bool := fun _ ds => decide (uptoBulkAll ds ≤ 1048576)
def OpenSpec.upto (s : _root_.Go.ChangeSpec) : _root_.Go.OpenSpec := { _root_.Go.OpenSpec.ofChange s with cond := some uptoSmall }

/-- 'skywaylaw3.LoadOvers', WHERE WHAT IT READS IS OF BULK AT MOST 1048576: true; the input reads as it did. -/
def loadOversUptoRow : OpenClaim := { program := "ytcdbodnhimbddaagreat", sum := "03f2d19d76a5cbdf775ffb7892f4c37e2e91cd57a87646d16e795ef365a819c3", func := "skyway/skywaylaw3.LoadOvers", spec := "loadOvers", unfollowed := true, recurses := true, apart := false, narrowed := true }
def LoadOversUptoSaid : Prop := loadOversUptoRow.holds Tryz.pinned (OpenSpec.upto loadOversSpec)

/-- 'skywaylaw3.LoadPeaks', WHERE WHAT IT READS IS OF BULK AT MOST 1048576: true; the input reads as it did. -/
def loadPeaksUptoRow : OpenClaim := { program := "ytcdbodnhimbddaagreat", sum := "03f2d19d76a5cbdf775ffb7892f4c37e2e91cd57a87646d16e795ef365a819c3", func := "skyway/skywaylaw3.LoadPeaks", spec := "loadPeaks", unfollowed := true, recurses := true, apart := false, narrowed := true }
def LoadPeaksUptoSaid : Prop := loadPeaksUptoRow.holds Tryz.pinned (OpenSpec.upto loadPeaksSpec)

/-- 'skywaylaw3.LoadCounts', WHERE WHAT IT READS IS OF BULK AT MOST 1048576: true; the input reads as it did. -/
def loadCountsUptoRow : OpenClaim := { program := "ytcdbodnhimbddaagreat", sum := "03f2d19d76a5cbdf775ffb7892f4c37e2e91cd57a87646d16e795ef365a819c3", func := "skyway/skywaylaw3.LoadCounts", spec := "loadCounts", unfollowed := true, recurses := true, apart := false, narrowed := true }
def LoadCountsUptoSaid : Prop := loadCountsUptoRow.holds Tryz.pinned (OpenSpec.upto loadCountsSpec)

end Rows
end Go.Proofs.YtcdbodnhimbddaaGreat
