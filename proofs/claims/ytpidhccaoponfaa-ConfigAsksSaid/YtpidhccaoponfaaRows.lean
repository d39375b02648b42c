/-
  No cell of these rows narrows 'for every input' (looked for: loops, veiled, ifaces, maps, wideKeys, modest, calm, conditions, laid).
  DERIVED. THE GIVEN ROWS OF THIS SEAT. 5 by the template 'for every input the law returns true; each argument reads behind the call as it read before'; 0 by the template 'total and deterministic' (their statements: YtpidhccaoponfaaTotals.lean).
  GIVEN WITH THE SEED: the statements are not yours to turn. If you find one false, say at which input.
  Laid BY PROGRAM, IN A SANDBOX (cutbox-rows.mjs): the forced cells as the released guide's own fill.sh prints them over the translation b0b6cbe6f80de08d… (all of the seat's roots in one cut). By AI agents, Wed Nov 11 2026. No macro, syntax, notation, axiom, sorry.
-/
import Derived.Test.YtpidhccaoponfaaChecked
import GoSem.Claim
import GoSem.ClaimJoined
import GoSem.ClaimMapViews
import Derived.JoinedTies
import Derived.KernelRfl
namespace Go.Proofs.Ytpidhccaoponfaa
/- THE CELL 'sum', in the pinned program and in every row, IS THE sha256 OF THE DUMP (.gsa) THAT YtpidhccaoponfaaProg.lean LOADS. Nothing in Lean hashes anything: it is a label: what it is worth is what the hold of that sum in a sandbox is worth. -/
noncomputable def Try.pinned : Pinned := { name := "ytpidhccaoponfaa", sum := "b0b6cbe6f80de08dfa4cfc62b569cd63090bded0c7c0062382c87c328d2be5d5", checked := Try.checked }
namespace Rows
def none {H : Type} : Left H := { results := [], args := [] }

/-- 'skywaylaw3.ConfigChecks': WHATEVER THE INPUT: true; the input reads as it did. -/
def configChecksSpec : ChangeSpec := { name := "configChecks", fn := fun _ => fun
  | [d] => { results := [.lit (.bool true)], args := [d] }
  | _ => none }
def configChecksRow : OpenClaim := { program := "ytpidhccaoponfaa", sum := "b0b6cbe6f80de08dfa4cfc62b569cd63090bded0c7c0062382c87c328d2be5d5", func := "skyway/skywaylaw3.ConfigChecks", spec := "configChecks", inPlace := ["internal/bytealg.abigen_runtime_cmpstring"], unfollowed := true, recurses := true, apart := false }
def ConfigChecksSaid : Prop := configChecksRow.holds Try.pinned (OpenSpec.ofChange configChecksSpec)

/-- ITS FALSE NEIGHBOUR: 'it returns false'. Refute it at one input. -/
def configChecksWrong : ChangeSpec := { name := "configChecks", fn := fun _ => fun
  | [d] => { results := [.lit (.bool false)], args := [d] }
  | _ => none }
def ConfigChecksWrongFalsely : Prop := configChecksRow.holds Try.pinned (OpenSpec.ofChange configChecksWrong)

/-- 'skywaylaw3.ConfigBegins': WHATEVER THE INPUT: true; the input reads as it did. -/
def configBeginsSpec : ChangeSpec := { name := "configBegins", fn := fun _ => fun
  | [d] => { results := [.lit (.bool true)], args := [d] }
  | _ => none }
def configBeginsRow : OpenClaim := { program := "ytpidhccaoponfaa", sum := "b0b6cbe6f80de08dfa4cfc62b569cd63090bded0c7c0062382c87c328d2be5d5", func := "skyway/skywaylaw3.ConfigBegins", spec := "configBegins", inPlace := ["internal/bytealg.abigen_runtime_cmpstring"], unfollowed := true, recurses := true, apart := false }
def ConfigBeginsSaid : Prop := configBeginsRow.holds Try.pinned (OpenSpec.ofChange configBeginsSpec)

/-- ITS FALSE NEIGHBOUR: 'it returns false'. Refute it at one input. -/
def configBeginsWrong : ChangeSpec := { name := "configBegins", fn := fun _ => fun
  | [d] => { results := [.lit (.bool false)], args := [d] }
  | _ => none }
def ConfigBeginsWrongFalsely : Prop := configBeginsRow.holds Try.pinned (OpenSpec.ofChange configBeginsWrong)

/-- 'skywaylaw3.ConfigCombines': WHATEVER THE INPUT: true; the input reads as it did. -/
def configCombinesSpec : ChangeSpec := { name := "configCombines", fn := fun _ => fun
  | [d1, d2, d3] => { results := [.lit (.bool true)], args := [d1, d2, d3] }
  | _ => none }
def configCombinesRow : OpenClaim := { program := "ytpidhccaoponfaa", sum := "b0b6cbe6f80de08dfa4cfc62b569cd63090bded0c7c0062382c87c328d2be5d5", func := "skyway/skywaylaw3.ConfigCombines", spec := "configCombines", inPlace := ["internal/bytealg.abigen_runtime_cmpstring"], unfollowed := true, recurses := true, apart := false }
def ConfigCombinesSaid : Prop := configCombinesRow.holds Try.pinned (OpenSpec.ofChange configCombinesSpec)

/-- ITS FALSE NEIGHBOUR: 'it returns false'. Refute it at one input. -/
def configCombinesWrong : ChangeSpec := { name := "configCombines", fn := fun _ => fun
  | [d1, d2, d3] => { results := [.lit (.bool false)], args := [d1, d2, d3] }
  | _ => none }
def ConfigCombinesWrongFalsely : Prop := configCombinesRow.holds Try.pinned (OpenSpec.ofChange configCombinesWrong)

/-- 'skywaylaw3.ConfigSplits': WHATEVER THE INPUT: true; the input reads as it did. -/
def configSplitsSpec : ChangeSpec := { name := "configSplits", fn := fun _ => fun
  | [d1, d2, d3, d4] => { results := [.lit (.bool true)], args := [d1, d2, d3, d4] }
  | _ => none }
def configSplitsRow : OpenClaim := { program := "ytpidhccaoponfaa", sum := "b0b6cbe6f80de08dfa4cfc62b569cd63090bded0c7c0062382c87c328d2be5d5", func := "skyway/skywaylaw3.ConfigSplits", spec := "configSplits", inPlace := ["internal/bytealg.abigen_runtime_cmpstring"], unfollowed := true, recurses := true, apart := false }
def ConfigSplitsSaid : Prop := configSplitsRow.holds Try.pinned (OpenSpec.ofChange configSplitsSpec)

/-- ITS FALSE NEIGHBOUR: 'it returns false'. Refute it at one input. -/
def configSplitsWrong : ChangeSpec := { name := "configSplits", fn := fun _ => fun
  | [d1, d2, d3, d4] => { results := [.lit (.bool false)], args := [d1, d2, d3, d4] }
  | _ => none }
def ConfigSplitsWrongFalsely : Prop := configSplitsRow.holds Try.pinned (OpenSpec.ofChange configSplitsWrong)

/-- 'skywaylaw3.ConfigAsks': WHATEVER THE INPUT: true; the input reads as it did. -/
def configAsksSpec : ChangeSpec := { name := "configAsks", fn := fun _ => fun
  | [d1, d2] => { results := [.lit (.bool true)], args := [d1, d2] }
  | _ => none }
def configAsksRow : OpenClaim := { program := "ytpidhccaoponfaa", sum := "b0b6cbe6f80de08dfa4cfc62b569cd63090bded0c7c0062382c87c328d2be5d5", func := "skyway/skywaylaw3.ConfigAsks", spec := "configAsks", inPlace := ["internal/bytealg.abigen_runtime_cmpstring"], unfollowed := true, recurses := true, apart := false }
def ConfigAsksSaid : Prop := configAsksRow.holds Try.pinned (OpenSpec.ofChange configAsksSpec)

/-- ITS FALSE NEIGHBOUR: 'it returns false'. Refute it at one input. -/
def configAsksWrong : ChangeSpec := { name := "configAsks", fn := fun _ => fun
  | [d1, d2] => { results := [.lit (.bool false)], args := [d1, d2] }
  | _ => none }
def ConfigAsksWrongFalsely : Prop := configAsksRow.holds Try.pinned (OpenSpec.ofChange configAsksWrong)

/- THE SECOND FORM. 'bulk': how many values and letters a reading holds, each counted each time it is reached (what is shared counts as often as it is met; a slice's spare places count too). A statement '..UptoSaid' is the law's where the arguments, and the package variables that the reading takes, are together of bulk at most 1048576: NARROWER than '..Said'. Prove '..Said' where nothing that the law and all that it calls make is longer than what came in: it says more and counts as full. Else prove '..UptoSaid'. A law counts once. -/
mutual
def uptoBulk {H : Type} : DataW H → Nat
  | .lit (.string bytes) => bytes.length + 1
  | .lit _ => 1
  | .nil => 1
  | .ptr d => uptoBulk d + 1
  | .slice elems spare => uptoBulkAll elems + uptoBulkAll spare + 1
  | .agg parts => uptoBulkAll parts + 1
  | .iface _ d => uptoBulk d + 1
  | .map entries => uptoBulkEntries entries + 1
  | .held _ => 1
def uptoBulkAll {H : Type} : List (DataW H) → Nat
  | [] => 0
  | d :: r => uptoBulk d + uptoBulkAll r
def uptoBulkEntries {H : Type} : List (Lit × DataW H) → Nat
  | [] => 0
  | x :: r => uptoBulkEntry x + uptoBulkEntries r
def uptoBulkEntry {H : Type} : Lit × DataW H → Nat
  | (.string bytes, d) => bytes.length + uptoBulk d + 1
  | (_, d) => uptoBulk d + 1
 end
def uptoSmall : (H : Type) → List (DataW H) → Bool := fun _ ds => decide (uptoBulkAll ds ≤ 1048576)
def OpenSpec.upto (s : _root_.Go.ChangeSpec) : _root_.Go.OpenSpec := { _root_.Go.OpenSpec.ofChange s with cond := some uptoSmall }

/-- 'skywaylaw3.ConfigChecks', WHERE WHAT IT READS IS OF BULK AT MOST 1048576: true; the input reads as it did. -/
def configChecksUptoRow : OpenClaim := { program := "ytpidhccaoponfaa", sum := "b0b6cbe6f80de08dfa4cfc62b569cd63090bded0c7c0062382c87c328d2be5d5", func := "skyway/skywaylaw3.ConfigChecks", spec := "configChecks", inPlace := ["internal/bytealg.abigen_runtime_cmpstring"], unfollowed := true, recurses := true, apart := false, narrowed := true }
def ConfigChecksUptoSaid : Prop := configChecksUptoRow.holds Try.pinned (OpenSpec.upto configChecksSpec)

/-- 'skywaylaw3.ConfigBegins', WHERE WHAT IT READS IS OF BULK AT MOST 1048576: true; the input reads as it did. -/
def configBeginsUptoRow : OpenClaim := { program := "ytpidhccaoponfaa", sum := "b0b6cbe6f80de08dfa4cfc62b569cd63090bded0c7c0062382c87c328d2be5d5", func := "skyway/skywaylaw3.ConfigBegins", spec := "configBegins", inPlace := ["internal/bytealg.abigen_runtime_cmpstring"], unfollowed := true, recurses := true, apart := false, narrowed := true }
def ConfigBeginsUptoSaid : Prop := configBeginsUptoRow.holds Try.pinned (OpenSpec.upto configBeginsSpec)

/-- 'skywaylaw3.ConfigCombines', WHERE WHAT IT READS IS OF BULK AT MOST 1048576: true; the input reads as it did. -/
def configCombinesUptoRow : OpenClaim := { program := "ytpidhccaoponfaa", sum := "b0b6cbe6f80de08dfa4cfc62b569cd63090bded0c7c0062382c87c328d2be5d5", func := "skyway/skywaylaw3.ConfigCombines", spec := "configCombines", inPlace := ["internal/bytealg.abigen_runtime_cmpstring"], unfollowed := true, recurses := true, apart := false, narrowed := true }
def ConfigCombinesUptoSaid : Prop := configCombinesUptoRow.holds Try.pinned (OpenSpec.upto configCombinesSpec)

/-- 'skywaylaw3.ConfigSplits', WHERE WHAT IT READS IS OF BULK AT MOST 1048576: true; the input reads as it did. -/
def configSplitsUptoRow : OpenClaim := { program := "ytpidhccaoponfaa", sum := "b0b6cbe6f80de08dfa4cfc62b569cd63090bded0c7c0062382c87c328d2be5d5", func := "skyway/skywaylaw3.ConfigSplits", spec := "configSplits", inPlace := ["internal/bytealg.abigen_runtime_cmpstring"], unfollowed := true, recurses := true, apart := false, narrowed := true }
def ConfigSplitsUptoSaid : Prop := configSplitsUptoRow.holds Try.pinned (OpenSpec.upto configSplitsSpec)

/-- 'skywaylaw3.ConfigAsks', WHERE WHAT IT READS IS OF BULK AT MOST 1048576: true; the input reads as it did. -/
def configAsksUptoRow : OpenClaim := { program := "ytpidhccaoponfaa", sum := "b0b6cbe6f80de08dfa4cfc62b569cd63090bded0c7c0062382c87c328d2be5d5", func := "skyway/skywaylaw3.ConfigAsks", spec := "configAsks", inPlace := ["internal/bytealg.abigen_runtime_cmpstring"], unfollowed := true, recurses := true, apart := false, narrowed := true }
def ConfigAsksUptoSaid : Prop := configAsksUptoRow.holds Try.pinned (OpenSpec.upto configAsksSpec)

end Rows
end Go.Proofs.Ytpidhccaoponfaa
