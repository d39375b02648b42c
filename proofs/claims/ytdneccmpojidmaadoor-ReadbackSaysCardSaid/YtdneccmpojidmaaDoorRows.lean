/-
  NARROWER THAN 'FOR EVERY INPUT', by the rows' own cells (each row's printed sentence says how): ReadbackDiffers: laid · ReadbackSays: laid · ReadbackHears: laid · ReadbackLapses: laid.
  DERIVED. THE GIVEN ROWS OF THIS SEAT. 4 by the template 'for every input the law returns true; each argument reads behind the call as it read before'; 0 by the template 'total and deterministic' (their statements: YtdneccmpojidmaaDoorTotals.lean).
  GIVEN WITH THE SEED: the statements are not yours to turn. If you find one false, say at which input.
  Laid BY PROGRAM, IN A SANDBOX (cutbox-rows.mjs): the forced cells as the released guide's own fill.sh prints them over the translation 195352b0f317faaf… (all of the seat's roots in one cut). By AI agents, Wed Nov 11 2026. No macro, syntax, notation, axiom, sorry.
-/
import Derived.Test.YtdneccmpojidmaaDoorChecked
import GoSem.Claim
import GoSem.ClaimJoined
import GoSem.ClaimMapViews
import Derived.JoinedTies
import Derived.KernelRfl
namespace Go.Proofs.YtdneccmpojidmaaDoor
/- THE CELL 'sum', in the pinned program and in every row, IS THE sha256 OF THE DUMP (.gsa) THAT YtdneccmpojidmaaDoorProg.lean LOADS. Nothing in Lean hashes anything: it is a label: what it is worth is what the hold of that sum in a sandbox is worth. -/
noncomputable def Tryd.pinned : Pinned := { name := "ytdneccmpojidmaadoor", sum := "195352b0f317faaff528a78dc56e7c572be2bf6376012b516ba6a9587df1dea5", checked := Tryd.checked }
namespace Rows
def none {H : Type} : Left H := { results := [], args := [] }

/- WHAT THE LISTED PACKAGE-LEVEL VARIABLES READ AS WHEN THE CALL BEGINS. Each datum BY PROGRAM (the guide's laid-datum.mjs) off the statement by which the dump's own 'gosem.cut.vars' lays the variable. In a bare row this is a premise. The card (YtdneccmpojidmaaDoorCards.lean) ties it to the program's text. -/
def laid_skyway_phrase_words {H : Type} : DataW H := .agg [.lit (.string [72, 69, 73, 71, 72, 84]), .lit (.string [72, 69, 65, 68, 73, 78, 71]), .lit (.string [83, 80, 69, 69, 68]), .lit (.string [68, 73, 82, 69, 67, 84]), .lit (.string [72, 79, 76, 68]), .lit (.string [67, 79, 78, 84, 65, 67, 84]), .lit (.string [76, 65, 78, 68])]
def laid_skyway_phrase_most {H : Type} : DataW H := .agg [.lit (.int .i64 60000), .lit (.int .i64 4095), .lit (.int .i64 400)]

/-- 'skywaylaw3.ReadbackDiffers': WHATEVER THE INPUT: true; the input reads as it did. -/
def readbackDiffersSpec : ChangeSpec := { name := "readbackDiffers", fn := fun _ => fun
  | [d1, d2] => { results := [.lit (.bool true)], args := [d1, d2] }
  | _ => none }
def readbackDiffersRow : OpenClaim := { program := "ytdneccmpojidmaadoor", sum := "195352b0f317faaff528a78dc56e7c572be2bf6376012b516ba6a9587df1dea5", func := "skyway/skywaylaw3.ReadbackDiffers", spec := "readbackDiffers", unfollowed := true, recurses := true, named := ["skyway/phrase.most", "skyway/phrase.words"], apart := false, laid := [("skyway/phrase.words", laid_skyway_phrase_words), ("skyway/phrase.most", laid_skyway_phrase_most)] }
def ReadbackDiffersSaid : Prop := readbackDiffersRow.holds Tryd.pinned (OpenSpec.ofChange readbackDiffersSpec)

/-- ITS FALSE NEIGHBOUR: 'it returns false'. Refute it at one input. -/
def readbackDiffersWrong : ChangeSpec := { name := "readbackDiffers", fn := fun _ => fun
  | [d1, d2] => { results := [.lit (.bool false)], args := [d1, d2] }
  | _ => none }
def ReadbackDiffersWrongFalsely : Prop := readbackDiffersRow.holds Tryd.pinned (OpenSpec.ofChange readbackDiffersWrong)

/-- 'skywaylaw3.ReadbackSays': WHATEVER THE INPUT: true; the input reads as it did. -/
def readbackSaysSpec : ChangeSpec := { name := "readbackSays", fn := fun _ => fun
  | [d1, d2, d3] => { results := [.lit (.bool true)], args := [d1, d2, d3] }
  | _ => none }
def readbackSaysRow : OpenClaim := { program := "ytdneccmpojidmaadoor", sum := "195352b0f317faaff528a78dc56e7c572be2bf6376012b516ba6a9587df1dea5", func := "skyway/skywaylaw3.ReadbackSays", spec := "readbackSays", unfollowed := true, recurses := true, named := ["skyway/phrase.most", "skyway/phrase.words"], apart := false, laid := [("skyway/phrase.words", laid_skyway_phrase_words), ("skyway/phrase.most", laid_skyway_phrase_most)] }
def ReadbackSaysSaid : Prop := readbackSaysRow.holds Tryd.pinned (OpenSpec.ofChange readbackSaysSpec)

/-- ITS FALSE NEIGHBOUR: 'it returns false'. Refute it at one input. -/
def readbackSaysWrong : ChangeSpec := { name := "readbackSays", fn := fun _ => fun
  | [d1, d2, d3] => { results := [.lit (.bool false)], args := [d1, d2, d3] }
  | _ => none }
def ReadbackSaysWrongFalsely : Prop := readbackSaysRow.holds Tryd.pinned (OpenSpec.ofChange readbackSaysWrong)

/-- 'skywaylaw3.ReadbackHears': WHATEVER THE INPUT: true; the input reads as it did. -/
def readbackHearsSpec : ChangeSpec := { name := "readbackHears", fn := fun _ => fun
  | [d1, d2, d3] => { results := [.lit (.bool true)], args := [d1, d2, d3] }
  | _ => none }
def readbackHearsRow : OpenClaim := { program := "ytdneccmpojidmaadoor", sum := "195352b0f317faaff528a78dc56e7c572be2bf6376012b516ba6a9587df1dea5", func := "skyway/skywaylaw3.ReadbackHears", spec := "readbackHears", unfollowed := true, recurses := true, named := ["skyway/phrase.most", "skyway/phrase.words"], apart := false, laid := [("skyway/phrase.words", laid_skyway_phrase_words), ("skyway/phrase.most", laid_skyway_phrase_most)] }
def ReadbackHearsSaid : Prop := readbackHearsRow.holds Tryd.pinned (OpenSpec.ofChange readbackHearsSpec)

/-- ITS FALSE NEIGHBOUR: 'it returns false'. Refute it at one input. -/
def readbackHearsWrong : ChangeSpec := { name := "readbackHears", fn := fun _ => fun
  | [d1, d2, d3] => { results := [.lit (.bool false)], args := [d1, d2, d3] }
  | _ => none }
def ReadbackHearsWrongFalsely : Prop := readbackHearsRow.holds Tryd.pinned (OpenSpec.ofChange readbackHearsWrong)

/-- 'skywaylaw3.ReadbackLapses': WHATEVER THE INPUT: true; the input reads as it did. -/
def readbackLapsesSpec : ChangeSpec := { name := "readbackLapses", fn := fun _ => fun
  | [d1, d2, d3] => { results := [.lit (.bool true)], args := [d1, d2, d3] }
  | _ => none }
def readbackLapsesRow : OpenClaim := { program := "ytdneccmpojidmaadoor", sum := "195352b0f317faaff528a78dc56e7c572be2bf6376012b516ba6a9587df1dea5", func := "skyway/skywaylaw3.ReadbackLapses", spec := "readbackLapses", unfollowed := true, recurses := true, named := ["skyway/phrase.most", "skyway/phrase.words"], apart := false, laid := [("skyway/phrase.words", laid_skyway_phrase_words), ("skyway/phrase.most", laid_skyway_phrase_most)] }
def ReadbackLapsesSaid : Prop := readbackLapsesRow.holds Tryd.pinned (OpenSpec.ofChange readbackLapsesSpec)

/-- ITS FALSE NEIGHBOUR: 'it returns false'. Refute it at one input. -/
def readbackLapsesWrong : ChangeSpec := { name := "readbackLapses", fn := fun _ => fun
  | [d1, d2, d3] => { results := [.lit (.bool false)], args := [d1, d2, d3] }
  | _ => none }
def ReadbackLapsesWrongFalsely : Prop := readbackLapsesRow.holds Tryd.pinned (OpenSpec.ofChange readbackLapsesWrong)

/- THE SECOND FORM. 'bulk': how many values and letters a reading holds, each counted each time it is reached (what is shared counts as often as it is met; a slice's spare places count too). A statement '..UptoSaid' is the law's where the arguments, and the package variables that the reading takes, are together of bulk at most 1048576: NARROWER than '..Said'. Prove '..Said' where nothing that the law and all that it calls make is longer than what came in: it says more and counts as full. Else prove '..UptoSaid'. A law counts once. -/
mutual
def uptoBulk {H : Type} : DataW H → Nat
  | .lit (.string bytes) => bytes.length + 1
  | .lit _ => 1
  | .nil => 1
  | .ptr d => uptoBulk d + 1
  | .slice elems spare => uptoBulkAll elems + uptoBulkAll spare + 1
  | .agg parts => uptoBulkAll parts + 1
  | .iface _ d => uptoBulk d + 1
  | .map entries => uptoBulkEntries entries + 1
  | .held _ => 1
def uptoBulkAll {H : Type} : List (DataW H) → Nat
  | [] => 0
  | d :: r => uptoBulk d + uptoBulkAll r
def uptoBulkEntries {H : Type} : List (Lit × DataW H) → Nat
  | [] => 0
  | x :: r => uptoBulkEntry x + uptoBulkEntries r
def uptoBulkEntry {H : Type} : Lit × DataW H → Nat
  | (.string bytes, d) => bytes.length + uptoBulk d + 1
  | (_, d) => uptoBulk d + 1
 end
def uptoSmall : (H : Type) → List (DataW H) → Bool := fun _ ds => decide (uptoBulkAll ds ≤ 1048576)
def OpenSpec.upto (s : _root_.Go.ChangeSpec) : _root_.Go.OpenSpec := { _root_.Go.OpenSpec.ofChange s with cond := some uptoSmall }

/-- 'skywaylaw3.ReadbackDiffers', WHERE WHAT IT READS IS OF BULK AT MOST 1048576: true; the input reads as it did. -/
def readbackDiffersUptoRow : OpenClaim := { program := "ytdneccmpojidmaadoor", sum := "195352b0f317faaff528a78dc56e7c572be2bf6376012b516ba6a9587df1dea5", func := "skyway/skywaylaw3.ReadbackDiffers", spec := "readbackDiffers", unfollowed := true, recurses := true, named := ["skyway/phrase.most", "skyway/phrase.words"], apart := false, laid := [("skyway/phrase.words", laid_skyway_phrase_words), ("skyway/phrase.most", laid_skyway_phrase_most)], narrowed := true }
def ReadbackDiffersUptoSaid : Prop := readbackDiffersUptoRow.holds Tryd.pinned (OpenSpec.upto readbackDiffersSpec)

/-- 'skywaylaw3.ReadbackSays', WHERE WHAT IT READS IS OF BULK AT MOST 1048576: true; the input reads as it did. -/
def readbackSaysUptoRow : OpenClaim := { program := "ytdneccmpojidmaadoor", sum := "195352b0f317faaff528a78dc56e7c572be2bf6376012b516ba6a9587df1dea5", func := "skyway/skywaylaw3.ReadbackSays", spec := "readbackSays", unfollowed := true, recurses := true, named := ["skyway/phrase.most", "skyway/phrase.words"], apart := false, laid := [("skyway/phrase.words", laid_skyway_phrase_words), ("skyway/phrase.most", laid_skyway_phrase_most)], narrowed := true }
def ReadbackSaysUptoSaid : Prop := readbackSaysUptoRow.holds Tryd.pinned (OpenSpec.upto readbackSaysSpec)

/-- 'skywaylaw3.ReadbackHears', WHERE WHAT IT READS IS OF BULK AT MOST 1048576: true; the input reads as it did. -/
def readbackHearsUptoRow : OpenClaim := { program := "ytdneccmpojidmaadoor", sum := "195352b0f317faaff528a78dc56e7c572be2bf6376012b516ba6a9587df1dea5", func := "skyway/skywaylaw3.ReadbackHears", spec := "readbackHears", unfollowed := true, recurses := true, named := ["skyway/phrase.most", "skyway/phrase.words"], apart := false, laid := [("skyway/phrase.words", laid_skyway_phrase_words), ("skyway/phrase.most", laid_skyway_phrase_most)], narrowed := true }
def ReadbackHearsUptoSaid : Prop := readbackHearsUptoRow.holds Tryd.pinned (OpenSpec.upto readbackHearsSpec)

/-- 'skywaylaw3.ReadbackLapses', WHERE WHAT IT READS IS OF BULK AT MOST 1048576: true; the input reads as it did. -/
def readbackLapsesUptoRow : OpenClaim := { program := "ytdneccmpojidmaadoor", sum := "195352b0f317faaff528a78dc56e7c572be2bf6376012b516ba6a9587df1dea5", func := "skyway/skywaylaw3.ReadbackLapses", spec := "readbackLapses", unfollowed := true, recurses := true, named := ["skyway/phrase.most", "skyway/phrase.words"], apart := false, laid := [("skyway/phrase.words", laid_skyway_phrase_words), ("skyway/phrase.most", laid_skyway_phrase_most)], narrowed := true }
def ReadbackLapsesUptoSaid : Prop := readbackLapsesUptoRow.holds Tryd.pinned (OpenSpec.upto readbackLapsesSpec)

end Rows
end Go.Proofs.YtdneccmpojidmaaDoor
