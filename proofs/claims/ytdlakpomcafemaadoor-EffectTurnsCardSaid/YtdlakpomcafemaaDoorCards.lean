/-
  DERIVED. GIVEN WITH THE SEED: THE CARDS: each row of YtdlakpomcafemaaDoorRows.lean that lists a variable, with what it lists TIED to the program's text (the seventh form; the later family's looks); each row that meets fmt, with fmt's text TOLD by the authors' own Lean function (tested against real Go, not proved from fmt's source: count such statements apart). THE CARD IS WHAT COUNTS. Prove the row's statement (the work); the ties are given (YtdlakpomcafemaaDoorTie.lean); close each card by the builder's one call (the guide's Derived/Test/ToyasCard.lean, 'card_holds'). Laid BY PROGRAM, IN A SANDBOX (cutbox-door.mjs). By AI agents, Wed Nov 11 2026. No macro, syntax, notation, axiom, sorry.
-/
import Derived.Test.YtdlakpomcafemaaDoorRows
import GoSem.ClaimSeven
namespace Go.Proofs.YtdlakpomcafemaaDoor
namespace Rows

/-- THE TIED CARD OF 'skywaylaw3.EffectTurns'. -/
def effectTurnsCard : Claim7 := { stood := { row := effectTurnsRow, standIns := [], harness := (true, "9d32c768d6c7be1598a1f10ecaf480b40975a911e5f3790f27f48af8ad75c308"), looks := false }, kinds := [], alts := [], laidByText := true, laidKinds := [.data, .data, .data, .widerDeep, .data], laidTests := true, laidLooks := .later }
def EffectTurnsCardSaid : Prop := Claim7.holds Tryd.pinned (.plain (OpenSpec.ofChange effectTurnsSpec)) effectTurnsCard

/-- THE SECOND FORM's CARD OF 'skywaylaw3.EffectTurns'. -/
def effectTurnsUptoCard : Claim7 := { stood := { row := effectTurnsUptoRow, standIns := [], harness := (true, "9d32c768d6c7be1598a1f10ecaf480b40975a911e5f3790f27f48af8ad75c308"), looks := false }, kinds := [], alts := [], laidByText := true, laidKinds := [.data, .data, .data, .widerDeep, .data], laidTests := true, laidLooks := .later }
def EffectTurnsUptoCardSaid : Prop := Claim7.holds Tryd.pinned (.plain (OpenSpec.upto effectTurnsSpec)) effectTurnsUptoCard
end Rows
end Go.Proofs.YtdlakpomcafemaaDoor
