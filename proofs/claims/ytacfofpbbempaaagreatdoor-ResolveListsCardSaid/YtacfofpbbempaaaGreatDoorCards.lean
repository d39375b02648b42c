/-
  DERIVED. GIVEN WITH THE SEED: THE CARDS: each row of YtacfofpbbempaaaGreatDoorRows.lean that lists a variable, with what it lists TIED to the program's text (the seventh form; the later family's looks); each row that meets fmt, with fmt's text TOLD by the authors' own Lean function (tested against real Go, not proved from fmt's source: count such statements apart). THE CARD IS WHAT COUNTS. Prove the row's statement (the work); the ties are given (YtacfofpbbempaaaGreatDoorTie.lean); close each card by the builder's one call (the guide's Derived/Test/ToyasCard.lean, 'card_holds'). Laid BY PROGRAM, IN A SANDBOX (cutbox-door.mjs). By AI agents, Wed Nov 11 2026. No macro, syntax, notation, axiom, sorry.
-/
import Derived.Test.YtacfofpbbempaaaGreatDoorRows
import GoSem.ClaimSeven
namespace Go.Proofs.YtacfofpbbempaaaGreatDoor
namespace Rows

/-- THE TIED CARD OF 'skywaylaw3.ResolveLists'. -/
def resolveListsCard : Claim7 := { stood := { row := resolveListsRow, standIns := [], harness := (true, "e50f7af2e80f9fa71a7ad1bbba0bdeb566eff3ec426faa9ef1a4e0b13eff3d90"), looks := false }, kinds := [], alts := [], laidByText := true, laidKinds := [.data, .data, .data, .widerDeep, .data], laidTests := true, laidLooks := .later }
def ResolveListsCardSaid : Prop := Claim7.holds Tryz.pinned (.plain (OpenSpec.ofChange resolveListsSpec)) resolveListsCard

/-- THE SECOND FORM's CARD OF 'skywaylaw3.ResolveLists'. -/
def resolveListsUptoCard : Claim7 := { stood := { row := resolveListsUptoRow, standIns := [], harness := (true, "e50f7af2e80f9fa71a7ad1bbba0bdeb566eff3ec426faa9ef1a4e0b13eff3d90"), looks := false }, kinds := [], alts := [], laidByText := true, laidKinds := [.data, .data, .data, .widerDeep, .data], laidTests := true, laidLooks := .later }
def ResolveListsUptoCardSaid : Prop := Claim7.holds Tryz.pinned (.plain (OpenSpec.upto resolveListsSpec)) resolveListsUptoCard
end Rows
end Go.Proofs.YtacfofpbbempaaaGreatDoor
