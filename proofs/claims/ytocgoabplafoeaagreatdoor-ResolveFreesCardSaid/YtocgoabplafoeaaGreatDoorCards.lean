/-
  DERIVED. GIVEN WITH THE SEED: THE CARDS: each row of YtocgoabplafoeaaGreatDoorRows.lean that lists a variable, with what it lists TIED to the program's text (the seventh form; the later family's looks); each row that meets fmt, with fmt's text TOLD by the authors' own Lean function (tested against real Go, not proved from fmt's source: count such statements apart). THE CARD IS WHAT COUNTS. Prove the row's statement (the work); the ties are given (YtocgoabplafoeaaGreatDoorTie.lean); close each card by the builder's one call (the guide's Derived/Test/ToyasCard.lean, 'card_holds'). Laid BY PROGRAM, IN A SANDBOX (cutbox-door.mjs). By AI agents, Wed Nov 11 2026. No macro, syntax, notation, axiom, sorry.
-/
import Derived.Test.YtocgoabplafoeaaGreatDoorRows
import GoSem.ClaimSeven
namespace Go.Proofs.YtocgoabplafoeaaGreatDoor
namespace Rows

/-- THE TIED CARD OF 'skywaylaw3.ResolveFrees'. -/
def resolveFreesCard : Claim7 := { stood := { row := resolveFreesRow, standIns := [], harness := (true, "993995ec1615711119e90860776b859849d99af420701adc003f3c569cb93fd4"), looks := false }, kinds := [], alts := [], laidByText := true, laidKinds := [.data, .data, .data, .widerDeep, .data], laidTests := true, laidLooks := .later }
def ResolveFreesCardSaid : Prop := Claim7.holds Tryz.pinned (.plain (OpenSpec.ofChange resolveFreesSpec)) resolveFreesCard

/-- THE SECOND FORM's CARD OF 'skywaylaw3.ResolveFrees'. -/
def resolveFreesUptoCard : Claim7 := { stood := { row := resolveFreesUptoRow, standIns := [], harness := (true, "993995ec1615711119e90860776b859849d99af420701adc003f3c569cb93fd4"), looks := false }, kinds := [], alts := [], laidByText := true, laidKinds := [.data, .data, .data, .widerDeep, .data], laidTests := true, laidLooks := .later }
def ResolveFreesUptoCardSaid : Prop := Claim7.holds Tryz.pinned (.plain (OpenSpec.upto resolveFreesSpec)) resolveFreesUptoCard
end Rows
end Go.Proofs.YtocgoabplafoeaaGreatDoor
