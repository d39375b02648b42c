/-
  DERIVED. GIVEN WITH THE SEED: THE CARDS: each row of YtcifjnhpgblnkaaGreatDoorRows.lean that lists a variable, with what it lists TIED to the program's text (the seventh form; the later family's looks); each row that meets fmt, with fmt's text TOLD by the authors' own Lean function (tested against real Go, not proved from fmt's source: count such statements apart). THE CARD IS WHAT COUNTS. Prove the row's statement (the work); the ties are given (YtcifjnhpgblnkaaGreatDoorTie.lean); close each card by the builder's one call (the guide's Derived/Test/ToyasCard.lean, 'card_holds'). Laid BY PROGRAM, IN A SANDBOX (cutbox-door.mjs). By AI agents, Wed Nov 11 2026. No macro, syntax, notation, axiom, sorry.
-/
import Derived.Test.YtcifjnhpgblnkaaGreatDoorRows
import GoSem.ClaimSeven
namespace Go.Proofs.YtcifjnhpgblnkaaGreatDoor
namespace Rows

/-- THE TIED CARD OF 'skywaytop.TopSlots'. -/
def topSlotsCard : Claim7 := { stood := { row := topSlotsRow, standIns := [], harness := (true, "9aab04a1e6c9c57d7a2bcc26cb2efd79ffb984be191c1162e211376838cd857c"), looks := true }, kinds := [], alts := [], laidByText := true, laidKinds := [.data, .data, .data, .data, .data, .data, .data, .sentinel, .sentinel, .widerDeep, .data, .pinned], laidTests := true, laidLooks := .later }
def TopSlotsCardSaid : Prop := Claim7.holds Tryz.pinned (.plain (OpenSpec.ofChange topSlotsSpec)) topSlotsCard

/-- THE TIED CARD OF 'skywaytop.TopReadback'. -/
def topReadbackCard : Claim7 := { stood := { row := topReadbackRow, standIns := [], harness := (true, "9aab04a1e6c9c57d7a2bcc26cb2efd79ffb984be191c1162e211376838cd857c"), looks := true }, kinds := [], alts := [], laidByText := true, laidKinds := [.data, .data, .data, .data, .data, .data, .data, .sentinel, .sentinel, .widerDeep, .data, .pinned], laidTests := true, laidLooks := .later }
def TopReadbackCardSaid : Prop := Claim7.holds Tryz.pinned (.plain (OpenSpec.ofChange topReadbackSpec)) topReadbackCard

/-- THE SECOND FORM's CARD OF 'skywaytop.TopSlots'. -/
def topSlotsUptoCard : Claim7 := { stood := { row := topSlotsUptoRow, standIns := [], harness := (true, "9aab04a1e6c9c57d7a2bcc26cb2efd79ffb984be191c1162e211376838cd857c"), looks := true }, kinds := [], alts := [], laidByText := true, laidKinds := [.data, .data, .data, .data, .data, .data, .data, .sentinel, .sentinel, .widerDeep, .data, .pinned], laidTests := true, laidLooks := .later }
def TopSlotsUptoCardSaid : Prop := Claim7.holds Tryz.pinned (.plain (OpenSpec.upto topSlotsSpec)) topSlotsUptoCard

/-- THE SECOND FORM's CARD OF 'skywaytop.TopReadback'. -/
def topReadbackUptoCard : Claim7 := { stood := { row := topReadbackUptoRow, standIns := [], harness := (true, "9aab04a1e6c9c57d7a2bcc26cb2efd79ffb984be191c1162e211376838cd857c"), looks := true }, kinds := [], alts := [], laidByText := true, laidKinds := [.data, .data, .data, .data, .data, .data, .data, .sentinel, .sentinel, .widerDeep, .data, .pinned], laidTests := true, laidLooks := .later }
def TopReadbackUptoCardSaid : Prop := Claim7.holds Tryz.pinned (.plain (OpenSpec.upto topReadbackSpec)) topReadbackUptoCard
end Rows
end Go.Proofs.YtcifjnhpgblnkaaGreatDoor
