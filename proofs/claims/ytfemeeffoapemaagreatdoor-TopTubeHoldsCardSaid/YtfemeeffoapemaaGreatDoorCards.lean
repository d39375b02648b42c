/-
  DERIVED. GIVEN WITH THE SEED: THE CARDS: each row of YtfemeeffoapemaaGreatDoorRows.lean that lists a variable, with what it lists TIED to the program's text (the seventh form; the later family's looks); each row that meets fmt, with fmt's text TOLD by the authors' own Lean function (tested against real Go, not proved from fmt's source: count such statements apart). THE CARD IS WHAT COUNTS. Prove the row's statement (the work); the ties are given (YtfemeeffoapemaaGreatDoorTie.lean); close each card by the builder's one call (the guide's Derived/Test/ToyasCard.lean, 'card_holds'). Laid BY PROGRAM, IN A SANDBOX (cutbox-door.mjs). By AI agents, Wed Nov 11 2026. No macro, syntax, notation, axiom, sorry.
-/
import Derived.Test.YtfemeeffoapemaaGreatDoorRows
import GoSem.ClaimSeven
namespace Go.Proofs.YtfemeeffoapemaaGreatDoor
namespace Rows

/-- THE TIED CARD OF 'skywaytop.TopTubeHolds'. -/
def topTubeHoldsCard : Claim7 := { stood := { row := topTubeHoldsRow, standIns := [], harness := (true, "5aa8c23da3bd2a35fae603362a83758dcc04781859845a91e9ef3dc4458ba970"), looks := false }, kinds := [], alts := [], laidByText := true, laidKinds := [.data, .data, .data], laidTests := true, laidLooks := .later }
def TopTubeHoldsCardSaid : Prop := Claim7.holds Tryz.pinned (.plain (OpenSpec.ofChange topTubeHoldsSpec)) topTubeHoldsCard

/-- THE SECOND FORM's CARD OF 'skywaytop.TopTubeHolds'. -/
def topTubeHoldsUptoCard : Claim7 := { stood := { row := topTubeHoldsUptoRow, standIns := [], harness := (true, "5aa8c23da3bd2a35fae603362a83758dcc04781859845a91e9ef3dc4458ba970"), looks := false }, kinds := [], alts := [], laidByText := true, laidKinds := [.data, .data, .data], laidTests := true, laidLooks := .later }
def TopTubeHoldsUptoCardSaid : Prop := Claim7.holds Tryz.pinned (.plain (OpenSpec.upto topTubeHoldsSpec)) topTubeHoldsUptoCard
end Rows
end Go.Proofs.YtfemeeffoapemaaGreatDoor
