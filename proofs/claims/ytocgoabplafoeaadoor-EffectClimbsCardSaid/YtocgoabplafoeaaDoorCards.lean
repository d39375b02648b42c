/-
  DERIVED. GIVEN WITH THE SEED: THE CARDS: each row of YtocgoabplafoeaaDoorRows.lean that lists a variable, with what it lists TIED to the program's text (the seventh form; the later family's looks); each row that meets fmt, with fmt's text TOLD by the authors' own Lean function (tested against real Go, not proved from fmt's source: count such statements apart). THE CARD IS WHAT COUNTS. Prove the row's statement (the work); the ties are given (YtocgoabplafoeaaDoorTie.lean); close each card by the builder's one call (the guide's Derived/Test/ToyasCard.lean, 'card_holds'). Laid BY PROGRAM, IN A SANDBOX (cutbox-door.mjs). By AI agents, Wed Nov 11 2026. No macro, syntax, notation, axiom, sorry.
-/
import Derived.Test.YtocgoabplafoeaaDoorRows
import GoSem.ClaimSeven
namespace Go.Proofs.YtocgoabplafoeaaDoor
namespace Rows

/-- THE TIED CARD OF 'skywaylaw3.EffectDiffers'. -/
def effectDiffersCard : Claim7 := { stood := { row := effectDiffersRow, standIns := [], harness := (true, "cfd7abd53731088c12742599023afd6afdf031b31af683978a10266a74771c68"), looks := false }, kinds := [], alts := [], laidByText := true, laidKinds := [.data, .data, .data, .widerDeep, .data], laidTests := true, laidLooks := .later }
def EffectDiffersCardSaid : Prop := Claim7.holds Tryd.pinned (.plain (OpenSpec.ofChange effectDiffersSpec)) effectDiffersCard

/-- THE TIED CARD OF 'skywaylaw3.EffectClimbs'. -/
def effectClimbsCard : Claim7 := { stood := { row := effectClimbsRow, standIns := [], harness := (true, "cfd7abd53731088c12742599023afd6afdf031b31af683978a10266a74771c68"), looks := false }, kinds := [], alts := [], laidByText := true, laidKinds := [.data, .data, .data, .widerDeep, .data], laidTests := true, laidLooks := .later }
def EffectClimbsCardSaid : Prop := Claim7.holds Tryd.pinned (.plain (OpenSpec.ofChange effectClimbsSpec)) effectClimbsCard

/-- THE SECOND FORM's CARD OF 'skywaylaw3.EffectDiffers'. -/
def effectDiffersUptoCard : Claim7 := { stood := { row := effectDiffersUptoRow, standIns := [], harness := (true, "cfd7abd53731088c12742599023afd6afdf031b31af683978a10266a74771c68"), looks := false }, kinds := [], alts := [], laidByText := true, laidKinds := [.data, .data, .data, .widerDeep, .data], laidTests := true, laidLooks := .later }
def EffectDiffersUptoCardSaid : Prop := Claim7.holds Tryd.pinned (.plain (OpenSpec.upto effectDiffersSpec)) effectDiffersUptoCard

/-- THE SECOND FORM's CARD OF 'skywaylaw3.EffectClimbs'. -/
def effectClimbsUptoCard : Claim7 := { stood := { row := effectClimbsUptoRow, standIns := [], harness := (true, "cfd7abd53731088c12742599023afd6afdf031b31af683978a10266a74771c68"), looks := false }, kinds := [], alts := [], laidByText := true, laidKinds := [.data, .data, .data, .widerDeep, .data], laidTests := true, laidLooks := .later }
def EffectClimbsUptoCardSaid : Prop := Claim7.holds Tryd.pinned (.plain (OpenSpec.upto effectClimbsSpec)) effectClimbsUptoCard
end Rows
end Go.Proofs.YtocgoabplafoeaaDoor
