/-
  DERIVED. GIVEN WITH THE SEED: THE CARDS: each row of YtdneccmpojidmaaDoorRows.lean that lists a variable, with what it lists TIED to the program's text (the seventh form; the later family's looks); each row that meets fmt, with fmt's text TOLD by the authors' own Lean function (tested against real Go, not proved from fmt's source: count such statements apart). THE CARD IS WHAT COUNTS. Prove the row's statement (the work); the ties are given (YtdneccmpojidmaaDoorTie.lean); close each card by the builder's one call (the guide's Derived/Test/ToyasCard.lean, 'card_holds'). Laid BY PROGRAM, IN A SANDBOX (cutbox-door.mjs). By AI agents, Wed Nov 11 2026. No macro, syntax, notation, axiom, sorry.
-/
import Derived.Test.YtdneccmpojidmaaDoorRows
import GoSem.ClaimSeven
namespace Go.Proofs.YtdneccmpojidmaaDoor
namespace Rows

/-- THE TIED CARD OF 'skywaylaw3.ReadbackDiffers'. -/
def readbackDiffersCard : Claim7 := { stood := { row := readbackDiffersRow, standIns := [], harness := (true, "5d023ea8d7535ce26a5b79b03466926b54bf381f77c6c34853f2f940d351d7f3"), looks := false }, kinds := [], alts := [], laidByText := true, laidKinds := [.widerDeep, .data], laidTests := true, laidLooks := .later }
def ReadbackDiffersCardSaid : Prop := Claim7.holds Tryd.pinned (.plain (OpenSpec.ofChange readbackDiffersSpec)) readbackDiffersCard

/-- THE TIED CARD OF 'skywaylaw3.ReadbackSays'. -/
def readbackSaysCard : Claim7 := { stood := { row := readbackSaysRow, standIns := [], harness := (true, "5d023ea8d7535ce26a5b79b03466926b54bf381f77c6c34853f2f940d351d7f3"), looks := false }, kinds := [], alts := [], laidByText := true, laidKinds := [.widerDeep, .data], laidTests := true, laidLooks := .later }
def ReadbackSaysCardSaid : Prop := Claim7.holds Tryd.pinned (.plain (OpenSpec.ofChange readbackSaysSpec)) readbackSaysCard

/-- THE TIED CARD OF 'skywaylaw3.ReadbackHears'. -/
def readbackHearsCard : Claim7 := { stood := { row := readbackHearsRow, standIns := [], harness := (true, "5d023ea8d7535ce26a5b79b03466926b54bf381f77c6c34853f2f940d351d7f3"), looks := false }, kinds := [], alts := [], laidByText := true, laidKinds := [.widerDeep, .data], laidTests := true, laidLooks := .later }
def ReadbackHearsCardSaid : Prop := Claim7.holds Tryd.pinned (.plain (OpenSpec.ofChange readbackHearsSpec)) readbackHearsCard

/-- THE TIED CARD OF 'skywaylaw3.ReadbackLapses'. -/
def readbackLapsesCard : Claim7 := { stood := { row := readbackLapsesRow, standIns := [], harness := (true, "5d023ea8d7535ce26a5b79b03466926b54bf381f77c6c34853f2f940d351d7f3"), looks := false }, kinds := [], alts := [], laidByText := true, laidKinds := [.widerDeep, .data], laidTests := true, laidLooks := .later }
def ReadbackLapsesCardSaid : Prop := Claim7.holds Tryd.pinned (.plain (OpenSpec.ofChange readbackLapsesSpec)) readbackLapsesCard

/-- THE SECOND FORM's CARD OF 'skywaylaw3.ReadbackDiffers'. -/
def readbackDiffersUptoCard : Claim7 := { stood := { row := readbackDiffersUptoRow, standIns := [], harness := (true, "5d023ea8d7535ce26a5b79b03466926b54bf381f77c6c34853f2f940d351d7f3"), looks := false }, kinds := [], alts := [], laidByText := true, laidKinds := [.widerDeep, .data], laidTests := true, laidLooks := .later }
def ReadbackDiffersUptoCardSaid : Prop := Claim7.holds Tryd.pinned (.plain (OpenSpec.upto readbackDiffersSpec)) readbackDiffersUptoCard

/-- THE SECOND FORM's CARD OF 'skywaylaw3.ReadbackSays'. -/
def readbackSaysUptoCard : Claim7 := { stood := { row := readbackSaysUptoRow, standIns := [], harness := (true, "5d023ea8d7535ce26a5b79b03466926b54bf381f77c6c34853f2f940d351d7f3"), looks := false }, kinds := [], alts := [], laidByText := true, laidKinds := [.widerDeep, .data], laidTests := true, laidLooks := .later }
def ReadbackSaysUptoCardSaid : Prop := Claim7.holds Tryd.pinned (.plain (OpenSpec.upto readbackSaysSpec)) readbackSaysUptoCard

/-- THE SECOND FORM's CARD OF 'skywaylaw3.ReadbackHears'. -/
def readbackHearsUptoCard : Claim7 := { stood := { row := readbackHearsUptoRow, standIns := [], harness := (true, "5d023ea8d7535ce26a5b79b03466926b54bf381f77c6c34853f2f940d351d7f3"), looks := false }, kinds := [], alts := [], laidByText := true, laidKinds := [.widerDeep, .data], laidTests := true, laidLooks := .later }
def ReadbackHearsUptoCardSaid : Prop := Claim7.holds Tryd.pinned (.plain (OpenSpec.upto readbackHearsSpec)) readbackHearsUptoCard

/-- THE SECOND FORM's CARD OF 'skywaylaw3.ReadbackLapses'. -/
def readbackLapsesUptoCard : Claim7 := { stood := { row := readbackLapsesUptoRow, standIns := [], harness := (true, "5d023ea8d7535ce26a5b79b03466926b54bf381f77c6c34853f2f940d351d7f3"), looks := false }, kinds := [], alts := [], laidByText := true, laidKinds := [.widerDeep, .data], laidTests := true, laidLooks := .later }
def ReadbackLapsesUptoCardSaid : Prop := Claim7.holds Tryd.pinned (.plain (OpenSpec.upto readbackLapsesSpec)) readbackLapsesUptoCard
end Rows
end Go.Proofs.YtdneccmpojidmaaDoor
