/-
  DERIVED. GIVEN WITH THE SEED: THE CARDS: each row of YtdoilgdknefccaaGreatDoorRows.lean that lists a variable, with what it lists TIED to the program's text (the seventh form; the later family's looks); each row that meets fmt, with fmt's text TOLD by the authors' own Lean function (tested against real Go, not proved from fmt's source: count such statements apart). THE CARD IS WHAT COUNTS. Prove the row's statement (the work); the ties are given (YtdoilgdknefccaaGreatDoorTie.lean); close each card by the builder's one call (the guide's Derived/Test/ToyasCard.lean, 'card_holds'). Laid BY PROGRAM, IN A SANDBOX (cutbox-door.mjs). By AI agents, Wed Nov 11 2026. No macro, syntax, notation, axiom, sorry.
-/
import Derived.Test.YtdoilgdknefccaaGreatDoorRows
import GoSem.ClaimSeven
namespace Go.Proofs.YtdoilgdknefccaaGreatDoor
namespace Rows

/-- THE TIED CARD OF 'bailiwicklaw12.ModelPlaces'. -/
def modelPlacesCard : Claim7 := { stood := { row := modelPlacesRow, standIns := [], harness := (true, "8a11bb9969702b6c1b750b6d9bc63ec1f808ed965730d9fd4eaca4b94f5fb12f"), looks := true }, kinds := [], alts := [], laidByText := true, laidKinds := [.funcs], laidTests := true, laidLooks := .later }
def ModelPlacesCardSaid : Prop := Claim7.holds Tryz.pinned (.plain (OpenSpec.ofChange modelPlacesSpec)) modelPlacesCard

/-- THE SECOND FORM's CARD OF 'bailiwicklaw12.ModelPlaces'. -/
def modelPlacesUptoCard : Claim7 := { stood := { row := modelPlacesUptoRow, standIns := [], harness := (true, "8a11bb9969702b6c1b750b6d9bc63ec1f808ed965730d9fd4eaca4b94f5fb12f"), looks := true }, kinds := [], alts := [], laidByText := true, laidKinds := [.funcs], laidTests := true, laidLooks := .later }
def ModelPlacesUptoCardSaid : Prop := Claim7.holds Tryz.pinned (.plain (OpenSpec.upto modelPlacesSpec)) modelPlacesUptoCard
end Rows
end Go.Proofs.YtdoilgdknefccaaGreatDoor
