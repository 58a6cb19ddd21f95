/-
  DERIVED. GIVEN WITH THE SEED: THE CARDS: each row of YtjabpidfkmhbbaaGreatDoorRows.lean that lists a variable, with what it lists TIED to the program's text (the seventh form; the later family's looks); each row that meets fmt, with fmt's text TOLD by the authors' own Lean function (tested against real Go, not proved from fmt's source: count such statements apart). THE CARD IS WHAT COUNTS. Prove the row's statement (the work); the ties are given (YtjabpidfkmhbbaaGreatDoorTie.lean); close each card by the builder's one call (the guide's Derived/Test/ToyasCard.lean, 'card_holds'). Laid BY PROGRAM, IN A SANDBOX (cutbox-door.mjs). By AI agents, Wed Nov 11 2026. No macro, syntax, notation, axiom, sorry.
-/
import Derived.Test.YtjabpidfkmhbbaaGreatDoorRows
import GoSem.ClaimSeven
namespace Go.Proofs.YtjabpidfkmhbbaaGreatDoor
namespace Rows

/-- THE TIED CARD OF 'bailiwicklaw17.CallNew'. -/
def callNewCard : Claim7 := { stood := { row := callNewRow, standIns := [], harness := (true, "9195d8c15eae14c685408b436f82671fe5e50b23562a706f97703d9bf92de6f5"), looks := true }, kinds := [], alts := [], laidByText := true, laidKinds := [.funcs], laidTests := true, laidLooks := .later }
def CallNewCardSaid : Prop := Claim7.holds Tryz.pinned (.plain (OpenSpec.ofChange callNewSpec)) callNewCard

/-- THE SECOND FORM's CARD OF 'bailiwicklaw17.CallNew'. -/
def callNewUptoCard : Claim7 := { stood := { row := callNewUptoRow, standIns := [], harness := (true, "9195d8c15eae14c685408b436f82671fe5e50b23562a706f97703d9bf92de6f5"), looks := true }, kinds := [], alts := [], laidByText := true, laidKinds := [.funcs], laidTests := true, laidLooks := .later }
def CallNewUptoCardSaid : Prop := Claim7.holds Tryz.pinned (.plain (OpenSpec.upto callNewSpec)) callNewUptoCard
end Rows
end Go.Proofs.YtjabpidfkmhbbaaGreatDoor
