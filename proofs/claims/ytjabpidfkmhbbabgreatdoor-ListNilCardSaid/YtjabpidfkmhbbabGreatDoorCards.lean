/-
  DERIVED. GIVEN WITH THE SEED: THE CARDS: each row of YtjabpidfkmhbbabGreatDoorRows.lean that lists a variable, with what it lists TIED to the program's text (the seventh form; the later family's looks); each row that meets fmt, with fmt's text TOLD by the authors' own Lean function (tested against real Go, not proved from fmt's source: count such statements apart). THE CARD IS WHAT COUNTS. Prove the row's statement (the work); the ties are given (YtjabpidfkmhbbabGreatDoorTie.lean); close each card by the builder's one call (the guide's Derived/Test/ToyasCard.lean, 'card_holds'). Laid BY PROGRAM, IN A SANDBOX (cutbox-door.mjs). By AI agents, Wed Nov 11 2026. No macro, syntax, notation, axiom, sorry.
-/
import Derived.Test.YtjabpidfkmhbbabGreatDoorRows
import GoSem.ClaimSeven
namespace Go.Proofs.YtjabpidfkmhbbabGreatDoor
namespace Rows

/-- THE TIED CARD OF 'bailiwicklaw36.ListNil'. -/
def listNilCard : Claim7 := { stood := { row := listNilRow, standIns := [], harness := (true, "92031fdd633f3de8a8bed07e69076cc6c98195c33c60d4acbfb11952e0ac4614"), looks := true }, kinds := [], alts := [], laidByText := true, laidKinds := [.funcs], laidTests := true, laidLooks := .later }
def ListNilCardSaid : Prop := Claim7.holds Tryz.pinned (.plain (OpenSpec.ofChange listNilSpec)) listNilCard

/-- THE SECOND FORM's CARD OF 'bailiwicklaw36.ListNil'. -/
def listNilUptoCard : Claim7 := { stood := { row := listNilUptoRow, standIns := [], harness := (true, "92031fdd633f3de8a8bed07e69076cc6c98195c33c60d4acbfb11952e0ac4614"), looks := true }, kinds := [], alts := [], laidByText := true, laidKinds := [.funcs], laidTests := true, laidLooks := .later }
def ListNilUptoCardSaid : Prop := Claim7.holds Tryz.pinned (.plain (OpenSpec.upto listNilSpec)) listNilUptoCard
end Rows
end Go.Proofs.YtjabpidfkmhbbabGreatDoor
