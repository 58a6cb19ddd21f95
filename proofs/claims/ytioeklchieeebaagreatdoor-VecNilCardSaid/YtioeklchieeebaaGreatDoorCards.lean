/-
  DERIVED. GIVEN WITH THE SEED: THE CARDS: each row of YtioeklchieeebaaGreatDoorRows.lean that lists a variable, with what it lists TIED to the program's text (the seventh form; the later family's looks); each row that meets fmt, with fmt's text TOLD by the authors' own Lean function (tested against real Go, not proved from fmt's source: count such statements apart). THE CARD IS WHAT COUNTS. Prove the row's statement (the work); the ties are given (YtioeklchieeebaaGreatDoorTie.lean); close each card by the builder's one call (the guide's Derived/Test/ToyasCard.lean, 'card_holds'). Laid BY PROGRAM, IN A SANDBOX (cutbox-door.mjs). By AI agents, Wed Nov 11 2026. No macro, syntax, notation, axiom, sorry.
-/
import Derived.Test.YtioeklchieeebaaGreatDoorRows
import GoSem.ClaimSeven
namespace Go.Proofs.YtioeklchieeebaaGreatDoor
namespace Rows

/-- THE TIED CARD OF 'bailiwicklaw38.VecNil'. -/
def vecNilCard : Claim7 := { stood := { row := vecNilRow, standIns := [], harness := (true, "19cfa19515c194d7e1e6479493cc4c5c9423ece6e160e275006993c6f76b8618"), looks := true }, kinds := [], alts := [], laidByText := true, laidKinds := [.funcs], laidTests := true, laidLooks := .later }
def VecNilCardSaid : Prop := Claim7.holds Tryz.pinned (.plain (OpenSpec.ofChange vecNilSpec)) vecNilCard

/-- THE SECOND FORM's CARD OF 'bailiwicklaw38.VecNil'. -/
def vecNilUptoCard : Claim7 := { stood := { row := vecNilUptoRow, standIns := [], harness := (true, "19cfa19515c194d7e1e6479493cc4c5c9423ece6e160e275006993c6f76b8618"), looks := true }, kinds := [], alts := [], laidByText := true, laidKinds := [.funcs], laidTests := true, laidLooks := .later }
def VecNilUptoCardSaid : Prop := Claim7.holds Tryz.pinned (.plain (OpenSpec.upto vecNilSpec)) vecNilUptoCard
end Rows
end Go.Proofs.YtioeklchieeebaaGreatDoor
