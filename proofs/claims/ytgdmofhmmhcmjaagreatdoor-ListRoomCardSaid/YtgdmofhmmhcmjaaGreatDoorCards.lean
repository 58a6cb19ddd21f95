/-
  DERIVED. GIVEN WITH THE SEED: THE CARDS: each row of YtgdmofhmmhcmjaaGreatDoorRows.lean that lists a variable, with what it lists TIED to the program's text (the seventh form; the later family's looks); each row that meets fmt, with fmt's text TOLD by the authors' own Lean function (tested against real Go, not proved from fmt's source: count such statements apart). THE CARD IS WHAT COUNTS. Prove the row's statement (the work); the ties are given (YtgdmofhmmhcmjaaGreatDoorTie.lean); close each card by the builder's one call (the guide's Derived/Test/ToyasCard.lean, 'card_holds'). Laid BY PROGRAM, IN A SANDBOX (cutbox-door.mjs). By AI agents, Wed Nov 11 2026. No macro, syntax, notation, axiom, sorry.
-/
import Derived.Test.YtgdmofhmmhcmjaaGreatDoorRows
import GoSem.ClaimSeven
namespace Go.Proofs.YtgdmofhmmhcmjaaGreatDoor
namespace Rows

/-- THE TIED CARD OF 'bailiwicklaw36.ListEnds'. -/
def listEndsCard : Claim7 := { stood := { row := listEndsRow, standIns := [], harness := (true, "f80c013579b5f711682f2b8555b608a78ea226a2f684fb1d926419877bd05ef4"), looks := true }, kinds := [], alts := [], laidByText := true, laidKinds := [.funcs], laidTests := true, laidLooks := .later }
def ListEndsCardSaid : Prop := Claim7.holds Tryz.pinned (.plain (OpenSpec.ofChange listEndsSpec)) listEndsCard

/-- THE TIED CARD OF 'bailiwicklaw36.ListPlays'. -/
def listPlaysCard : Claim7 := { stood := { row := listPlaysRow, standIns := [], harness := (true, "f80c013579b5f711682f2b8555b608a78ea226a2f684fb1d926419877bd05ef4"), looks := true }, kinds := [], alts := [], laidByText := true, laidKinds := [.funcs], laidTests := true, laidLooks := .later }
def ListPlaysCardSaid : Prop := Claim7.holds Tryz.pinned (.plain (OpenSpec.ofChange listPlaysSpec)) listPlaysCard

/-- THE TIED CARD OF 'bailiwicklaw36.ListApart'. -/
def listApartCard : Claim7 := { stood := { row := listApartRow, standIns := [], harness := (true, "f80c013579b5f711682f2b8555b608a78ea226a2f684fb1d926419877bd05ef4"), looks := true }, kinds := [], alts := [], laidByText := true, laidKinds := [.funcs], laidTests := true, laidLooks := .later }
def ListApartCardSaid : Prop := Claim7.holds Tryz.pinned (.plain (OpenSpec.ofChange listApartSpec)) listApartCard

/-- THE TIED CARD OF 'bailiwicklaw36.ListRoom'. -/
def listRoomCard : Claim7 := { stood := { row := listRoomRow, standIns := [], harness := (true, "f80c013579b5f711682f2b8555b608a78ea226a2f684fb1d926419877bd05ef4"), looks := true }, kinds := [], alts := [], laidByText := true, laidKinds := [.funcs], laidTests := true, laidLooks := .later }
def ListRoomCardSaid : Prop := Claim7.holds Tryz.pinned (.plain (OpenSpec.ofChange listRoomSpec)) listRoomCard

/-- THE SECOND FORM's CARD OF 'bailiwicklaw36.ListEnds'. -/
def listEndsUptoCard : Claim7 := { stood := { row := listEndsUptoRow, standIns := [], harness := (true, "f80c013579b5f711682f2b8555b608a78ea226a2f684fb1d926419877bd05ef4"), looks := true }, kinds := [], alts := [], laidByText := true, laidKinds := [.funcs], laidTests := true, laidLooks := .later }
def ListEndsUptoCardSaid : Prop := Claim7.holds Tryz.pinned (.plain (OpenSpec.upto listEndsSpec)) listEndsUptoCard

/-- THE SECOND FORM's CARD OF 'bailiwicklaw36.ListPlays'. -/
def listPlaysUptoCard : Claim7 := { stood := { row := listPlaysUptoRow, standIns := [], harness := (true, "f80c013579b5f711682f2b8555b608a78ea226a2f684fb1d926419877bd05ef4"), looks := true }, kinds := [], alts := [], laidByText := true, laidKinds := [.funcs], laidTests := true, laidLooks := .later }
def ListPlaysUptoCardSaid : Prop := Claim7.holds Tryz.pinned (.plain (OpenSpec.upto listPlaysSpec)) listPlaysUptoCard

/-- THE SECOND FORM's CARD OF 'bailiwicklaw36.ListApart'. -/
def listApartUptoCard : Claim7 := { stood := { row := listApartUptoRow, standIns := [], harness := (true, "f80c013579b5f711682f2b8555b608a78ea226a2f684fb1d926419877bd05ef4"), looks := true }, kinds := [], alts := [], laidByText := true, laidKinds := [.funcs], laidTests := true, laidLooks := .later }
def ListApartUptoCardSaid : Prop := Claim7.holds Tryz.pinned (.plain (OpenSpec.upto listApartSpec)) listApartUptoCard

/-- THE SECOND FORM's CARD OF 'bailiwicklaw36.ListRoom'. -/
def listRoomUptoCard : Claim7 := { stood := { row := listRoomUptoRow, standIns := [], harness := (true, "f80c013579b5f711682f2b8555b608a78ea226a2f684fb1d926419877bd05ef4"), looks := true }, kinds := [], alts := [], laidByText := true, laidKinds := [.funcs], laidTests := true, laidLooks := .later }
def ListRoomUptoCardSaid : Prop := Claim7.holds Tryz.pinned (.plain (OpenSpec.upto listRoomSpec)) listRoomUptoCard
end Rows
end Go.Proofs.YtgdmofhmmhcmjaaGreatDoor
