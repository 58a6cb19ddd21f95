/-
  DERIVED. GIVEN WITH THE SEED: THE CARDS: each row of YtimljlkgaopafaaGreatDoorRows.lean that lists a variable, with what it lists TIED to the program's text (the seventh form; the later family's looks); each row that meets fmt, with fmt's text TOLD by the authors' own Lean function (tested against real Go, not proved from fmt's source: count such statements apart). THE CARD IS WHAT COUNTS. Prove the row's statement (the work); the ties are given (YtimljlkgaopafaaGreatDoorTie.lean); close each card by the builder's one call (the guide's Derived/Test/ToyasCard.lean, 'card_holds'). Laid BY PROGRAM, IN A SANDBOX (cutbox-door.mjs). By AI agents, Wed Nov 11 2026. No macro, syntax, notation, axiom, sorry.
-/
import Derived.Test.YtimljlkgaopafaaGreatDoorRows
import GoSem.ClaimSeven
namespace Go.Proofs.YtimljlkgaopafaaGreatDoor
namespace Rows

/-- THE TIED CARD OF 'bailiwicklaw37.DictPlays'. -/
def dictPlaysCard : Claim7 := { stood := { row := dictPlaysRow, standIns := [], harness := (true, "60458f8b1934c389eeb574a42531eba7579cc5a2409f3716d50af7266210e05d"), looks := true }, kinds := [], alts := [], laidByText := true, laidKinds := [.funcs], laidTests := true, laidLooks := .later }
def DictPlaysCardSaid : Prop := Claim7.holds Tryz.pinned (.plain (OpenSpec.ofChange dictPlaysSpec)) dictPlaysCard

/-- THE TIED CARD OF 'bailiwicklaw37.DictNil'. -/
def dictNilCard : Claim7 := { stood := { row := dictNilRow, standIns := [], harness := (true, "60458f8b1934c389eeb574a42531eba7579cc5a2409f3716d50af7266210e05d"), looks := true }, kinds := [], alts := [], laidByText := true, laidKinds := [.funcs], laidTests := true, laidLooks := .later }
def DictNilCardSaid : Prop := Claim7.holds Tryz.pinned (.plain (OpenSpec.ofChange dictNilSpec)) dictNilCard

/-- THE TIED CARD OF 'bailiwicklaw37.DictEnds'. -/
def dictEndsCard : Claim7 := { stood := { row := dictEndsRow, standIns := [], harness := (true, "60458f8b1934c389eeb574a42531eba7579cc5a2409f3716d50af7266210e05d"), looks := true }, kinds := [], alts := [], laidByText := true, laidKinds := [.funcs], laidTests := true, laidLooks := .later }
def DictEndsCardSaid : Prop := Claim7.holds Tryz.pinned (.plain (OpenSpec.ofChange dictEndsSpec)) dictEndsCard

/-- THE TIED CARD OF 'bailiwicklaw37.DictRoom'. -/
def dictRoomCard : Claim7 := { stood := { row := dictRoomRow, standIns := [], harness := (true, "60458f8b1934c389eeb574a42531eba7579cc5a2409f3716d50af7266210e05d"), looks := true }, kinds := [], alts := [], laidByText := true, laidKinds := [.funcs], laidTests := true, laidLooks := .later }
def DictRoomCardSaid : Prop := Claim7.holds Tryz.pinned (.plain (OpenSpec.ofChange dictRoomSpec)) dictRoomCard

/-- THE SECOND FORM's CARD OF 'bailiwicklaw37.DictPlays'. -/
def dictPlaysUptoCard : Claim7 := { stood := { row := dictPlaysUptoRow, standIns := [], harness := (true, "60458f8b1934c389eeb574a42531eba7579cc5a2409f3716d50af7266210e05d"), looks := true }, kinds := [], alts := [], laidByText := true, laidKinds := [.funcs], laidTests := true, laidLooks := .later }
def DictPlaysUptoCardSaid : Prop := Claim7.holds Tryz.pinned (.plain (OpenSpec.upto dictPlaysSpec)) dictPlaysUptoCard

/-- THE SECOND FORM's CARD OF 'bailiwicklaw37.DictNil'. -/
def dictNilUptoCard : Claim7 := { stood := { row := dictNilUptoRow, standIns := [], harness := (true, "60458f8b1934c389eeb574a42531eba7579cc5a2409f3716d50af7266210e05d"), looks := true }, kinds := [], alts := [], laidByText := true, laidKinds := [.funcs], laidTests := true, laidLooks := .later }
def DictNilUptoCardSaid : Prop := Claim7.holds Tryz.pinned (.plain (OpenSpec.upto dictNilSpec)) dictNilUptoCard

/-- THE SECOND FORM's CARD OF 'bailiwicklaw37.DictEnds'. -/
def dictEndsUptoCard : Claim7 := { stood := { row := dictEndsUptoRow, standIns := [], harness := (true, "60458f8b1934c389eeb574a42531eba7579cc5a2409f3716d50af7266210e05d"), looks := true }, kinds := [], alts := [], laidByText := true, laidKinds := [.funcs], laidTests := true, laidLooks := .later }
def DictEndsUptoCardSaid : Prop := Claim7.holds Tryz.pinned (.plain (OpenSpec.upto dictEndsSpec)) dictEndsUptoCard

/-- THE SECOND FORM's CARD OF 'bailiwicklaw37.DictRoom'. -/
def dictRoomUptoCard : Claim7 := { stood := { row := dictRoomUptoRow, standIns := [], harness := (true, "60458f8b1934c389eeb574a42531eba7579cc5a2409f3716d50af7266210e05d"), looks := true }, kinds := [], alts := [], laidByText := true, laidKinds := [.funcs], laidTests := true, laidLooks := .later }
def DictRoomUptoCardSaid : Prop := Claim7.holds Tryz.pinned (.plain (OpenSpec.upto dictRoomSpec)) dictRoomUptoCard
end Rows
end Go.Proofs.YtimljlkgaopafaaGreatDoor
