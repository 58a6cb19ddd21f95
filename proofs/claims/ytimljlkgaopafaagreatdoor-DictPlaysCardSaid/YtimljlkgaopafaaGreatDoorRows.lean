/-
  NARROWER THAN 'FOR EVERY INPUT', by the rows' own cells (each row's printed sentence says how): DictPlays: laid · DictNil: laid · DictEnds: laid · DictRoom: laid.
  DERIVED. THE GIVEN ROWS OF THIS SEAT. 4 by the template 'for every input the law returns true; each argument reads behind the call as it read before'; 0 by the template 'total and deterministic' (their statements: YtimljlkgaopafaaGreatDoorTotals.lean).
  GIVEN WITH THE SEED: the statements are not yours to turn. If you find one false, say at which input.
  Laid BY PROGRAM, IN A SANDBOX (cutbox-rows.mjs): the forced cells as the released guide's own fill.sh prints them over the translation 4e55b9b438bc4746… (all of the seat's roots in one cut). By AI agents, Wed Nov 11 2026. No macro, syntax, notation, axiom, sorry.
-/
import Derived.Test.YtimljlkgaopafaaGreatDoorChecked
import GoSem.Claim
import GoSem.ClaimJoined
import GoSem.ClaimMapViews
import Derived.JoinedTies
import Derived.KernelRfl
namespace Go.Proofs.YtimljlkgaopafaaGreatDoor
/- THE CELL 'sum', in the pinned program and in every row, IS THE sha256 OF THE DUMP (.gsa) THAT YtimljlkgaopafaaGreatDoorProg.lean LOADS. Nothing in Lean hashes anything: it is a label: what it is worth is what the hold of that sum in a sandbox is worth. -/
noncomputable def Tryz.pinned : Pinned := { name := "ytimljlkgaopafaagreatdoor", sum := "4e55b9b438bc4746f7d887b9e6d436d71471dbf2bb28e1ae3720faa923661f29", checked := Tryz.checked }
namespace Rows
def none {H : Type} : Left H := { results := [], args := [] }

/- WHAT THE LISTED PACKAGE-LEVEL VARIABLES READ AS WHEN THE CALL BEGINS. Each datum BY PROGRAM (the guide's laid-datum.mjs) off the statement by which the dump's own 'gosem.cut.vars' lays the variable. In a bare row this is a premise. The card (YtimljlkgaopafaaGreatDoorCards.lean) ties it to the program's text. -/
def laid_bailiwick_model_does {H : Type} : DataW H := .iface "func table" (.map [(.int .u8 1, .iface "func" (.lit (.string [40, 42, 98, 97, 105, 108, 105, 119, 105, 99, 107, 47, 109, 111, 100, 101, 108, 46, 99, 97, 108, 108, 101, 114, 41, 46, 110, 101, 119]))), (.int .u8 2, .iface "func" (.lit (.string [40, 42, 98, 97, 105, 108, 105, 119, 105, 99, 107, 47, 109, 111, 100, 101, 108, 46, 99, 97, 108, 108, 101, 114, 41, 46, 97, 108, 108, 111, 99]))), (.int .u8 3, .iface "func" (.lit (.string [40, 42, 98, 97, 105, 108, 105, 119, 105, 99, 107, 47, 109, 111, 100, 101, 108, 46, 99, 97, 108, 108, 101, 114, 41, 46, 108, 111, 97, 100]))), (.int .u8 4, .iface "func" (.lit (.string [40, 42, 98, 97, 105, 108, 105, 119, 105, 99, 107, 47, 109, 111, 100, 101, 108, 46, 99, 97, 108, 108, 101, 114, 41, 46, 115, 116, 111, 114, 101]))), (.int .u8 5, .iface "func" (.lit (.string [40, 42, 98, 97, 105, 108, 105, 119, 105, 99, 107, 47, 109, 111, 100, 101, 108, 46, 99, 97, 108, 108, 101, 114, 41, 46, 114, 101, 115, 101, 116]))), (.int .u8 6, .iface "func" (.lit (.string [40, 42, 98, 97, 105, 108, 105, 119, 105, 99, 107, 47, 109, 111, 100, 101, 108, 46, 99, 97, 108, 108, 101, 114, 41, 46, 100, 101, 108, 101, 116, 101]))), (.int .u8 7, .iface "func" (.lit (.string [40, 42, 98, 97, 105, 108, 105, 119, 105, 99, 107, 47, 109, 111, 100, 101, 108, 46, 99, 97, 108, 108, 101, 114, 41, 46, 99, 117, 116]))), (.int .u8 8, .iface "func" (.lit (.string [40, 42, 98, 97, 105, 108, 105, 119, 105, 99, 107, 47, 109, 111, 100, 101, 108, 46, 99, 97, 108, 108, 101, 114, 41, 46, 103, 114, 97, 102, 116]))), (.int .u8 9, .iface "func" (.lit (.string [40, 42, 98, 97, 105, 108, 105, 119, 105, 99, 107, 47, 109, 111, 100, 101, 108, 46, 99, 97, 108, 108, 101, 114, 41, 46, 102, 114, 101, 101, 122, 101]))), (.int .u8 10, .iface "func" (.lit (.string [40, 42, 98, 97, 105, 108, 105, 119, 105, 99, 107, 47, 109, 111, 100, 101, 108, 46, 99, 97, 108, 108, 101, 114, 41, 46, 115, 104, 97, 114, 101]))), (.int .u8 11, .iface "func" (.lit (.string [40, 42, 98, 97, 105, 108, 105, 119, 105, 99, 107, 47, 109, 111, 100, 101, 108, 46, 99, 97, 108, 108, 101, 114, 41, 46, 100, 114, 111, 112]))), (.int .u8 12, .iface "func" (.lit (.string [40, 42, 98, 97, 105, 108, 105, 119, 105, 99, 107, 47, 109, 111, 100, 101, 108, 46, 99, 97, 108, 108, 101, 114, 41, 46, 108, 101, 110, 100]))), (.int .u8 13, .iface "func" (.lit (.string [40, 42, 98, 97, 105, 108, 105, 119, 105, 99, 107, 47, 109, 111, 100, 101, 108, 46, 99, 97, 108, 108, 101, 114, 41, 46, 103, 105, 118, 101, 66, 97, 99, 107]))), (.int .u8 14, .iface "func" (.lit (.string [40, 42, 98, 97, 105, 108, 105, 119, 105, 99, 107, 47, 109, 111, 100, 101, 108, 46, 99, 97, 108, 108, 101, 114, 41, 46, 115, 101, 110, 100]))), (.int .u8 15, .iface "func" (.lit (.string [40, 42, 98, 97, 105, 108, 105, 119, 105, 99, 107, 47, 109, 111, 100, 101, 108, 46, 99, 97, 108, 108, 101, 114, 41, 46, 114, 101, 99, 118]))), (.int .u8 16, .iface "func" (.lit (.string [40, 42, 98, 97, 105, 108, 105, 119, 105, 99, 107, 47, 109, 111, 100, 101, 108, 46, 99, 97, 108, 108, 101, 114, 41, 46, 114, 101, 99, 118]))), (.int .u8 17, .iface "func" (.lit (.string [40, 42, 98, 97, 105, 108, 105, 119, 105, 99, 107, 47, 109, 111, 100, 101, 108, 46, 99, 97, 108, 108, 101, 114, 41, 46, 99, 108, 111, 115, 101]))), (.int .u8 18, .iface "func" (.lit (.string [40, 42, 98, 97, 105, 108, 105, 119, 105, 99, 107, 47, 109, 111, 100, 101, 108, 46, 99, 97, 108, 108, 101, 114, 41, 46, 114, 101, 102]))), (.int .u8 19, .iface "func" (.lit (.string [40, 42, 98, 97, 105, 108, 105, 119, 105, 99, 107, 47, 109, 111, 100, 101, 108, 46, 99, 97, 108, 108, 101, 114, 41, 46, 100, 101, 114, 101, 102]))), (.int .u8 20, .iface "func" (.lit (.string [40, 42, 98, 97, 105, 108, 105, 119, 105, 99, 107, 47, 109, 111, 100, 101, 108, 46, 99, 97, 108, 108, 101, 114, 41, 46, 101, 120, 105, 116]))), (.int .u8 21, .iface "func" (.lit (.string [40, 42, 98, 97, 105, 108, 105, 119, 105, 99, 107, 47, 109, 111, 100, 101, 108, 46, 99, 97, 108, 108, 101, 114, 41, 46, 107, 105, 108, 108]))), (.int .u8 22, .iface "func" (.lit (.string [40, 42, 98, 97, 105, 108, 105, 119, 105, 99, 107, 47, 109, 111, 100, 101, 108, 46, 99, 97, 108, 108, 101, 114, 41, 46, 115, 112, 97, 119, 110])))])

/-- 'bailiwicklaw37.DictPlays': WHATEVER THE INPUT: true; the input reads as it did. -/
def dictPlaysSpec : ChangeSpec := { name := "dictPlays", fn := fun _ => fun
  | [d1, d2, d3] => { results := [.lit (.bool true)], args := [d1, d2, d3] }
  | _ => none }
def dictPlaysRow : OpenClaim := { program := "ytimljlkgaopafaagreatdoor", sum := "4e55b9b438bc4746f7d887b9e6d436d71471dbf2bb28e1ae3720faa923661f29", func := "bailiwick/bailiwicklaw37.DictPlays", spec := "dictPlays", unfollowed := true, recurses := true, named := ["bailiwick/model.does"], apart := false, laid := [("bailiwick/model.does", laid_bailiwick_model_does)] }
def DictPlaysSaid : Prop := dictPlaysRow.holds Tryz.pinned (OpenSpec.ofChange dictPlaysSpec)

/-- ITS FALSE NEIGHBOUR: 'it returns false'. Refute it at one input. -/
def dictPlaysWrong : ChangeSpec := { name := "dictPlays", fn := fun _ => fun
  | [d1, d2, d3] => { results := [.lit (.bool false)], args := [d1, d2, d3] }
  | _ => none }
def DictPlaysWrongFalsely : Prop := dictPlaysRow.holds Tryz.pinned (OpenSpec.ofChange dictPlaysWrong)

/-- 'bailiwicklaw37.DictNil': WHATEVER THE INPUT: true; the input reads as it did. -/
def dictNilSpec : ChangeSpec := { name := "dictNil", fn := fun _ => fun
  | [d1, d2] => { results := [.lit (.bool true)], args := [d1, d2] }
  | _ => none }
def dictNilRow : OpenClaim := { program := "ytimljlkgaopafaagreatdoor", sum := "4e55b9b438bc4746f7d887b9e6d436d71471dbf2bb28e1ae3720faa923661f29", func := "bailiwick/bailiwicklaw37.DictNil", spec := "dictNil", unfollowed := true, recurses := true, named := ["bailiwick/model.does"], apart := false, laid := [("bailiwick/model.does", laid_bailiwick_model_does)] }
def DictNilSaid : Prop := dictNilRow.holds Tryz.pinned (OpenSpec.ofChange dictNilSpec)

/-- ITS FALSE NEIGHBOUR: 'it returns false'. Refute it at one input. -/
def dictNilWrong : ChangeSpec := { name := "dictNil", fn := fun _ => fun
  | [d1, d2] => { results := [.lit (.bool false)], args := [d1, d2] }
  | _ => none }
def DictNilWrongFalsely : Prop := dictNilRow.holds Tryz.pinned (OpenSpec.ofChange dictNilWrong)

/-- 'bailiwicklaw37.DictEnds': WHATEVER THE INPUT: true; the input reads as it did. -/
def dictEndsSpec : ChangeSpec := { name := "dictEnds", fn := fun _ => fun
  | [d1, d2, d3] => { results := [.lit (.bool true)], args := [d1, d2, d3] }
  | _ => none }
def dictEndsRow : OpenClaim := { program := "ytimljlkgaopafaagreatdoor", sum := "4e55b9b438bc4746f7d887b9e6d436d71471dbf2bb28e1ae3720faa923661f29", func := "bailiwick/bailiwicklaw37.DictEnds", spec := "dictEnds", unfollowed := true, recurses := true, named := ["bailiwick/model.does"], apart := false, laid := [("bailiwick/model.does", laid_bailiwick_model_does)] }
def DictEndsSaid : Prop := dictEndsRow.holds Tryz.pinned (OpenSpec.ofChange dictEndsSpec)

/-- ITS FALSE NEIGHBOUR: 'it returns false'. Refute it at one input. -/
def dictEndsWrong : ChangeSpec := { name := "dictEnds", fn := fun _ => fun
  | [d1, d2, d3] => { results := [.lit (.bool false)], args := [d1, d2, d3] }
  | _ => none }
def DictEndsWrongFalsely : Prop := dictEndsRow.holds Tryz.pinned (OpenSpec.ofChange dictEndsWrong)

/-- 'bailiwicklaw37.DictRoom': WHATEVER THE INPUT: true; the input reads as it did. -/
def dictRoomSpec : ChangeSpec := { name := "dictRoom", fn := fun _ => fun
  | [d] => { results := [.lit (.bool true)], args := [d] }
  | _ => none }
def dictRoomRow : OpenClaim := { program := "ytimljlkgaopafaagreatdoor", sum := "4e55b9b438bc4746f7d887b9e6d436d71471dbf2bb28e1ae3720faa923661f29", func := "bailiwick/bailiwicklaw37.DictRoom", spec := "dictRoom", unfollowed := true, recurses := true, named := ["bailiwick/model.does"], apart := false, laid := [("bailiwick/model.does", laid_bailiwick_model_does)] }
def DictRoomSaid : Prop := dictRoomRow.holds Tryz.pinned (OpenSpec.ofChange dictRoomSpec)

/-- ITS FALSE NEIGHBOUR: 'it returns false'. Refute it at one input. -/
def dictRoomWrong : ChangeSpec := { name := "dictRoom", fn := fun _ => fun
  | [d] => { results := [.lit (.bool false)], args := [d] }
  | _ => none }
def DictRoomWrongFalsely : Prop := dictRoomRow.holds Tryz.pinned (OpenSpec.ofChange dictRoomWrong)

/- THE SECOND FORM. 'bulk': how many values and letters a reading holds, each counted each time it is reached (what is shared counts as often as it is met; a slice's spare places count too). A statement '..UptoSaid' is the law's where the arguments, and the package variables that the reading takes, are together of bulk at most 1048576: NARROWER than '..Said'. Prove '..Said' where nothing that the law and all that it calls make is longer than what came in: it says more and counts as full. Else prove '..UptoSaid'. A law counts once. -/
mutual
def uptoBulk {H : Type} : DataW H → Nat
  | .lit (.string bytes) => bytes.length + 1
  | .lit _ => 1
  | .nil => 1
  | .ptr d => uptoBulk d + 1
  | .slice elems spare => uptoBulkAll elems + uptoBulkAll spare + 1
  | .agg parts => uptoBulkAll parts + 1
  | .iface _ d => uptoBulk d + 1
  | .map entries => uptoBulkEntries entries + 1
  | .held _ => 1
def uptoBulkAll {H : Type} : List (DataW H) → Nat
  | [] => 0
  | d :: r => uptoBulk d + uptoBulkAll r
def uptoBulkEntries {H : Type} : List (Lit × DataW H) → Nat
  | [] => 0
  | x :: r => uptoBulkEntry x + uptoBulkEntries r
def uptoBulkEntry {H : Type} : Lit × DataW H → Nat
  | (.string bytes, d) => bytes.length + uptoBulk d + 1
  | (_, d) => uptoBulk d + 1
 end
def uptoSmall : (H : Type) → List (DataW H) → Bool := fun _ ds => decide (uptoBulkAll ds ≤ 1048576)
def OpenSpec.upto (s : _root_.Go.ChangeSpec) : _root_.Go.OpenSpec := { _root_.Go.OpenSpec.ofChange s with cond := some uptoSmall }

/-- 'bailiwicklaw37.DictPlays', WHERE WHAT IT READS IS OF BULK AT MOST 1048576: true; the input reads as it did. -/
def dictPlaysUptoRow : OpenClaim := { program := "ytimljlkgaopafaagreatdoor", sum := "4e55b9b438bc4746f7d887b9e6d436d71471dbf2bb28e1ae3720faa923661f29", func := "bailiwick/bailiwicklaw37.DictPlays", spec := "dictPlays", unfollowed := true, recurses := true, named := ["bailiwick/model.does"], apart := false, laid := [("bailiwick/model.does", laid_bailiwick_model_does)], narrowed := true }
def DictPlaysUptoSaid : Prop := dictPlaysUptoRow.holds Tryz.pinned (OpenSpec.upto dictPlaysSpec)

/-- 'bailiwicklaw37.DictNil', WHERE WHAT IT READS IS OF BULK AT MOST 1048576: true; the input reads as it did. -/
def dictNilUptoRow : OpenClaim := { program := "ytimljlkgaopafaagreatdoor", sum := "4e55b9b438bc4746f7d887b9e6d436d71471dbf2bb28e1ae3720faa923661f29", func := "bailiwick/bailiwicklaw37.DictNil", spec := "dictNil", unfollowed := true, recurses := true, named := ["bailiwick/model.does"], apart := false, laid := [("bailiwick/model.does", laid_bailiwick_model_does)], narrowed := true }
def DictNilUptoSaid : Prop := dictNilUptoRow.holds Tryz.pinned (OpenSpec.upto dictNilSpec)

/-- 'bailiwicklaw37.DictEnds', WHERE WHAT IT READS IS OF BULK AT MOST 1048576: true; the input reads as it did. -/
def dictEndsUptoRow : OpenClaim := { program := "ytimljlkgaopafaagreatdoor", sum := "4e55b9b438bc4746f7d887b9e6d436d71471dbf2bb28e1ae3720faa923661f29", func := "bailiwick/bailiwicklaw37.DictEnds", spec := "dictEnds", unfollowed := true, recurses := true, named := ["bailiwick/model.does"], apart := false, laid := [("bailiwick/model.does", laid_bailiwick_model_does)], narrowed := true }
def DictEndsUptoSaid : Prop := dictEndsUptoRow.holds Tryz.pinned (OpenSpec.upto dictEndsSpec)

/-- 'bailiwicklaw37.DictRoom', WHERE WHAT IT READS IS OF BULK AT MOST 1048576: true; the input reads as it did. -/
def dictRoomUptoRow : OpenClaim := { program := "ytimljlkgaopafaagreatdoor", sum := "4e55b9b438bc4746f7d887b9e6d436d71471dbf2bb28e1ae3720faa923661f29", func := "bailiwick/bailiwicklaw37.DictRoom", spec := "dictRoom", unfollowed := true, recurses := true, named := ["bailiwick/model.does"], apart := false, laid := [("bailiwick/model.does", laid_bailiwick_model_does)], narrowed := true }
def DictRoomUptoSaid : Prop := dictRoomUptoRow.holds Tryz.pinned (OpenSpec.upto dictRoomSpec)

end Rows
end Go.Proofs.YtimljlkgaopafaaGreatDoor
