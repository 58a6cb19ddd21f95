/-
  No cell of these rows narrows 'for every input' (looked for: loops, veiled, ifaces, maps, wideKeys, modest, calm, conditions, laid).
  DERIVED. THE GIVEN ROWS OF THIS SEAT. 10 by the template 'for every input the law returns true; each argument reads behind the call as it read before'; 0 by the template 'total and deterministic' (their statements: YtmdpbdhkmfjlhaaTotals.lean).
  GIVEN WITH THE SEED: the statements are not yours to turn. If you find one false, say at which input.
  Laid BY PROGRAM, IN A SANDBOX (cutbox-rows.mjs): the forced cells as the released guide's own fill.sh prints them over the translation e282209ec434402c… (all of the seat's roots in one cut). By AI agents, Wed Nov 11 2026. No macro, syntax, notation, axiom, sorry.
-/
import Derived.Test.YtmdpbdhkmfjlhaaChecked
import GoSem.Claim
import GoSem.ClaimJoined
import GoSem.ClaimMapViews
import Derived.JoinedTies
import Derived.KernelRfl
namespace Go.Proofs.Ytmdpbdhkmfjlhaa
/- THE CELL 'sum', in the pinned program and in every row, IS THE sha256 OF THE DUMP (.gsa) THAT YtmdpbdhkmfjlhaaProg.lean LOADS. Nothing in Lean hashes anything: it is a label: what it is worth is what the hold of that sum in a sandbox is worth. -/
noncomputable def Try.pinned : Pinned := { name := "ytmdpbdhkmfjlhaa", sum := "e282209ec434402c1503e1a9edd1183088b5093387b8f7d82ac95cc3c1b31b23", checked := Try.checked }
namespace Rows
def none {H : Type} : Left H := { results := [], args := [] }

/-- 'bailiwicklaw02.PoolPlays': WHATEVER THE INPUT: true; the input reads as it did. -/
def poolPlaysSpec : ChangeSpec := { name := "poolPlays", fn := fun _ => fun
  | [d1, d2] => { results := [.lit (.bool true)], args := [d1, d2] }
  | _ => none }
def poolPlaysRow : OpenClaim := { program := "ytmdpbdhkmfjlhaa", sum := "e282209ec434402c1503e1a9edd1183088b5093387b8f7d82ac95cc3c1b31b23", func := "bailiwick/bailiwicklaw02.PoolPlays", spec := "poolPlays", unfollowed := true, recurses := true, apart := false }
def PoolPlaysSaid : Prop := poolPlaysRow.holds Try.pinned (OpenSpec.ofChange poolPlaysSpec)

/-- ITS FALSE NEIGHBOUR: 'it returns false'. Refute it at one input. -/
def poolPlaysWrong : ChangeSpec := { name := "poolPlays", fn := fun _ => fun
  | [d1, d2] => { results := [.lit (.bool false)], args := [d1, d2] }
  | _ => none }
def PoolPlaysWrongFalsely : Prop := poolPlaysRow.holds Try.pinned (OpenSpec.ofChange poolPlaysWrong)

/-- 'bailiwicklaw02.PoolNil': WHATEVER THE INPUT: true; the input reads as it did. -/
def poolNilSpec : ChangeSpec := { name := "poolNil", fn := fun _ => fun
  | [d1, d2] => { results := [.lit (.bool true)], args := [d1, d2] }
  | _ => none }
def poolNilRow : OpenClaim := { program := "ytmdpbdhkmfjlhaa", sum := "e282209ec434402c1503e1a9edd1183088b5093387b8f7d82ac95cc3c1b31b23", func := "bailiwick/bailiwicklaw02.PoolNil", spec := "poolNil", unfollowed := true, recurses := true, apart := false }
def PoolNilSaid : Prop := poolNilRow.holds Try.pinned (OpenSpec.ofChange poolNilSpec)

/-- ITS FALSE NEIGHBOUR: 'it returns false'. Refute it at one input. -/
def poolNilWrong : ChangeSpec := { name := "poolNil", fn := fun _ => fun
  | [d1, d2] => { results := [.lit (.bool false)], args := [d1, d2] }
  | _ => none }
def PoolNilWrongFalsely : Prop := poolNilRow.holds Try.pinned (OpenSpec.ofChange poolNilWrong)

/-- 'bailiwicklaw02.PoolOnce': WHATEVER THE INPUT: true; the input reads as it did. -/
def poolOnceSpec : ChangeSpec := { name := "poolOnce", fn := fun _ => fun
  | [d1, d2] => { results := [.lit (.bool true)], args := [d1, d2] }
  | _ => none }
def poolOnceRow : OpenClaim := { program := "ytmdpbdhkmfjlhaa", sum := "e282209ec434402c1503e1a9edd1183088b5093387b8f7d82ac95cc3c1b31b23", func := "bailiwick/bailiwicklaw02.PoolOnce", spec := "poolOnce", unfollowed := true, recurses := true, apart := false }
def PoolOnceSaid : Prop := poolOnceRow.holds Try.pinned (OpenSpec.ofChange poolOnceSpec)

/-- ITS FALSE NEIGHBOUR: 'it returns false'. Refute it at one input. -/
def poolOnceWrong : ChangeSpec := { name := "poolOnce", fn := fun _ => fun
  | [d1, d2] => { results := [.lit (.bool false)], args := [d1, d2] }
  | _ => none }
def PoolOnceWrongFalsely : Prop := poolOnceRow.holds Try.pinned (OpenSpec.ofChange poolOnceWrong)

/-- 'bailiwicklaw05.TableAbove': WHATEVER THE INPUT: true; the input reads as it did. -/
def tableAboveSpec : ChangeSpec := { name := "tableAbove", fn := fun _ => fun
  | [d] => { results := [.lit (.bool true)], args := [d] }
  | _ => none }
def tableAboveRow : OpenClaim := { program := "ytmdpbdhkmfjlhaa", sum := "e282209ec434402c1503e1a9edd1183088b5093387b8f7d82ac95cc3c1b31b23", func := "bailiwick/bailiwicklaw05.TableAbove", spec := "tableAbove", unfollowed := true, recurses := true, apart := false }
def TableAboveSaid : Prop := tableAboveRow.holds Try.pinned (OpenSpec.ofChange tableAboveSpec)

/-- ITS FALSE NEIGHBOUR: 'it returns false'. Refute it at one input. -/
def tableAboveWrong : ChangeSpec := { name := "tableAbove", fn := fun _ => fun
  | [d] => { results := [.lit (.bool false)], args := [d] }
  | _ => none }
def TableAboveWrongFalsely : Prop := tableAboveRow.holds Try.pinned (OpenSpec.ofChange tableAboveWrong)

/-- 'bailiwicklaw05.TablePlays': WHATEVER THE INPUT: true; the input reads as it did. -/
def tablePlaysSpec : ChangeSpec := { name := "tablePlays", fn := fun _ => fun
  | [d1, d2, d3] => { results := [.lit (.bool true)], args := [d1, d2, d3] }
  | _ => none }
def tablePlaysRow : OpenClaim := { program := "ytmdpbdhkmfjlhaa", sum := "e282209ec434402c1503e1a9edd1183088b5093387b8f7d82ac95cc3c1b31b23", func := "bailiwick/bailiwicklaw05.TablePlays", spec := "tablePlays", unfollowed := true, recurses := true, apart := false }
def TablePlaysSaid : Prop := tablePlaysRow.holds Try.pinned (OpenSpec.ofChange tablePlaysSpec)

/-- ITS FALSE NEIGHBOUR: 'it returns false'. Refute it at one input. -/
def tablePlaysWrong : ChangeSpec := { name := "tablePlays", fn := fun _ => fun
  | [d1, d2, d3] => { results := [.lit (.bool false)], args := [d1, d2, d3] }
  | _ => none }
def TablePlaysWrongFalsely : Prop := tablePlaysRow.holds Try.pinned (OpenSpec.ofChange tablePlaysWrong)

/-- 'bailiwicklaw06.ForestPlays': WHATEVER THE INPUT: true; the input reads as it did. -/
def forestPlaysSpec : ChangeSpec := { name := "forestPlays", fn := fun _ => fun
  | [d1, d2, d3] => { results := [.lit (.bool true)], args := [d1, d2, d3] }
  | _ => none }
def forestPlaysRow : OpenClaim := { program := "ytmdpbdhkmfjlhaa", sum := "e282209ec434402c1503e1a9edd1183088b5093387b8f7d82ac95cc3c1b31b23", func := "bailiwick/bailiwicklaw06.ForestPlays", spec := "forestPlays", unfollowed := true, recurses := true, apart := false }
def ForestPlaysSaid : Prop := forestPlaysRow.holds Try.pinned (OpenSpec.ofChange forestPlaysSpec)

/-- ITS FALSE NEIGHBOUR: 'it returns false'. Refute it at one input. -/
def forestPlaysWrong : ChangeSpec := { name := "forestPlays", fn := fun _ => fun
  | [d1, d2, d3] => { results := [.lit (.bool false)], args := [d1, d2, d3] }
  | _ => none }
def ForestPlaysWrongFalsely : Prop := forestPlaysRow.holds Try.pinned (OpenSpec.ofChange forestPlaysWrong)

/-- 'bailiwicklaw06.ForestWhole': WHATEVER THE INPUT: true; the input reads as it did. -/
def forestWholeSpec : ChangeSpec := { name := "forestWhole", fn := fun _ => fun
  | [d] => { results := [.lit (.bool true)], args := [d] }
  | _ => none }
def forestWholeRow : OpenClaim := { program := "ytmdpbdhkmfjlhaa", sum := "e282209ec434402c1503e1a9edd1183088b5093387b8f7d82ac95cc3c1b31b23", func := "bailiwick/bailiwicklaw06.ForestWhole", spec := "forestWhole", unfollowed := true, recurses := true, apart := false }
def ForestWholeSaid : Prop := forestWholeRow.holds Try.pinned (OpenSpec.ofChange forestWholeSpec)

/-- ITS FALSE NEIGHBOUR: 'it returns false'. Refute it at one input. -/
def forestWholeWrong : ChangeSpec := { name := "forestWhole", fn := fun _ => fun
  | [d] => { results := [.lit (.bool false)], args := [d] }
  | _ => none }
def ForestWholeWrongFalsely : Prop := forestWholeRow.holds Try.pinned (OpenSpec.ofChange forestWholeWrong)

/-- 'bailiwicklaw07.CellPlays': WHATEVER THE INPUT: true; the input reads as it did. -/
def cellPlaysSpec : ChangeSpec := { name := "cellPlays", fn := fun _ => fun
  | [d1, d2, d3] => { results := [.lit (.bool true)], args := [d1, d2, d3] }
  | _ => none }
def cellPlaysRow : OpenClaim := { program := "ytmdpbdhkmfjlhaa", sum := "e282209ec434402c1503e1a9edd1183088b5093387b8f7d82ac95cc3c1b31b23", func := "bailiwick/bailiwicklaw07.CellPlays", spec := "cellPlays", unfollowed := true, recurses := true, apart := false }
def CellPlaysSaid : Prop := cellPlaysRow.holds Try.pinned (OpenSpec.ofChange cellPlaysSpec)

/-- ITS FALSE NEIGHBOUR: 'it returns false'. Refute it at one input. -/
def cellPlaysWrong : ChangeSpec := { name := "cellPlays", fn := fun _ => fun
  | [d1, d2, d3] => { results := [.lit (.bool false)], args := [d1, d2, d3] }
  | _ => none }
def CellPlaysWrongFalsely : Prop := cellPlaysRow.holds Try.pinned (OpenSpec.ofChange cellPlaysWrong)

/-- 'bailiwicklaw07.CellNeverStale': WHATEVER THE INPUT: true; the input reads as it did. -/
def cellNeverStaleSpec : ChangeSpec := { name := "cellNeverStale", fn := fun _ => fun
  | [d] => { results := [.lit (.bool true)], args := [d] }
  | _ => none }
def cellNeverStaleRow : OpenClaim := { program := "ytmdpbdhkmfjlhaa", sum := "e282209ec434402c1503e1a9edd1183088b5093387b8f7d82ac95cc3c1b31b23", func := "bailiwick/bailiwicklaw07.CellNeverStale", spec := "cellNeverStale", unfollowed := true, recurses := true, apart := false }
def CellNeverStaleSaid : Prop := cellNeverStaleRow.holds Try.pinned (OpenSpec.ofChange cellNeverStaleSpec)

/-- ITS FALSE NEIGHBOUR: 'it returns false'. Refute it at one input. -/
def cellNeverStaleWrong : ChangeSpec := { name := "cellNeverStale", fn := fun _ => fun
  | [d] => { results := [.lit (.bool false)], args := [d] }
  | _ => none }
def CellNeverStaleWrongFalsely : Prop := cellNeverStaleRow.holds Try.pinned (OpenSpec.ofChange cellNeverStaleWrong)

/-- 'bailiwicklaw08.OwnOne': WHATEVER THE INPUT: true; the input reads as it did. -/
def ownOneSpec : ChangeSpec := { name := "ownOne", fn := fun _ => fun
  | [d] => { results := [.lit (.bool true)], args := [d] }
  | _ => none }
def ownOneRow : OpenClaim := { program := "ytmdpbdhkmfjlhaa", sum := "e282209ec434402c1503e1a9edd1183088b5093387b8f7d82ac95cc3c1b31b23", func := "bailiwick/bailiwicklaw08.OwnOne", spec := "ownOne", unfollowed := true, recurses := true, apart := false }
def OwnOneSaid : Prop := ownOneRow.holds Try.pinned (OpenSpec.ofChange ownOneSpec)

/-- ITS FALSE NEIGHBOUR: 'it returns false'. Refute it at one input. -/
def ownOneWrong : ChangeSpec := { name := "ownOne", fn := fun _ => fun
  | [d] => { results := [.lit (.bool false)], args := [d] }
  | _ => none }
def OwnOneWrongFalsely : Prop := ownOneRow.holds Try.pinned (OpenSpec.ofChange ownOneWrong)

/- THE SECOND FORM. 'bulk': how many values and letters a reading holds, each counted each time it is reached (what is shared counts as often as it is met; a slice's spare places count too). A statement '..UptoSaid' is the law's where the arguments, and the package variables that the reading takes, are together of bulk at most 1048576: NARROWER than '..Said'. Prove '..Said' where nothing that the law and all that it calls make is longer than what came in: it says more and counts as full. Else prove '..UptoSaid'. A law counts once. -/
mutual
def uptoBulk {H : Type} : DataW H → Nat
  | .lit (.string bytes) => bytes.length + 1
  | .lit _ => 1
  | .nil => 1
  | .ptr d => uptoBulk d + 1
  | .slice elems spare => uptoBulkAll elems + uptoBulkAll spare + 1
  | .agg parts => uptoBulkAll parts + 1
  | .iface _ d => uptoBulk d + 1
  | .map entries => uptoBulkEntries entries + 1
  | .held _ => 1
def uptoBulkAll {H : Type} : List (DataW H) → Nat
  | [] => 0
  | d :: r => uptoBulk d + uptoBulkAll r
def uptoBulkEntries {H : Type} : List (Lit × DataW H) → Nat
  | [] => 0
  | x :: r => uptoBulkEntry x + uptoBulkEntries r
def uptoBulkEntry {H : Type} : Lit × DataW H → Nat
  | (.string bytes, d) => bytes.length + uptoBulk d + 1
  | (_, d) => uptoBulk d + 1
 end
def uptoSmall : (H : Type) → List (DataW H) → Bool := fun _ ds => decide (uptoBulkAll ds ≤ 1048576)
def OpenSpec.upto (s : _root_.Go.ChangeSpec) : _root_.Go.OpenSpec := { _root_.Go.OpenSpec.ofChange s with cond := some uptoSmall }

/-- 'bailiwicklaw02.PoolPlays', WHERE WHAT IT READS IS OF BULK AT MOST 1048576: true; the input reads as it did. -/
def poolPlaysUptoRow : OpenClaim := { program := "ytmdpbdhkmfjlhaa", sum := "e282209ec434402c1503e1a9edd1183088b5093387b8f7d82ac95cc3c1b31b23", func := "bailiwick/bailiwicklaw02.PoolPlays", spec := "poolPlays", unfollowed := true, recurses := true, apart := false, narrowed := true }
def PoolPlaysUptoSaid : Prop := poolPlaysUptoRow.holds Try.pinned (OpenSpec.upto poolPlaysSpec)

/-- 'bailiwicklaw02.PoolNil', WHERE WHAT IT READS IS OF BULK AT MOST 1048576: true; the input reads as it did. -/
def poolNilUptoRow : OpenClaim := { program := "ytmdpbdhkmfjlhaa", sum := "e282209ec434402c1503e1a9edd1183088b5093387b8f7d82ac95cc3c1b31b23", func := "bailiwick/bailiwicklaw02.PoolNil", spec := "poolNil", unfollowed := true, recurses := true, apart := false, narrowed := true }
def PoolNilUptoSaid : Prop := poolNilUptoRow.holds Try.pinned (OpenSpec.upto poolNilSpec)

/-- 'bailiwicklaw02.PoolOnce', WHERE WHAT IT READS IS OF BULK AT MOST 1048576: true; the input reads as it did. -/
def poolOnceUptoRow : OpenClaim := { program := "ytmdpbdhkmfjlhaa", sum := "e282209ec434402c1503e1a9edd1183088b5093387b8f7d82ac95cc3c1b31b23", func := "bailiwick/bailiwicklaw02.PoolOnce", spec := "poolOnce", unfollowed := true, recurses := true, apart := false, narrowed := true }
def PoolOnceUptoSaid : Prop := poolOnceUptoRow.holds Try.pinned (OpenSpec.upto poolOnceSpec)

/-- 'bailiwicklaw05.TableAbove', WHERE WHAT IT READS IS OF BULK AT MOST 1048576: true; the input reads as it did. -/
def tableAboveUptoRow : OpenClaim := { program := "ytmdpbdhkmfjlhaa", sum := "e282209ec434402c1503e1a9edd1183088b5093387b8f7d82ac95cc3c1b31b23", func := "bailiwick/bailiwicklaw05.TableAbove", spec := "tableAbove", unfollowed := true, recurses := true, apart := false, narrowed := true }
def TableAboveUptoSaid : Prop := tableAboveUptoRow.holds Try.pinned (OpenSpec.upto tableAboveSpec)

/-- 'bailiwicklaw05.TablePlays', WHERE WHAT IT READS IS OF BULK AT MOST 1048576: true; the input reads as it did. -/
def tablePlaysUptoRow : OpenClaim := { program := "ytmdpbdhkmfjlhaa", sum := "e282209ec434402c1503e1a9edd1183088b5093387b8f7d82ac95cc3c1b31b23", func := "bailiwick/bailiwicklaw05.TablePlays", spec := "tablePlays", unfollowed := true, recurses := true, apart := false, narrowed := true }
def TablePlaysUptoSaid : Prop := tablePlaysUptoRow.holds Try.pinned (OpenSpec.upto tablePlaysSpec)

/-- 'bailiwicklaw06.ForestPlays', WHERE WHAT IT READS IS OF BULK AT MOST 1048576: true; the input reads as it did. -/
def forestPlaysUptoRow : OpenClaim := { program := "ytmdpbdhkmfjlhaa", sum := "e282209ec434402c1503e1a9edd1183088b5093387b8f7d82ac95cc3c1b31b23", func := "bailiwick/bailiwicklaw06.ForestPlays", spec := "forestPlays", unfollowed := true, recurses := true, apart := false, narrowed := true }
def ForestPlaysUptoSaid : Prop := forestPlaysUptoRow.holds Try.pinned (OpenSpec.upto forestPlaysSpec)

/-- 'bailiwicklaw06.ForestWhole', WHERE WHAT IT READS IS OF BULK AT MOST 1048576: true; the input reads as it did. -/
def forestWholeUptoRow : OpenClaim := { program := "ytmdpbdhkmfjlhaa", sum := "e282209ec434402c1503e1a9edd1183088b5093387b8f7d82ac95cc3c1b31b23", func := "bailiwick/bailiwicklaw06.ForestWhole", spec := "forestWhole", unfollowed := true, recurses := true, apart := false, narrowed := true }
def ForestWholeUptoSaid : Prop := forestWholeUptoRow.holds Try.pinned (OpenSpec.upto forestWholeSpec)

/-- 'bailiwicklaw07.CellPlays', WHERE WHAT IT READS IS OF BULK AT MOST 1048576: true; the input reads as it did. -/
def cellPlaysUptoRow : OpenClaim := { program := "ytmdpbdhkmfjlhaa", sum := "e282209ec434402c1503e1a9edd1183088b5093387b8f7d82ac95cc3c1b31b23", func := "bailiwick/bailiwicklaw07.CellPlays", spec := "cellPlays", unfollowed := true, recurses := true, apart := false, narrowed := true }
def CellPlaysUptoSaid : Prop := cellPlaysUptoRow.holds Try.pinned (OpenSpec.upto cellPlaysSpec)

/-- 'bailiwicklaw07.CellNeverStale', WHERE WHAT IT READS IS OF BULK AT MOST 1048576: true; the input reads as it did. -/
def cellNeverStaleUptoRow : OpenClaim := { program := "ytmdpbdhkmfjlhaa", sum := "e282209ec434402c1503e1a9edd1183088b5093387b8f7d82ac95cc3c1b31b23", func := "bailiwick/bailiwicklaw07.CellNeverStale", spec := "cellNeverStale", unfollowed := true, recurses := true, apart := false, narrowed := true }
def CellNeverStaleUptoSaid : Prop := cellNeverStaleUptoRow.holds Try.pinned (OpenSpec.upto cellNeverStaleSpec)

/-- 'bailiwicklaw08.OwnOne', WHERE WHAT IT READS IS OF BULK AT MOST 1048576: true; the input reads as it did. -/
def ownOneUptoRow : OpenClaim := { program := "ytmdpbdhkmfjlhaa", sum := "e282209ec434402c1503e1a9edd1183088b5093387b8f7d82ac95cc3c1b31b23", func := "bailiwick/bailiwicklaw08.OwnOne", spec := "ownOne", unfollowed := true, recurses := true, apart := false, narrowed := true }
def OwnOneUptoSaid : Prop := ownOneUptoRow.holds Try.pinned (OpenSpec.upto ownOneSpec)

end Rows
end Go.Proofs.Ytmdpbdhkmfjlhaa
