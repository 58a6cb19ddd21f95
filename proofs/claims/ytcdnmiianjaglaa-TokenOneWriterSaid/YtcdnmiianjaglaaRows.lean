/-
  No cell of these rows narrows 'for every input' (looked for: loops, veiled, ifaces, maps, wideKeys, modest, calm, conditions, laid).
  DERIVED. THE GIVEN ROWS OF THIS SEAT. 12 by the template 'for every input the law returns true; each argument reads behind the call as it read before'; 0 by the template 'total and deterministic' (their statements: YtcdnmiianjaglaaTotals.lean).
  GIVEN WITH THE SEED: the statements are not yours to turn. If you find one false, say at which input.
  Laid BY PROGRAM, IN A SANDBOX (cutbox-rows.mjs): the forced cells as the released guide's own fill.sh prints them over the translation 4067e9e436dd1fa7… (all of the seat's roots in one cut). By AI agents, Wed Nov 11 2026. No macro, syntax, notation, axiom, sorry.
-/
import Derived.Test.YtcdnmiianjaglaaChecked
import GoSem.Claim
import GoSem.ClaimJoined
import GoSem.ClaimMapViews
import Derived.JoinedTies
import Derived.KernelRfl
namespace Go.Proofs.Ytcdnmiianjaglaa
/- THE CELL 'sum', in the pinned program and in every row, IS THE sha256 OF THE DUMP (.gsa) THAT YtcdnmiianjaglaaProg.lean LOADS. Nothing in Lean hashes anything: it is a label: what it is worth is what the hold of that sum in a sandbox is worth. -/
noncomputable def Try.pinned : Pinned := { name := "ytcdnmiianjaglaa", sum := "4067e9e436dd1fa7829026d293ac8241c8eeb2f02822900dd41ec91af6f1b536", checked := Try.checked }
namespace Rows
def none {H : Type} : Left H := { results := [], args := [] }

/-- 'bailiwicklaw11.MailOrder': WHATEVER THE INPUT: true; the input reads as it did. -/
def mailOrderSpec : ChangeSpec := { name := "mailOrder", fn := fun _ => fun
  | [d] => { results := [.lit (.bool true)], args := [d] }
  | _ => none }
def mailOrderRow : OpenClaim := { program := "ytcdnmiianjaglaa", sum := "4067e9e436dd1fa7829026d293ac8241c8eeb2f02822900dd41ec91af6f1b536", func := "bailiwick/bailiwicklaw11.MailOrder", spec := "mailOrder", unfollowed := true, recurses := true, apart := false }
def MailOrderSaid : Prop := mailOrderRow.holds Try.pinned (OpenSpec.ofChange mailOrderSpec)

/-- ITS FALSE NEIGHBOUR: 'it returns false'. Refute it at one input. -/
def mailOrderWrong : ChangeSpec := { name := "mailOrder", fn := fun _ => fun
  | [d] => { results := [.lit (.bool false)], args := [d] }
  | _ => none }
def MailOrderWrongFalsely : Prop := mailOrderRow.holds Try.pinned (OpenSpec.ofChange mailOrderWrong)

/-- 'bailiwicklaw11.MailPlays': WHATEVER THE INPUT: true; the input reads as it did. -/
def mailPlaysSpec : ChangeSpec := { name := "mailPlays", fn := fun _ => fun
  | [d] => { results := [.lit (.bool true)], args := [d] }
  | _ => none }
def mailPlaysRow : OpenClaim := { program := "ytcdnmiianjaglaa", sum := "4067e9e436dd1fa7829026d293ac8241c8eeb2f02822900dd41ec91af6f1b536", func := "bailiwick/bailiwicklaw11.MailPlays", spec := "mailPlays", unfollowed := true, recurses := true, apart := false }
def MailPlaysSaid : Prop := mailPlaysRow.holds Try.pinned (OpenSpec.ofChange mailPlaysSpec)

/-- ITS FALSE NEIGHBOUR: 'it returns false'. Refute it at one input. -/
def mailPlaysWrong : ChangeSpec := { name := "mailPlays", fn := fun _ => fun
  | [d] => { results := [.lit (.bool false)], args := [d] }
  | _ => none }
def MailPlaysWrongFalsely : Prop := mailPlaysRow.holds Try.pinned (OpenSpec.ofChange mailPlaysWrong)

/-- 'bailiwicklaw03.HandleBooks': WHATEVER THE INPUT: true; the input reads as it did. -/
def handleBooksSpec : ChangeSpec := { name := "handleBooks", fn := fun _ => fun
  | [d1, d2, d3] => { results := [.lit (.bool true)], args := [d1, d2, d3] }
  | _ => none }
def handleBooksRow : OpenClaim := { program := "ytcdnmiianjaglaa", sum := "4067e9e436dd1fa7829026d293ac8241c8eeb2f02822900dd41ec91af6f1b536", func := "bailiwick/bailiwicklaw03.HandleBooks", spec := "handleBooks", apart := false }
def HandleBooksSaid : Prop := handleBooksRow.holds Try.pinned (OpenSpec.ofChange handleBooksSpec)

/-- ITS FALSE NEIGHBOUR: 'it returns false'. Refute it at one input. -/
def handleBooksWrong : ChangeSpec := { name := "handleBooks", fn := fun _ => fun
  | [d1, d2, d3] => { results := [.lit (.bool false)], args := [d1, d2, d3] }
  | _ => none }
def HandleBooksWrongFalsely : Prop := handleBooksRow.holds Try.pinned (OpenSpec.ofChange handleBooksWrong)

/-- 'bailiwicklaw03.HandleOnce': WHATEVER THE INPUT: true; the input reads as it did. -/
def handleOnceSpec : ChangeSpec := { name := "handleOnce", fn := fun _ => fun
  | [d1, d2] => { results := [.lit (.bool true)], args := [d1, d2] }
  | _ => none }
def handleOnceRow : OpenClaim := { program := "ytcdnmiianjaglaa", sum := "4067e9e436dd1fa7829026d293ac8241c8eeb2f02822900dd41ec91af6f1b536", func := "bailiwick/bailiwicklaw03.HandleOnce", spec := "handleOnce", apart := false }
def HandleOnceSaid : Prop := handleOnceRow.holds Try.pinned (OpenSpec.ofChange handleOnceSpec)

/-- ITS FALSE NEIGHBOUR: 'it returns false'. Refute it at one input. -/
def handleOnceWrong : ChangeSpec := { name := "handleOnce", fn := fun _ => fun
  | [d1, d2] => { results := [.lit (.bool false)], args := [d1, d2] }
  | _ => none }
def HandleOnceWrongFalsely : Prop := handleOnceRow.holds Try.pinned (OpenSpec.ofChange handleOnceWrong)

/-- 'bailiwicklaw15.MarkPlays': WHATEVER THE INPUT: true; the input reads as it did. -/
def markPlaysSpec : ChangeSpec := { name := "markPlays", fn := fun _ => fun
  | [d] => { results := [.lit (.bool true)], args := [d] }
  | _ => none }
def markPlaysRow : OpenClaim := { program := "ytcdnmiianjaglaa", sum := "4067e9e436dd1fa7829026d293ac8241c8eeb2f02822900dd41ec91af6f1b536", func := "bailiwick/bailiwicklaw15.MarkPlays", spec := "markPlays", apart := false }
def MarkPlaysSaid : Prop := markPlaysRow.holds Try.pinned (OpenSpec.ofChange markPlaysSpec)

/-- ITS FALSE NEIGHBOUR: 'it returns false'. Refute it at one input. -/
def markPlaysWrong : ChangeSpec := { name := "markPlays", fn := fun _ => fun
  | [d] => { results := [.lit (.bool false)], args := [d] }
  | _ => none }
def MarkPlaysWrongFalsely : Prop := markPlaysRow.holds Try.pinned (OpenSpec.ofChange markPlaysWrong)

/-- 'bailiwicklaw15.MarkTurns': WHATEVER THE INPUT: true; the input reads as it did. -/
def markTurnsSpec : ChangeSpec := { name := "markTurns", fn := fun _ => fun
  | [d1, d2] => { results := [.lit (.bool true)], args := [d1, d2] }
  | _ => none }
def markTurnsRow : OpenClaim := { program := "ytcdnmiianjaglaa", sum := "4067e9e436dd1fa7829026d293ac8241c8eeb2f02822900dd41ec91af6f1b536", func := "bailiwick/bailiwicklaw15.MarkTurns", spec := "markTurns", apart := false }
def MarkTurnsSaid : Prop := markTurnsRow.holds Try.pinned (OpenSpec.ofChange markTurnsSpec)

/-- ITS FALSE NEIGHBOUR: 'it returns false'. Refute it at one input. -/
def markTurnsWrong : ChangeSpec := { name := "markTurns", fn := fun _ => fun
  | [d1, d2] => { results := [.lit (.bool false)], args := [d1, d2] }
  | _ => none }
def MarkTurnsWrongFalsely : Prop := markTurnsRow.holds Try.pinned (OpenSpec.ofChange markTurnsWrong)

/-- 'bailiwicklaw04.ExtentTells': WHATEVER THE INPUT: true; the input reads as it did. -/
def extentTellsSpec : ChangeSpec := { name := "extentTells", fn := fun _ => fun
  | [d1, d2, d3, d4, d5, d6] => { results := [.lit (.bool true)], args := [d1, d2, d3, d4, d5, d6] }
  | _ => none }
def extentTellsRow : OpenClaim := { program := "ytcdnmiianjaglaa", sum := "4067e9e436dd1fa7829026d293ac8241c8eeb2f02822900dd41ec91af6f1b536", func := "bailiwick/bailiwicklaw04.ExtentTells", spec := "extentTells", unfollowed := true, recurses := true, apart := false }
def ExtentTellsSaid : Prop := extentTellsRow.holds Try.pinned (OpenSpec.ofChange extentTellsSpec)

/-- ITS FALSE NEIGHBOUR: 'it returns false'. Refute it at one input. -/
def extentTellsWrong : ChangeSpec := { name := "extentTells", fn := fun _ => fun
  | [d1, d2, d3, d4, d5, d6] => { results := [.lit (.bool false)], args := [d1, d2, d3, d4, d5, d6] }
  | _ => none }
def ExtentTellsWrongFalsely : Prop := extentTellsRow.holds Try.pinned (OpenSpec.ofChange extentTellsWrong)

/-- 'bailiwicklaw04.ExtentApart': WHATEVER THE INPUT: true; the input reads as it did. -/
def extentApartSpec : ChangeSpec := { name := "extentApart", fn := fun _ => fun
  | [d] => { results := [.lit (.bool true)], args := [d] }
  | _ => none }
def extentApartRow : OpenClaim := { program := "ytcdnmiianjaglaa", sum := "4067e9e436dd1fa7829026d293ac8241c8eeb2f02822900dd41ec91af6f1b536", func := "bailiwick/bailiwicklaw04.ExtentApart", spec := "extentApart", unfollowed := true, recurses := true, apart := false }
def ExtentApartSaid : Prop := extentApartRow.holds Try.pinned (OpenSpec.ofChange extentApartSpec)

/-- ITS FALSE NEIGHBOUR: 'it returns false'. Refute it at one input. -/
def extentApartWrong : ChangeSpec := { name := "extentApart", fn := fun _ => fun
  | [d] => { results := [.lit (.bool false)], args := [d] }
  | _ => none }
def ExtentApartWrongFalsely : Prop := extentApartRow.holds Try.pinned (OpenSpec.ofChange extentApartWrong)

/-- 'bailiwicklaw01.RunsPlay': WHATEVER THE INPUT: true; the input reads as it did. -/
def runsPlaySpec : ChangeSpec := { name := "runsPlay", fn := fun _ => fun
  | [d1, d2, d3] => { results := [.lit (.bool true)], args := [d1, d2, d3] }
  | _ => none }
def runsPlayRow : OpenClaim := { program := "ytcdnmiianjaglaa", sum := "4067e9e436dd1fa7829026d293ac8241c8eeb2f02822900dd41ec91af6f1b536", func := "bailiwick/bailiwicklaw01.RunsPlay", spec := "runsPlay", unfollowed := true, recurses := true, apart := false }
def RunsPlaySaid : Prop := runsPlayRow.holds Try.pinned (OpenSpec.ofChange runsPlaySpec)

/-- ITS FALSE NEIGHBOUR: 'it returns false'. Refute it at one input. -/
def runsPlayWrong : ChangeSpec := { name := "runsPlay", fn := fun _ => fun
  | [d1, d2, d3] => { results := [.lit (.bool false)], args := [d1, d2, d3] }
  | _ => none }
def RunsPlayWrongFalsely : Prop := runsPlayRow.holds Try.pinned (OpenSpec.ofChange runsPlayWrong)

/-- 'bailiwicklaw01.RunsOneWay': WHATEVER THE INPUT: true; the input reads as it did. -/
def runsOneWaySpec : ChangeSpec := { name := "runsOneWay", fn := fun _ => fun
  | [d1, d2, d3] => { results := [.lit (.bool true)], args := [d1, d2, d3] }
  | _ => none }
def runsOneWayRow : OpenClaim := { program := "ytcdnmiianjaglaa", sum := "4067e9e436dd1fa7829026d293ac8241c8eeb2f02822900dd41ec91af6f1b536", func := "bailiwick/bailiwicklaw01.RunsOneWay", spec := "runsOneWay", unfollowed := true, recurses := true, apart := false }
def RunsOneWaySaid : Prop := runsOneWayRow.holds Try.pinned (OpenSpec.ofChange runsOneWaySpec)

/-- ITS FALSE NEIGHBOUR: 'it returns false'. Refute it at one input. -/
def runsOneWayWrong : ChangeSpec := { name := "runsOneWay", fn := fun _ => fun
  | [d1, d2, d3] => { results := [.lit (.bool false)], args := [d1, d2, d3] }
  | _ => none }
def RunsOneWayWrongFalsely : Prop := runsOneWayRow.holds Try.pinned (OpenSpec.ofChange runsOneWayWrong)

/-- 'bailiwicklaw09.TokenPlays': WHATEVER THE INPUT: true; the input reads as it did. -/
def tokenPlaysSpec : ChangeSpec := { name := "tokenPlays", fn := fun _ => fun
  | [d1, d2, d3] => { results := [.lit (.bool true)], args := [d1, d2, d3] }
  | _ => none }
def tokenPlaysRow : OpenClaim := { program := "ytcdnmiianjaglaa", sum := "4067e9e436dd1fa7829026d293ac8241c8eeb2f02822900dd41ec91af6f1b536", func := "bailiwick/bailiwicklaw09.TokenPlays", spec := "tokenPlays", unfollowed := true, recurses := true, apart := false }
def TokenPlaysSaid : Prop := tokenPlaysRow.holds Try.pinned (OpenSpec.ofChange tokenPlaysSpec)

/-- ITS FALSE NEIGHBOUR: 'it returns false'. Refute it at one input. -/
def tokenPlaysWrong : ChangeSpec := { name := "tokenPlays", fn := fun _ => fun
  | [d1, d2, d3] => { results := [.lit (.bool false)], args := [d1, d2, d3] }
  | _ => none }
def TokenPlaysWrongFalsely : Prop := tokenPlaysRow.holds Try.pinned (OpenSpec.ofChange tokenPlaysWrong)

/-- 'bailiwicklaw09.TokenOneWriter': WHATEVER THE INPUT: true; the input reads as it did. -/
def tokenOneWriterSpec : ChangeSpec := { name := "tokenOneWriter", fn := fun _ => fun
  | [d] => { results := [.lit (.bool true)], args := [d] }
  | _ => none }
def tokenOneWriterRow : OpenClaim := { program := "ytcdnmiianjaglaa", sum := "4067e9e436dd1fa7829026d293ac8241c8eeb2f02822900dd41ec91af6f1b536", func := "bailiwick/bailiwicklaw09.TokenOneWriter", spec := "tokenOneWriter", unfollowed := true, recurses := true, apart := false }
def TokenOneWriterSaid : Prop := tokenOneWriterRow.holds Try.pinned (OpenSpec.ofChange tokenOneWriterSpec)

/-- ITS FALSE NEIGHBOUR: 'it returns false'. Refute it at one input. -/
def tokenOneWriterWrong : ChangeSpec := { name := "tokenOneWriter", fn := fun _ => fun
  | [d] => { results := [.lit (.bool false)], args := [d] }
  | _ => none }
def TokenOneWriterWrongFalsely : Prop := tokenOneWriterRow.holds Try.pinned (OpenSpec.ofChange tokenOneWriterWrong)

/- THE SECOND FORM. 'bulk': how many values and letters a reading holds, each counted each time it is reached (what is shared counts as often as it is met; a slice's spare places count too). A statement '..UptoSaid' is the law's where the arguments, and the package variables that the reading takes, are together of bulk at most 1048576: NARROWER than '..Said'. Prove '..Said' where nothing that the law and all that it calls make is longer than what came in: it says more and counts as full. Else prove '..UptoSaid'. A law counts once. -/
mutual
def uptoBulk {H : Type} : DataW H → Nat
  | .lit (.string bytes) => bytes.length + 1
  | .lit _ => 1
  | .nil => 1
  | .ptr d => uptoBulk d + 1
  | .slice elems spare => uptoBulkAll elems + uptoBulkAll spare + 1
  | .agg parts => uptoBulkAll parts + 1
  | .iface _ d => uptoBulk d + 1
  | .map entries => uptoBulkEntries entries + 1
  | .held _ => 1
def uptoBulkAll {H : Type} : List (DataW H) → Nat
  | [] => 0
  | d :: r => uptoBulk d + uptoBulkAll r
def uptoBulkEntries {H : Type} : List (Lit × DataW H) → Nat
  | [] => 0
  | x :: r => uptoBulkEntry x + uptoBulkEntries r
def uptoBulkEntry {H : Type} : Lit × DataW H → Nat
  | (.string bytes, d) => bytes.length + uptoBulk d + 1
  | (_, d) => uptoBulk d + 1
 end
def uptoSmall : (H : Type) → List (DataW H) → Bool := fun _ ds => decide (uptoBulkAll ds ≤ 1048576)
def OpenSpec.upto (s : _root_.Go.ChangeSpec) : _root_.Go.OpenSpec := { _root_.Go.OpenSpec.ofChange s with cond := some uptoSmall }

/-- 'bailiwicklaw11.MailOrder', WHERE WHAT IT READS IS OF BULK AT MOST 1048576: true; the input reads as it did. -/
def mailOrderUptoRow : OpenClaim := { program := "ytcdnmiianjaglaa", sum := "4067e9e436dd1fa7829026d293ac8241c8eeb2f02822900dd41ec91af6f1b536", func := "bailiwick/bailiwicklaw11.MailOrder", spec := "mailOrder", unfollowed := true, recurses := true, apart := false, narrowed := true }
def MailOrderUptoSaid : Prop := mailOrderUptoRow.holds Try.pinned (OpenSpec.upto mailOrderSpec)

/-- 'bailiwicklaw11.MailPlays', WHERE WHAT IT READS IS OF BULK AT MOST 1048576: true; the input reads as it did. -/
def mailPlaysUptoRow : OpenClaim := { program := "ytcdnmiianjaglaa", sum := "4067e9e436dd1fa7829026d293ac8241c8eeb2f02822900dd41ec91af6f1b536", func := "bailiwick/bailiwicklaw11.MailPlays", spec := "mailPlays", unfollowed := true, recurses := true, apart := false, narrowed := true }
def MailPlaysUptoSaid : Prop := mailPlaysUptoRow.holds Try.pinned (OpenSpec.upto mailPlaysSpec)

/-- 'bailiwicklaw03.HandleBooks', WHERE WHAT IT READS IS OF BULK AT MOST 1048576: true; the input reads as it did. -/
def handleBooksUptoRow : OpenClaim := { program := "ytcdnmiianjaglaa", sum := "4067e9e436dd1fa7829026d293ac8241c8eeb2f02822900dd41ec91af6f1b536", func := "bailiwick/bailiwicklaw03.HandleBooks", spec := "handleBooks", apart := false, narrowed := true }
def HandleBooksUptoSaid : Prop := handleBooksUptoRow.holds Try.pinned (OpenSpec.upto handleBooksSpec)

/-- 'bailiwicklaw03.HandleOnce', WHERE WHAT IT READS IS OF BULK AT MOST 1048576: true; the input reads as it did. -/
def handleOnceUptoRow : OpenClaim := { program := "ytcdnmiianjaglaa", sum := "4067e9e436dd1fa7829026d293ac8241c8eeb2f02822900dd41ec91af6f1b536", func := "bailiwick/bailiwicklaw03.HandleOnce", spec := "handleOnce", apart := false, narrowed := true }
def HandleOnceUptoSaid : Prop := handleOnceUptoRow.holds Try.pinned (OpenSpec.upto handleOnceSpec)

/-- 'bailiwicklaw15.MarkPlays', WHERE WHAT IT READS IS OF BULK AT MOST 1048576: true; the input reads as it did. -/
def markPlaysUptoRow : OpenClaim := { program := "ytcdnmiianjaglaa", sum := "4067e9e436dd1fa7829026d293ac8241c8eeb2f02822900dd41ec91af6f1b536", func := "bailiwick/bailiwicklaw15.MarkPlays", spec := "markPlays", apart := false, narrowed := true }
def MarkPlaysUptoSaid : Prop := markPlaysUptoRow.holds Try.pinned (OpenSpec.upto markPlaysSpec)

/-- 'bailiwicklaw15.MarkTurns', WHERE WHAT IT READS IS OF BULK AT MOST 1048576: true; the input reads as it did. -/
def markTurnsUptoRow : OpenClaim := { program := "ytcdnmiianjaglaa", sum := "4067e9e436dd1fa7829026d293ac8241c8eeb2f02822900dd41ec91af6f1b536", func := "bailiwick/bailiwicklaw15.MarkTurns", spec := "markTurns", apart := false, narrowed := true }
def MarkTurnsUptoSaid : Prop := markTurnsUptoRow.holds Try.pinned (OpenSpec.upto markTurnsSpec)

/-- 'bailiwicklaw04.ExtentTells', WHERE WHAT IT READS IS OF BULK AT MOST 1048576: true; the input reads as it did. -/
def extentTellsUptoRow : OpenClaim := { program := "ytcdnmiianjaglaa", sum := "4067e9e436dd1fa7829026d293ac8241c8eeb2f02822900dd41ec91af6f1b536", func := "bailiwick/bailiwicklaw04.ExtentTells", spec := "extentTells", unfollowed := true, recurses := true, apart := false, narrowed := true }
def ExtentTellsUptoSaid : Prop := extentTellsUptoRow.holds Try.pinned (OpenSpec.upto extentTellsSpec)

/-- 'bailiwicklaw04.ExtentApart', WHERE WHAT IT READS IS OF BULK AT MOST 1048576: true; the input reads as it did. -/
def extentApartUptoRow : OpenClaim := { program := "ytcdnmiianjaglaa", sum := "4067e9e436dd1fa7829026d293ac8241c8eeb2f02822900dd41ec91af6f1b536", func := "bailiwick/bailiwicklaw04.ExtentApart", spec := "extentApart", unfollowed := true, recurses := true, apart := false, narrowed := true }
def ExtentApartUptoSaid : Prop := extentApartUptoRow.holds Try.pinned (OpenSpec.upto extentApartSpec)

/-- 'bailiwicklaw01.RunsPlay', WHERE WHAT IT READS IS OF BULK AT MOST 1048576: true; the input reads as it did. -/
def runsPlayUptoRow : OpenClaim := { program := "ytcdnmiianjaglaa", sum := "4067e9e436dd1fa7829026d293ac8241c8eeb2f02822900dd41ec91af6f1b536", func := "bailiwick/bailiwicklaw01.RunsPlay", spec := "runsPlay", unfollowed := true, recurses := true, apart := false, narrowed := true }
def RunsPlayUptoSaid : Prop := runsPlayUptoRow.holds Try.pinned (OpenSpec.upto runsPlaySpec)

/-- 'bailiwicklaw01.RunsOneWay', WHERE WHAT IT READS IS OF BULK AT MOST 1048576: true; the input reads as it did. -/
def runsOneWayUptoRow : OpenClaim := { program := "ytcdnmiianjaglaa", sum := "4067e9e436dd1fa7829026d293ac8241c8eeb2f02822900dd41ec91af6f1b536", func := "bailiwick/bailiwicklaw01.RunsOneWay", spec := "runsOneWay", unfollowed := true, recurses := true, apart := false, narrowed := true }
def RunsOneWayUptoSaid : Prop := runsOneWayUptoRow.holds Try.pinned (OpenSpec.upto runsOneWaySpec)

/-- 'bailiwicklaw09.TokenPlays', WHERE WHAT IT READS IS OF BULK AT MOST 1048576: true; the input reads as it did. -/
def tokenPlaysUptoRow : OpenClaim := { program := "ytcdnmiianjaglaa", sum := "4067e9e436dd1fa7829026d293ac8241c8eeb2f02822900dd41ec91af6f1b536", func := "bailiwick/bailiwicklaw09.TokenPlays", spec := "tokenPlays", unfollowed := true, recurses := true, apart := false, narrowed := true }
def TokenPlaysUptoSaid : Prop := tokenPlaysUptoRow.holds Try.pinned (OpenSpec.upto tokenPlaysSpec)

/-- 'bailiwicklaw09.TokenOneWriter', WHERE WHAT IT READS IS OF BULK AT MOST 1048576: true; the input reads as it did. -/
def tokenOneWriterUptoRow : OpenClaim := { program := "ytcdnmiianjaglaa", sum := "4067e9e436dd1fa7829026d293ac8241c8eeb2f02822900dd41ec91af6f1b536", func := "bailiwick/bailiwicklaw09.TokenOneWriter", spec := "tokenOneWriter", unfollowed := true, recurses := true, apart := false, narrowed := true }
def TokenOneWriterUptoSaid : Prop := tokenOneWriterUptoRow.holds Try.pinned (OpenSpec.upto tokenOneWriterSpec)

end Rows
end Go.Proofs.Ytcdnmiianjaglaa
