/-
  No cell of these rows narrows 'for every input' (looked for: loops, veiled, ifaces, maps, wideKeys, modest, calm, conditions, laid).
  DERIVED. THE GIVEN ROWS OF THIS SEAT. 8 by the template 'for every input the law returns true; each argument reads behind the call as it read before'; 0 by the template 'total and deterministic' (their statements: YtigdhdclfdojgaaTotals.lean).
  GIVEN WITH THE SEED: the statements are not yours to turn. If you find one false, say at which input.
  Laid BY PROGRAM, IN A SANDBOX (cutbox-rows.mjs): the forced cells as the released guide's own fill.sh prints them over the translation 481f67b7cb53f41b… (all of the seat's roots in one cut). By AI agents, Wed Nov 11 2026. No macro, syntax, notation, axiom, sorry.
-/
import Derived.Test.YtigdhdclfdojgaaChecked
import GoSem.Claim
import GoSem.ClaimJoined
import GoSem.ClaimMapViews
import Derived.JoinedTies
import Derived.KernelRfl
namespace Go.Proofs.Ytigdhdclfdojgaa
/- THE CELL 'sum', in the pinned program and in every row, IS THE sha256 OF THE DUMP (.gsa) THAT YtigdhdclfdojgaaProg.lean LOADS. Nothing in Lean hashes anything: it is a label: what it is worth is what the hold of that sum in a sandbox is worth. -/
noncomputable def Try.pinned : Pinned := { name := "ytigdhdclfdojgaa", sum := "481f67b7cb53f41bb27437b7e141cfdf87a3012f25119bb1a4ed898372939932", checked := Try.checked }
namespace Rows
def none {H : Type} : Left H := { results := [], args := [] }

/-- 'synodlaw10.SnapPieces': WHATEVER THE INPUT: true; the input reads as it did. -/
def snapPiecesSpec : ChangeSpec := { name := "snapPieces", fn := fun _ => fun
  | [d1, d2] => { results := [.lit (.bool true)], args := [d1, d2] }
  | _ => none }
def snapPiecesRow : OpenClaim := { program := "ytigdhdclfdojgaa", sum := "481f67b7cb53f41bb27437b7e141cfdf87a3012f25119bb1a4ed898372939932", func := "synod/synodlaw10.SnapPieces", spec := "snapPieces", recurses := true, apart := false }
def SnapPiecesSaid : Prop := snapPiecesRow.holds Try.pinned (OpenSpec.ofChange snapPiecesSpec)

/-- ITS FALSE NEIGHBOUR: 'it returns false'. Refute it at one input. -/
def snapPiecesWrong : ChangeSpec := { name := "snapPieces", fn := fun _ => fun
  | [d1, d2] => { results := [.lit (.bool false)], args := [d1, d2] }
  | _ => none }
def SnapPiecesWrongFalsely : Prop := snapPiecesRow.holds Try.pinned (OpenSpec.ofChange snapPiecesWrong)

/-- 'synodlaw10.SnapFull': WHATEVER THE INPUT: true; the input reads as it did. -/
def snapFullSpec : ChangeSpec := { name := "snapFull", fn := fun _ => fun
  | [d1, d2, d3] => { results := [.lit (.bool true)], args := [d1, d2, d3] }
  | _ => none }
def snapFullRow : OpenClaim := { program := "ytigdhdclfdojgaa", sum := "481f67b7cb53f41bb27437b7e141cfdf87a3012f25119bb1a4ed898372939932", func := "synod/synodlaw10.SnapFull", spec := "snapFull", recurses := true, apart := false }
def SnapFullSaid : Prop := snapFullRow.holds Try.pinned (OpenSpec.ofChange snapFullSpec)

/-- ITS FALSE NEIGHBOUR: 'it returns false'. Refute it at one input. -/
def snapFullWrong : ChangeSpec := { name := "snapFull", fn := fun _ => fun
  | [d1, d2, d3] => { results := [.lit (.bool false)], args := [d1, d2, d3] }
  | _ => none }
def SnapFullWrongFalsely : Prop := snapFullRow.holds Try.pinned (OpenSpec.ofChange snapFullWrong)

/-- 'synodlaw10.SnapTurned': WHATEVER THE INPUT: true; the input reads as it did. -/
def snapTurnedSpec : ChangeSpec := { name := "snapTurned", fn := fun _ => fun
  | [d1, d2, d3, d4, d5] => { results := [.lit (.bool true)], args := [d1, d2, d3, d4, d5] }
  | _ => none }
def snapTurnedRow : OpenClaim := { program := "ytigdhdclfdojgaa", sum := "481f67b7cb53f41bb27437b7e141cfdf87a3012f25119bb1a4ed898372939932", func := "synod/synodlaw10.SnapTurned", spec := "snapTurned", recurses := true, apart := false }
def SnapTurnedSaid : Prop := snapTurnedRow.holds Try.pinned (OpenSpec.ofChange snapTurnedSpec)

/-- ITS FALSE NEIGHBOUR: 'it returns false'. Refute it at one input. -/
def snapTurnedWrong : ChangeSpec := { name := "snapTurned", fn := fun _ => fun
  | [d1, d2, d3, d4, d5] => { results := [.lit (.bool false)], args := [d1, d2, d3, d4, d5] }
  | _ => none }
def SnapTurnedWrongFalsely : Prop := snapTurnedRow.holds Try.pinned (OpenSpec.ofChange snapTurnedWrong)

/-- 'synodlaw10.SnapSwaps': WHATEVER THE INPUT: true; the input reads as it did. -/
def snapSwapsSpec : ChangeSpec := { name := "snapSwaps", fn := fun _ => fun
  | [d1, d2, d3, d4, d5, d6] => { results := [.lit (.bool true)], args := [d1, d2, d3, d4, d5, d6] }
  | _ => none }
def snapSwapsRow : OpenClaim := { program := "ytigdhdclfdojgaa", sum := "481f67b7cb53f41bb27437b7e141cfdf87a3012f25119bb1a4ed898372939932", func := "synod/synodlaw10.SnapSwaps", spec := "snapSwaps", recurses := true, apart := false }
def SnapSwapsSaid : Prop := snapSwapsRow.holds Try.pinned (OpenSpec.ofChange snapSwapsSpec)

/-- ITS FALSE NEIGHBOUR: 'it returns false'. Refute it at one input. -/
def snapSwapsWrong : ChangeSpec := { name := "snapSwaps", fn := fun _ => fun
  | [d1, d2, d3, d4, d5, d6] => { results := [.lit (.bool false)], args := [d1, d2, d3, d4, d5, d6] }
  | _ => none }
def SnapSwapsWrongFalsely : Prop := snapSwapsRow.holds Try.pinned (OpenSpec.ofChange snapSwapsWrong)

/-- 'synodlaw10.SnapRuns': WHATEVER THE INPUT: true; the input reads as it did. -/
def snapRunsSpec : ChangeSpec := { name := "snapRuns", fn := fun _ => fun
  | [d1, d2, d3] => { results := [.lit (.bool true)], args := [d1, d2, d3] }
  | _ => none }
def snapRunsRow : OpenClaim := { program := "ytigdhdclfdojgaa", sum := "481f67b7cb53f41bb27437b7e141cfdf87a3012f25119bb1a4ed898372939932", func := "synod/synodlaw10.SnapRuns", spec := "snapRuns", recurses := true, apart := false }
def SnapRunsSaid : Prop := snapRunsRow.holds Try.pinned (OpenSpec.ofChange snapRunsSpec)

/-- ITS FALSE NEIGHBOUR: 'it returns false'. Refute it at one input. -/
def snapRunsWrong : ChangeSpec := { name := "snapRuns", fn := fun _ => fun
  | [d1, d2, d3] => { results := [.lit (.bool false)], args := [d1, d2, d3] }
  | _ => none }
def SnapRunsWrongFalsely : Prop := snapRunsRow.holds Try.pinned (OpenSpec.ofChange snapRunsWrong)

/-- 'synodlaw09.WalFull': WHATEVER THE INPUT: true; the input reads as it did. -/
def walFullSpec : ChangeSpec := { name := "walFull", fn := fun _ => fun
  | [d1, d2] => { results := [.lit (.bool true)], args := [d1, d2] }
  | _ => none }
def walFullRow : OpenClaim := { program := "ytigdhdclfdojgaa", sum := "481f67b7cb53f41bb27437b7e141cfdf87a3012f25119bb1a4ed898372939932", func := "synod/synodlaw09.WalFull", spec := "walFull", recurses := true, apart := false }
def WalFullSaid : Prop := walFullRow.holds Try.pinned (OpenSpec.ofChange walFullSpec)

/-- ITS FALSE NEIGHBOUR: 'it returns false'. Refute it at one input. -/
def walFullWrong : ChangeSpec := { name := "walFull", fn := fun _ => fun
  | [d1, d2] => { results := [.lit (.bool false)], args := [d1, d2] }
  | _ => none }
def WalFullWrongFalsely : Prop := walFullRow.holds Try.pinned (OpenSpec.ofChange walFullWrong)

/-- 'synodlaw09.WalTrims': WHATEVER THE INPUT: true; the input reads as it did. -/
def walTrimsSpec : ChangeSpec := { name := "walTrims", fn := fun _ => fun
  | [d1, d2, d3] => { results := [.lit (.bool true)], args := [d1, d2, d3] }
  | _ => none }
def walTrimsRow : OpenClaim := { program := "ytigdhdclfdojgaa", sum := "481f67b7cb53f41bb27437b7e141cfdf87a3012f25119bb1a4ed898372939932", func := "synod/synodlaw09.WalTrims", spec := "walTrims", recurses := true, apart := false }
def WalTrimsSaid : Prop := walTrimsRow.holds Try.pinned (OpenSpec.ofChange walTrimsSpec)

/-- ITS FALSE NEIGHBOUR: 'it returns false'. Refute it at one input. -/
def walTrimsWrong : ChangeSpec := { name := "walTrims", fn := fun _ => fun
  | [d1, d2, d3] => { results := [.lit (.bool false)], args := [d1, d2, d3] }
  | _ => none }
def WalTrimsWrongFalsely : Prop := walTrimsRow.holds Try.pinned (OpenSpec.ofChange walTrimsWrong)

/-- 'synodlaw09.WalTwice': WHATEVER THE INPUT: true; the input reads as it did. -/
def walTwiceSpec : ChangeSpec := { name := "walTwice", fn := fun _ => fun
  | [d1, d2] => { results := [.lit (.bool true)], args := [d1, d2] }
  | _ => none }
def walTwiceRow : OpenClaim := { program := "ytigdhdclfdojgaa", sum := "481f67b7cb53f41bb27437b7e141cfdf87a3012f25119bb1a4ed898372939932", func := "synod/synodlaw09.WalTwice", spec := "walTwice", recurses := true, apart := false }
def WalTwiceSaid : Prop := walTwiceRow.holds Try.pinned (OpenSpec.ofChange walTwiceSpec)

/-- ITS FALSE NEIGHBOUR: 'it returns false'. Refute it at one input. -/
def walTwiceWrong : ChangeSpec := { name := "walTwice", fn := fun _ => fun
  | [d1, d2] => { results := [.lit (.bool false)], args := [d1, d2] }
  | _ => none }
def WalTwiceWrongFalsely : Prop := walTwiceRow.holds Try.pinned (OpenSpec.ofChange walTwiceWrong)

/- THE SECOND FORM. 'bulk': how many values and letters a reading holds, each counted each time it is reached (what is shared counts as often as it is met; a slice's spare places count too). A statement '..UptoSaid' is the law's where the arguments, and the package variables that the reading takes, are together of bulk at most 1048576: NARROWER than '..Said'. Prove '..Said' where nothing that the law and all that it calls make is longer than what came in: it says more and counts as full. Else prove '..UptoSaid'. A law counts once. -/
mutual
def uptoBulk {H : Type} : DataW H → Nat
  | .lit (.string bytes) => bytes.length + 1
  | .lit _ => 1
  | .nil => 1
  | .ptr d => uptoBulk d + 1
  | .slice elems spare => uptoBulkAll elems + uptoBulkAll spare + 1
  | .agg parts => uptoBulkAll parts + 1
  | .iface _ d => uptoBulk d + 1
  | .map entries => uptoBulkEntries entries + 1
  | .held _ => 1
def uptoBulkAll {H : Type} : List (DataW H) → Nat
  | [] => 0
  | d :: r => uptoBulk d + uptoBulkAll r
def uptoBulkEntries {H : Type} : List (Lit × DataW H) → Nat
  | [] => 0
  | x :: r => uptoBulkEntry x + uptoBulkEntries r
def uptoBulkEntry {H : Type} : Lit × DataW H → Nat
  | (.string bytes, d) => bytes.length + uptoBulk d + 1
  | (_, d) => uptoBulk d + 1
 end
def uptoSmall : (H : Type) → List (DataW H) → Bool := fun _ ds => decide (uptoBulkAll ds ≤ 1048576)
def OpenSpec.upto (s : _root_.Go.ChangeSpec) : _root_.Go.OpenSpec := { _root_.Go.OpenSpec.ofChange s with cond := some uptoSmall }

/-- 'synodlaw10.SnapPieces', WHERE WHAT IT READS IS OF BULK AT MOST 1048576: true; the input reads as it did. -/
def snapPiecesUptoRow : OpenClaim := { program := "ytigdhdclfdojgaa", sum := "481f67b7cb53f41bb27437b7e141cfdf87a3012f25119bb1a4ed898372939932", func := "synod/synodlaw10.SnapPieces", spec := "snapPieces", recurses := true, apart := false, narrowed := true }
def SnapPiecesUptoSaid : Prop := snapPiecesUptoRow.holds Try.pinned (OpenSpec.upto snapPiecesSpec)

/-- 'synodlaw10.SnapFull', WHERE WHAT IT READS IS OF BULK AT MOST 1048576: true; the input reads as it did. -/
def snapFullUptoRow : OpenClaim := { program := "ytigdhdclfdojgaa", sum := "481f67b7cb53f41bb27437b7e141cfdf87a3012f25119bb1a4ed898372939932", func := "synod/synodlaw10.SnapFull", spec := "snapFull", recurses := true, apart := false, narrowed := true }
def SnapFullUptoSaid : Prop := snapFullUptoRow.holds Try.pinned (OpenSpec.upto snapFullSpec)

/-- 'synodlaw10.SnapTurned', WHERE WHAT IT READS IS OF BULK AT MOST 1048576: true; the input reads as it did. -/
def snapTurnedUptoRow : OpenClaim := { program := "ytigdhdclfdojgaa", sum := "481f67b7cb53f41bb27437b7e141cfdf87a3012f25119bb1a4ed898372939932", func := "synod/synodlaw10.SnapTurned", spec := "snapTurned", recurses := true, apart := false, narrowed := true }
def SnapTurnedUptoSaid : Prop := snapTurnedUptoRow.holds Try.pinned (OpenSpec.upto snapTurnedSpec)

/-- 'synodlaw10.SnapSwaps', WHERE WHAT IT READS IS OF BULK AT MOST 1048576: true; the input reads as it did. -/
def snapSwapsUptoRow : OpenClaim := { program := "ytigdhdclfdojgaa", sum := "481f67b7cb53f41bb27437b7e141cfdf87a3012f25119bb1a4ed898372939932", func := "synod/synodlaw10.SnapSwaps", spec := "snapSwaps", recurses := true, apart := false, narrowed := true }
def SnapSwapsUptoSaid : Prop := snapSwapsUptoRow.holds Try.pinned (OpenSpec.upto snapSwapsSpec)

/-- 'synodlaw10.SnapRuns', WHERE WHAT IT READS IS OF BULK AT MOST 1048576: true; the input reads as it did. -/
def snapRunsUptoRow : OpenClaim := { program := "ytigdhdclfdojgaa", sum := "481f67b7cb53f41bb27437b7e141cfdf87a3012f25119bb1a4ed898372939932", func := "synod/synodlaw10.SnapRuns", spec := "snapRuns", recurses := true, apart := false, narrowed := true }
def SnapRunsUptoSaid : Prop := snapRunsUptoRow.holds Try.pinned (OpenSpec.upto snapRunsSpec)

/-- 'synodlaw09.WalFull', WHERE WHAT IT READS IS OF BULK AT MOST 1048576: true; the input reads as it did. -/
def walFullUptoRow : OpenClaim := { program := "ytigdhdclfdojgaa", sum := "481f67b7cb53f41bb27437b7e141cfdf87a3012f25119bb1a4ed898372939932", func := "synod/synodlaw09.WalFull", spec := "walFull", recurses := true, apart := false, narrowed := true }
def WalFullUptoSaid : Prop := walFullUptoRow.holds Try.pinned (OpenSpec.upto walFullSpec)

/-- 'synodlaw09.WalTrims', WHERE WHAT IT READS IS OF BULK AT MOST 1048576: true; the input reads as it did. -/
def walTrimsUptoRow : OpenClaim := { program := "ytigdhdclfdojgaa", sum := "481f67b7cb53f41bb27437b7e141cfdf87a3012f25119bb1a4ed898372939932", func := "synod/synodlaw09.WalTrims", spec := "walTrims", recurses := true, apart := false, narrowed := true }
def WalTrimsUptoSaid : Prop := walTrimsUptoRow.holds Try.pinned (OpenSpec.upto walTrimsSpec)

/-- 'synodlaw09.WalTwice', WHERE WHAT IT READS IS OF BULK AT MOST 1048576: true; the input reads as it did. -/
def walTwiceUptoRow : OpenClaim := { program := "ytigdhdclfdojgaa", sum := "481f67b7cb53f41bb27437b7e141cfdf87a3012f25119bb1a4ed898372939932", func := "synod/synodlaw09.WalTwice", spec := "walTwice", recurses := true, apart := false, narrowed := true }
def WalTwiceUptoSaid : Prop := walTwiceUptoRow.holds Try.pinned (OpenSpec.upto walTwiceSpec)

end Rows
end Go.Proofs.Ytigdhdclfdojgaa
