/-
  No cell of these rows narrows 'for every input' (looked for: loops, veiled, ifaces, maps, wideKeys, modest, calm, conditions, laid).
  DERIVED. THE GIVEN ROWS OF THIS SEAT. 6 by the template 'for every input the law returns true; each argument reads behind the call as it read before'; 0 by the template 'total and deterministic' (their statements: YtgbgbokcohfnpaaGreatTotals.lean).
  GIVEN WITH THE SEED: the statements are not yours to turn. If you find one false, say at which input.
  Laid BY PROGRAM, IN A SANDBOX (cutbox-rows.mjs): the forced cells as the released guide's own fill.sh prints them over the translation 310e756e795dd835… (all of the seat's roots in one cut). By AI agents, Wed Nov 11 2026. No macro, syntax, notation, axiom, sorry.
-/
import Derived.Test.YtgbgbokcohfnpaaGreatChecked
import GoSem.Claim
import GoSem.ClaimJoined
import GoSem.ClaimMapViews
import Derived.JoinedTies
import Derived.KernelRfl
namespace Go.Proofs.YtgbgbokcohfnpaaGreat
/- THE CELL 'sum', in the pinned program and in every row, IS THE sha256 OF THE DUMP (.gsa) THAT YtgbgbokcohfnpaaGreatProg.lean LOADS. Nothing in Lean hashes anything: it is a label: what it is worth is what the hold of that sum in a sandbox is worth. -/
noncomputable def Tryz.pinned : Pinned := { name := "ytgbgbokcohfnpaagreat", sum := "310e756e795dd835958f48a213f029aadfa8d21b81a5530deb125ab8096973dd", checked := Tryz.checked }
namespace Rows
def none {H : Type} : Left H := { results := [], args := [] }

/-- 'synodlaw14.AcceptorTells': WHATEVER THE INPUT: true; the input reads as it did. -/
def acceptorTellsSpec : ChangeSpec := { name := "acceptorTells", fn := fun _ => fun
  | [d1, d2, d3] => { results := [.lit (.bool true)], args := [d1, d2, d3] }
  | _ => none }
def acceptorTellsRow : OpenClaim := { program := "ytgbgbokcohfnpaagreat", sum := "310e756e795dd835958f48a213f029aadfa8d21b81a5530deb125ab8096973dd", func := "synod/synodlaw14.AcceptorTells", spec := "acceptorTells", unfollowed := true, recurses := true, apart := false }
def AcceptorTellsSaid : Prop := acceptorTellsRow.holds Tryz.pinned (OpenSpec.ofChange acceptorTellsSpec)

/-- ITS FALSE NEIGHBOUR: 'it returns false'. Refute it at one input. -/
def acceptorTellsWrong : ChangeSpec := { name := "acceptorTells", fn := fun _ => fun
  | [d1, d2, d3] => { results := [.lit (.bool false)], args := [d1, d2, d3] }
  | _ => none }
def AcceptorTellsWrongFalsely : Prop := acceptorTellsRow.holds Tryz.pinned (OpenSpec.ofChange acceptorTellsWrong)

/-- 'synodlaw14.AcceptorReads': WHATEVER THE INPUT: true; the input reads as it did. -/
def acceptorReadsSpec : ChangeSpec := { name := "acceptorReads", fn := fun _ => fun
  | [d1, d2, d3] => { results := [.lit (.bool true)], args := [d1, d2, d3] }
  | _ => none }
def acceptorReadsRow : OpenClaim := { program := "ytgbgbokcohfnpaagreat", sum := "310e756e795dd835958f48a213f029aadfa8d21b81a5530deb125ab8096973dd", func := "synod/synodlaw14.AcceptorReads", spec := "acceptorReads", unfollowed := true, recurses := true, apart := false }
def AcceptorReadsSaid : Prop := acceptorReadsRow.holds Tryz.pinned (OpenSpec.ofChange acceptorReadsSpec)

/-- ITS FALSE NEIGHBOUR: 'it returns false'. Refute it at one input. -/
def acceptorReadsWrong : ChangeSpec := { name := "acceptorReads", fn := fun _ => fun
  | [d1, d2, d3] => { results := [.lit (.bool false)], args := [d1, d2, d3] }
  | _ => none }
def AcceptorReadsWrongFalsely : Prop := acceptorReadsRow.holds Tryz.pinned (OpenSpec.ofChange acceptorReadsWrong)

/-- 'synodlaw14.AcceptorOne': WHATEVER THE INPUT: true; the input reads as it did. -/
def acceptorOneSpec : ChangeSpec := { name := "acceptorOne", fn := fun _ => fun
  | [d] => { results := [.lit (.bool true)], args := [d] }
  | _ => none }
def acceptorOneRow : OpenClaim := { program := "ytgbgbokcohfnpaagreat", sum := "310e756e795dd835958f48a213f029aadfa8d21b81a5530deb125ab8096973dd", func := "synod/synodlaw14.AcceptorOne", spec := "acceptorOne", unfollowed := true, recurses := true, apart := false }
def AcceptorOneSaid : Prop := acceptorOneRow.holds Tryz.pinned (OpenSpec.ofChange acceptorOneSpec)

/-- ITS FALSE NEIGHBOUR: 'it returns false'. Refute it at one input. -/
def acceptorOneWrong : ChangeSpec := { name := "acceptorOne", fn := fun _ => fun
  | [d] => { results := [.lit (.bool false)], args := [d] }
  | _ => none }
def AcceptorOneWrongFalsely : Prop := acceptorOneRow.holds Tryz.pinned (OpenSpec.ofChange acceptorOneWrong)

/-- 'synodlaw14.AcceptorStands': WHATEVER THE INPUT: true; the input reads as it did. -/
def acceptorStandsSpec : ChangeSpec := { name := "acceptorStands", fn := fun _ => fun
  | [d1, d2, d3] => { results := [.lit (.bool true)], args := [d1, d2, d3] }
  | _ => none }
def acceptorStandsRow : OpenClaim := { program := "ytgbgbokcohfnpaagreat", sum := "310e756e795dd835958f48a213f029aadfa8d21b81a5530deb125ab8096973dd", func := "synod/synodlaw14.AcceptorStands", spec := "acceptorStands", unfollowed := true, recurses := true, apart := false }
def AcceptorStandsSaid : Prop := acceptorStandsRow.holds Tryz.pinned (OpenSpec.ofChange acceptorStandsSpec)

/-- ITS FALSE NEIGHBOUR: 'it returns false'. Refute it at one input. -/
def acceptorStandsWrong : ChangeSpec := { name := "acceptorStands", fn := fun _ => fun
  | [d1, d2, d3] => { results := [.lit (.bool false)], args := [d1, d2, d3] }
  | _ => none }
def AcceptorStandsWrongFalsely : Prop := acceptorStandsRow.holds Tryz.pinned (OpenSpec.ofChange acceptorStandsWrong)

/-- 'synodlaw14.AcceptorTwice': WHATEVER THE INPUT: true; the input reads as it did. -/
def acceptorTwiceSpec : ChangeSpec := { name := "acceptorTwice", fn := fun _ => fun
  | [d1, d2, d3] => { results := [.lit (.bool true)], args := [d1, d2, d3] }
  | _ => none }
def acceptorTwiceRow : OpenClaim := { program := "ytgbgbokcohfnpaagreat", sum := "310e756e795dd835958f48a213f029aadfa8d21b81a5530deb125ab8096973dd", func := "synod/synodlaw14.AcceptorTwice", spec := "acceptorTwice", unfollowed := true, recurses := true, apart := false }
def AcceptorTwiceSaid : Prop := acceptorTwiceRow.holds Tryz.pinned (OpenSpec.ofChange acceptorTwiceSpec)

/-- ITS FALSE NEIGHBOUR: 'it returns false'. Refute it at one input. -/
def acceptorTwiceWrong : ChangeSpec := { name := "acceptorTwice", fn := fun _ => fun
  | [d1, d2, d3] => { results := [.lit (.bool false)], args := [d1, d2, d3] }
  | _ => none }
def AcceptorTwiceWrongFalsely : Prop := acceptorTwiceRow.holds Tryz.pinned (OpenSpec.ofChange acceptorTwiceWrong)

/-- 'synodlaw14.AcceptorRuns': WHATEVER THE INPUT: true; the input reads as it did. -/
def acceptorRunsSpec : ChangeSpec := { name := "acceptorRuns", fn := fun _ => fun
  | [d1, d2, d3] => { results := [.lit (.bool true)], args := [d1, d2, d3] }
  | _ => none }
def acceptorRunsRow : OpenClaim := { program := "ytgbgbokcohfnpaagreat", sum := "310e756e795dd835958f48a213f029aadfa8d21b81a5530deb125ab8096973dd", func := "synod/synodlaw14.AcceptorRuns", spec := "acceptorRuns", unfollowed := true, recurses := true, apart := false }
def AcceptorRunsSaid : Prop := acceptorRunsRow.holds Tryz.pinned (OpenSpec.ofChange acceptorRunsSpec)

/-- ITS FALSE NEIGHBOUR: 'it returns false'. Refute it at one input. -/
def acceptorRunsWrong : ChangeSpec := { name := "acceptorRuns", fn := fun _ => fun
  | [d1, d2, d3] => { results := [.lit (.bool false)], args := [d1, d2, d3] }
  | _ => none }
def AcceptorRunsWrongFalsely : Prop := acceptorRunsRow.holds Tryz.pinned (OpenSpec.ofChange acceptorRunsWrong)

/- THE SECOND FORM. 'bulk': how many values and letters a reading holds, each counted each time it is reached (what is shared counts as often as it is met; a slice's spare places count too). A statement '..UptoSaid' is the law's where the arguments, and the package variables that the reading takes, are together of bulk at most 1048576: NARROWER than '..Said'. Prove '..Said' where nothing that the law and all that it calls make is longer than what came in: it says more and counts as full. Else prove '..UptoSaid'. A law counts once. -/
mutual
def uptoBulk {H : Type} : DataW H → Nat
  | .lit (.string bytes) => bytes.length + 1
  | .lit _ => 1
  | .nil => 1
  | .ptr d => uptoBulk d + 1
  | .slice elems spare => uptoBulkAll elems + uptoBulkAll spare + 1
  | .agg parts => uptoBulkAll parts + 1
  | .iface _ d => uptoBulk d + 1
  | .map entries => uptoBulkEntries entries + 1
  | .held _ => 1
def uptoBulkAll {H : Type} : List (DataW H) → Nat
  | [] => 0
  | d :: r => uptoBulk d + uptoBulkAll r
def uptoBulkEntries {H : Type} : List (Lit × DataW H) → Nat
  | [] => 0
  | x :: r => uptoBulkEntry x + uptoBulkEntries r
def uptoBulkEntry {H : Type} : Lit × DataW H → Nat
  | (.string bytes, d) => bytes.length + uptoBulk d + 1
  | (_, d) => uptoBulk d + 1
 end
def uptoSmall : (H : Type) → List (DataW H) → Bool := fun _ ds => decide (uptoBulkAll ds ≤ 1048576)
def OpenSpec.upto (s : _root_.Go.ChangeSpec) : _root_.Go.OpenSpec := { _root_.Go.OpenSpec.ofChange s with cond := some uptoSmall }

/-- 'synodlaw14.AcceptorTells', WHERE WHAT IT READS IS OF BULK AT MOST 1048576: true; the input reads as it did. -/
def acceptorTellsUptoRow : OpenClaim := { program := "ytgbgbokcohfnpaagreat", sum := "310e756e795dd835958f48a213f029aadfa8d21b81a5530deb125ab8096973dd", func := "synod/synodlaw14.AcceptorTells", spec := "acceptorTells", unfollowed := true, recurses := true, apart := false, narrowed := true }
def AcceptorTellsUptoSaid : Prop := acceptorTellsUptoRow.holds Tryz.pinned (OpenSpec.upto acceptorTellsSpec)

/-- 'synodlaw14.AcceptorReads', WHERE WHAT IT READS IS OF BULK AT MOST 1048576: true; the input reads as it did. -/
def acceptorReadsUptoRow : OpenClaim := { program := "ytgbgbokcohfnpaagreat", sum := "310e756e795dd835958f48a213f029aadfa8d21b81a5530deb125ab8096973dd", func := "synod/synodlaw14.AcceptorReads", spec := "acceptorReads", unfollowed := true, recurses := true, apart := false, narrowed := true }
def AcceptorReadsUptoSaid : Prop := acceptorReadsUptoRow.holds Tryz.pinned (OpenSpec.upto acceptorReadsSpec)

/-- 'synodlaw14.AcceptorOne', WHERE WHAT IT READS IS OF BULK AT MOST 1048576: true; the input reads as it did. -/
def acceptorOneUptoRow : OpenClaim := { program := "ytgbgbokcohfnpaagreat", sum := "310e756e795dd835958f48a213f029aadfa8d21b81a5530deb125ab8096973dd", func := "synod/synodlaw14.AcceptorOne", spec := "acceptorOne", unfollowed := true, recurses := true, apart := false, narrowed := true }
def AcceptorOneUptoSaid : Prop := acceptorOneUptoRow.holds Tryz.pinned (OpenSpec.upto acceptorOneSpec)

/-- 'synodlaw14.AcceptorStands', WHERE WHAT IT READS IS OF BULK AT MOST 1048576: true; the input reads as it did. -/
def acceptorStandsUptoRow : OpenClaim := { program := "ytgbgbokcohfnpaagreat", sum := "310e756e795dd835958f48a213f029aadfa8d21b81a5530deb125ab8096973dd", func := "synod/synodlaw14.AcceptorStands", spec := "acceptorStands", unfollowed := true, recurses := true, apart := false, narrowed := true }
def AcceptorStandsUptoSaid : Prop := acceptorStandsUptoRow.holds Tryz.pinned (OpenSpec.upto acceptorStandsSpec)

/-- 'synodlaw14.AcceptorTwice', WHERE WHAT IT READS IS OF BULK AT MOST 1048576: true; the input reads as it did. -/
def acceptorTwiceUptoRow : OpenClaim := { program := "ytgbgbokcohfnpaagreat", sum := "310e756e795dd835958f48a213f029aadfa8d21b81a5530deb125ab8096973dd", func := "synod/synodlaw14.AcceptorTwice", spec := "acceptorTwice", unfollowed := true, recurses := true, apart := false, narrowed := true }
def AcceptorTwiceUptoSaid : Prop := acceptorTwiceUptoRow.holds Tryz.pinned (OpenSpec.upto acceptorTwiceSpec)

/-- 'synodlaw14.AcceptorRuns', WHERE WHAT IT READS IS OF BULK AT MOST 1048576: true; the input reads as it did. -/
def acceptorRunsUptoRow : OpenClaim := { program := "ytgbgbokcohfnpaagreat", sum := "310e756e795dd835958f48a213f029aadfa8d21b81a5530deb125ab8096973dd", func := "synod/synodlaw14.AcceptorRuns", spec := "acceptorRuns", unfollowed := true, recurses := true, apart := false, narrowed := true }
def AcceptorRunsUptoSaid : Prop := acceptorRunsUptoRow.holds Tryz.pinned (OpenSpec.upto acceptorRunsSpec)

end Rows
end Go.Proofs.YtgbgbokcohfnpaaGreat
