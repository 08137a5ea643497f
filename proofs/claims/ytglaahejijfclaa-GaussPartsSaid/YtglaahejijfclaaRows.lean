/-
  No cell of these rows narrows 'for every input' (looked for: loops, veiled, ifaces, maps, wideKeys, modest, calm, conditions, laid).
  DERIVED. THE GIVEN ROWS OF THIS SEAT. 3 by the template 'for every input the law returns true; each argument reads behind the call as it read before'; 0 by the template 'total and deterministic' (their statements: YtglaahejijfclaaTotals.lean).
  GIVEN WITH THE SEED: the statements are not yours to turn. If you find one false, say at which input.
  Laid BY PROGRAM, IN A SANDBOX (cutbox-rows.mjs): the forced cells as the released guide's own fill.sh prints them over the translation 1aa25a3825182b6a… (all of the seat's roots in one cut). By AI agents, Wed Nov 11 2026. No macro, syntax, notation, axiom, sorry.
-/
import Derived.Test.YtglaahejijfclaaChecked
import GoSem.Claim
import GoSem.ClaimJoined
import GoSem.ClaimMapViews
import Derived.JoinedTies
import Derived.KernelRfl
namespace Go.Proofs.Ytglaahejijfclaa
/- THE CELL 'sum', in the pinned program and in every row, IS THE sha256 OF THE DUMP (.gsa) THAT YtglaahejijfclaaProg.lean LOADS. Nothing in Lean hashes anything: it is a label: what it is worth is what the hold of that sum in a sandbox is worth. -/
noncomputable def Try.pinned : Pinned := { name := "ytglaahejijfclaa", sum := "1aa25a3825182b6a103dc298d29add39aab4318cb679010f91c976a35cb67f14", checked := Try.checked }
namespace Rows
def none {H : Type} : Left H := { results := [], args := [] }

/-- 'synodlaw03.GaussParts': WHATEVER THE INPUT: true; the input reads as it did. -/
def gaussPartsSpec : ChangeSpec := { name := "gaussParts", fn := fun _ => fun
  | [d1, d2] => { results := [.lit (.bool true)], args := [d1, d2] }
  | _ => none }
def gaussPartsRow : OpenClaim := { program := "ytglaahejijfclaa", sum := "1aa25a3825182b6a103dc298d29add39aab4318cb679010f91c976a35cb67f14", func := "synod/synodlaw03.GaussParts", spec := "gaussParts", inPlace := ["math.archTrunc", "math.Float64bits", "math.Float64frombits"], apart := false }
def GaussPartsSaid : Prop := gaussPartsRow.holds Try.pinned (OpenSpec.ofChange gaussPartsSpec)

/-- ITS FALSE NEIGHBOUR: 'it returns false'. Refute it at one input. -/
def gaussPartsWrong : ChangeSpec := { name := "gaussParts", fn := fun _ => fun
  | [d1, d2] => { results := [.lit (.bool false)], args := [d1, d2] }
  | _ => none }
def GaussPartsWrongFalsely : Prop := gaussPartsRow.holds Try.pinned (OpenSpec.ofChange gaussPartsWrong)

/-- 'synodlaw03.GaussReckons': WHATEVER THE INPUT: true; the input reads as it did. -/
def gaussReckonsSpec : ChangeSpec := { name := "gaussReckons", fn := fun _ => fun
  | [d1, d2, d3, d4, d5] => { results := [.lit (.bool true)], args := [d1, d2, d3, d4, d5] }
  | _ => none }
def gaussReckonsRow : OpenClaim := { program := "ytglaahejijfclaa", sum := "1aa25a3825182b6a103dc298d29add39aab4318cb679010f91c976a35cb67f14", func := "synod/synodlaw03.GaussReckons", spec := "gaussReckons", inPlace := ["math.archTrunc", "math.Float64bits", "math.Float64frombits"], apart := false }
def GaussReckonsSaid : Prop := gaussReckonsRow.holds Try.pinned (OpenSpec.ofChange gaussReckonsSpec)

/-- ITS FALSE NEIGHBOUR: 'it returns false'. Refute it at one input. -/
def gaussReckonsWrong : ChangeSpec := { name := "gaussReckons", fn := fun _ => fun
  | [d1, d2, d3, d4, d5] => { results := [.lit (.bool false)], args := [d1, d2, d3, d4, d5] }
  | _ => none }
def GaussReckonsWrongFalsely : Prop := gaussReckonsRow.holds Try.pinned (OpenSpec.ofChange gaussReckonsWrong)

/-- 'synodlaw03.GaussRules': WHATEVER THE INPUT: true; the input reads as it did. -/
def gaussRulesSpec : ChangeSpec := { name := "gaussRules", fn := fun _ => fun
  | [d1, d2, d3, d4, d5] => { results := [.lit (.bool true)], args := [d1, d2, d3, d4, d5] }
  | _ => none }
def gaussRulesRow : OpenClaim := { program := "ytglaahejijfclaa", sum := "1aa25a3825182b6a103dc298d29add39aab4318cb679010f91c976a35cb67f14", func := "synod/synodlaw03.GaussRules", spec := "gaussRules", inPlace := ["math.archTrunc", "math.Float64bits", "math.Float64frombits"], apart := false }
def GaussRulesSaid : Prop := gaussRulesRow.holds Try.pinned (OpenSpec.ofChange gaussRulesSpec)

/-- ITS FALSE NEIGHBOUR: 'it returns false'. Refute it at one input. -/
def gaussRulesWrong : ChangeSpec := { name := "gaussRules", fn := fun _ => fun
  | [d1, d2, d3, d4, d5] => { results := [.lit (.bool false)], args := [d1, d2, d3, d4, d5] }
  | _ => none }
def GaussRulesWrongFalsely : Prop := gaussRulesRow.holds Try.pinned (OpenSpec.ofChange gaussRulesWrong)

/- THE SECOND FORM. 'bulk': how many values and letters a reading holds, each counted each time it is reached (what is shared counts as often as it is met; a slice's spare places count too). A statement '..UptoSaid' is the law's where the arguments, and the package variables that the reading takes, are together of bulk at most 1048576: NARROWER than '..Said'. Prove '..Said' where nothing that the law and all that it calls make is longer than what came in: it says more and counts as full. Else prove '..UptoSaid'. A law counts once. -/
mutual
def uptoBulk {H : Type} : DataW H → Nat
  | .lit (.string bytes) => bytes.length + 1
  | .lit _ => 1
  | .nil => 1
  | .ptr d => uptoBulk d + 1
  | .slice elems spare => uptoBulkAll elems + uptoBulkAll spare + 1
  | .agg parts => uptoBulkAll parts + 1
  | .iface _ d => uptoBulk d + 1
  | .map entries => uptoBulkEntries entries + 1
  | .held _ => 1
def uptoBulkAll {H : Type} : List (DataW H) → Nat
  | [] => 0
  | d :: r => uptoBulk d + uptoBulkAll r
def uptoBulkEntries {H : Type} : List (Lit × DataW H) → Nat
  | [] => 0
  | x :: r => uptoBulkEntry x + uptoBulkEntries r
def uptoBulkEntry {H : Type} : Lit × DataW H → Nat
  | (.string bytes, d) => bytes.length + uptoBulk d + 1
  | (_, d) => uptoBulk d + 1
 end
def uptoSmall : (H : Type) → List (DataW H) → Bool := fun _ ds => decide (uptoBulkAll ds ≤ 1048576)
def OpenSpec.upto (s : _root_.Go.ChangeSpec) : _root_.Go.OpenSpec := { _root_.Go.OpenSpec.ofChange s with cond := some uptoSmall }

/-- 'synodlaw03.GaussParts', WHERE WHAT IT READS IS OF BULK AT MOST 1048576: true; the input reads as it did. -/
def gaussPartsUptoRow : OpenClaim := { program := "ytglaahejijfclaa", sum := "1aa25a3825182b6a103dc298d29add39aab4318cb679010f91c976a35cb67f14", func := "synod/synodlaw03.GaussParts", spec := "gaussParts", inPlace := ["math.archTrunc", "math.Float64bits", "math.Float64frombits"], apart := false, narrowed := true }
def GaussPartsUptoSaid : Prop := gaussPartsUptoRow.holds Try.pinned (OpenSpec.upto gaussPartsSpec)

/-- 'synodlaw03.GaussReckons', WHERE WHAT IT READS IS OF BULK AT MOST 1048576: true; the input reads as it did. -/
def gaussReckonsUptoRow : OpenClaim := { program := "ytglaahejijfclaa", sum := "1aa25a3825182b6a103dc298d29add39aab4318cb679010f91c976a35cb67f14", func := "synod/synodlaw03.GaussReckons", spec := "gaussReckons", inPlace := ["math.archTrunc", "math.Float64bits", "math.Float64frombits"], apart := false, narrowed := true }
def GaussReckonsUptoSaid : Prop := gaussReckonsUptoRow.holds Try.pinned (OpenSpec.upto gaussReckonsSpec)

/-- 'synodlaw03.GaussRules', WHERE WHAT IT READS IS OF BULK AT MOST 1048576: true; the input reads as it did. -/
def gaussRulesUptoRow : OpenClaim := { program := "ytglaahejijfclaa", sum := "1aa25a3825182b6a103dc298d29add39aab4318cb679010f91c976a35cb67f14", func := "synod/synodlaw03.GaussRules", spec := "gaussRules", inPlace := ["math.archTrunc", "math.Float64bits", "math.Float64frombits"], apart := false, narrowed := true }
def GaussRulesUptoSaid : Prop := gaussRulesUptoRow.holds Try.pinned (OpenSpec.upto gaussRulesSpec)

end Rows
end Go.Proofs.Ytglaahejijfclaa
