/-
  No cell of these rows narrows 'for every input' (looked for: loops, veiled, ifaces, maps, wideKeys, modest, calm, conditions, laid).
  DERIVED. THE GIVEN ROWS OF THIS SEAT. 11 by the template 'for every input the law returns true; each argument reads behind the call as it read before'; 0 by the template 'total and deterministic' (their statements: YtgbfbhkpjmgipaaTotals.lean).
  GIVEN WITH THE SEED: the statements are not yours to turn. If you find one false, say at which input.
  Laid BY PROGRAM, IN A SANDBOX (cutbox-rows.mjs): the forced cells as the released guide's own fill.sh prints them over the translation 4383de9f45a9d6c2… (all of the seat's roots in one cut). By AI agents, Wed Nov 11 2026. No macro, syntax, notation, axiom, sorry.
-/
import Derived.Test.YtgbfbhkpjmgipaaChecked
import GoSem.Claim
import GoSem.ClaimJoined
import GoSem.ClaimMapViews
import Derived.JoinedTies
import Derived.KernelRfl
namespace Go.Proofs.Ytgbfbhkpjmgipaa
/- THE CELL 'sum', in the pinned program and in every row, IS THE sha256 OF THE DUMP (.gsa) THAT YtgbfbhkpjmgipaaProg.lean LOADS. Nothing in Lean hashes anything: it is a label: what it is worth is what the hold of that sum in a sandbox is worth. -/
noncomputable def Try.pinned : Pinned := { name := "ytgbfbhkpjmgipaa", sum := "4383de9f45a9d6c23f88f68268c9bfad5cbf292aa84ff106e6625dd20df2deb7", checked := Try.checked }
namespace Rows
def none {H : Type} : Left H := { results := [], args := [] }

/-- 'synodlaw02.SealSums': WHATEVER THE INPUT: true; the input reads as it did. -/
def sealSumsSpec : ChangeSpec := { name := "sealSums", fn := fun _ => fun
  | [d] => { results := [.lit (.bool true)], args := [d] }
  | _ => none }
def sealSumsRow : OpenClaim := { program := "ytgbfbhkpjmgipaa", sum := "4383de9f45a9d6c23f88f68268c9bfad5cbf292aa84ff106e6625dd20df2deb7", func := "synod/synodlaw02.SealSums", spec := "sealSums", apart := false }
def SealSumsSaid : Prop := sealSumsRow.holds Try.pinned (OpenSpec.ofChange sealSumsSpec)

/-- ITS FALSE NEIGHBOUR: 'it returns false'. Refute it at one input. -/
def sealSumsWrong : ChangeSpec := { name := "sealSums", fn := fun _ => fun
  | [d] => { results := [.lit (.bool false)], args := [d] }
  | _ => none }
def SealSumsWrongFalsely : Prop := sealSumsRow.holds Try.pinned (OpenSpec.ofChange sealSumsWrong)

/-- 'synodlaw02.SealChains': WHATEVER THE INPUT: true; the input reads as it did. -/
def sealChainsSpec : ChangeSpec := { name := "sealChains", fn := fun _ => fun
  | [d1, d2, d3, d4] => { results := [.lit (.bool true)], args := [d1, d2, d3, d4] }
  | _ => none }
def sealChainsRow : OpenClaim := { program := "ytgbfbhkpjmgipaa", sum := "4383de9f45a9d6c23f88f68268c9bfad5cbf292aa84ff106e6625dd20df2deb7", func := "synod/synodlaw02.SealChains", spec := "sealChains", apart := false }
def SealChainsSaid : Prop := sealChainsRow.holds Try.pinned (OpenSpec.ofChange sealChainsSpec)

/-- ITS FALSE NEIGHBOUR: 'it returns false'. Refute it at one input. -/
def sealChainsWrong : ChangeSpec := { name := "sealChains", fn := fun _ => fun
  | [d1, d2, d3, d4] => { results := [.lit (.bool false)], args := [d1, d2, d3, d4] }
  | _ => none }
def SealChainsWrongFalsely : Prop := sealChainsRow.holds Try.pinned (OpenSpec.ofChange sealChainsWrong)

/-- 'synodlaw08.DiskRights': WHATEVER THE INPUT: true; the input reads as it did. -/
def diskRightsSpec : ChangeSpec := { name := "diskRights", fn := fun _ => fun
  | [d] => { results := [.lit (.bool true)], args := [d] }
  | _ => none }
def diskRightsRow : OpenClaim := { program := "ytgbfbhkpjmgipaa", sum := "4383de9f45a9d6c23f88f68268c9bfad5cbf292aa84ff106e6625dd20df2deb7", func := "synod/synodlaw08.DiskRights", spec := "diskRights", apart := false }
def DiskRightsSaid : Prop := diskRightsRow.holds Try.pinned (OpenSpec.ofChange diskRightsSpec)

/-- ITS FALSE NEIGHBOUR: 'it returns false'. Refute it at one input. -/
def diskRightsWrong : ChangeSpec := { name := "diskRights", fn := fun _ => fun
  | [d] => { results := [.lit (.bool false)], args := [d] }
  | _ => none }
def DiskRightsWrongFalsely : Prop := diskRightsRow.holds Try.pinned (OpenSpec.ofChange diskRightsWrong)

/-- 'synodlaw02.SealShort': WHATEVER THE INPUT: true; the input reads as it did. -/
def sealShortSpec : ChangeSpec := { name := "sealShort", fn := fun _ => fun
  | [d1, d2] => { results := [.lit (.bool true)], args := [d1, d2] }
  | _ => none }
def sealShortRow : OpenClaim := { program := "ytgbfbhkpjmgipaa", sum := "4383de9f45a9d6c23f88f68268c9bfad5cbf292aa84ff106e6625dd20df2deb7", func := "synod/synodlaw02.SealShort", spec := "sealShort", apart := false }
def SealShortSaid : Prop := sealShortRow.holds Try.pinned (OpenSpec.ofChange sealShortSpec)

/-- ITS FALSE NEIGHBOUR: 'it returns false'. Refute it at one input. -/
def sealShortWrong : ChangeSpec := { name := "sealShort", fn := fun _ => fun
  | [d1, d2] => { results := [.lit (.bool false)], args := [d1, d2] }
  | _ => none }
def SealShortWrongFalsely : Prop := sealShortRow.holds Try.pinned (OpenSpec.ofChange sealShortWrong)

/-- 'synodlaw02.SealOpens': WHATEVER THE INPUT: true; the input reads as it did. -/
def sealOpensSpec : ChangeSpec := { name := "sealOpens", fn := fun _ => fun
  | [d] => { results := [.lit (.bool true)], args := [d] }
  | _ => none }
def sealOpensRow : OpenClaim := { program := "ytgbfbhkpjmgipaa", sum := "4383de9f45a9d6c23f88f68268c9bfad5cbf292aa84ff106e6625dd20df2deb7", func := "synod/synodlaw02.SealOpens", spec := "sealOpens", apart := false }
def SealOpensSaid : Prop := sealOpensRow.holds Try.pinned (OpenSpec.ofChange sealOpensSpec)

/-- ITS FALSE NEIGHBOUR: 'it returns false'. Refute it at one input. -/
def sealOpensWrong : ChangeSpec := { name := "sealOpens", fn := fun _ => fun
  | [d] => { results := [.lit (.bool false)], args := [d] }
  | _ => none }
def SealOpensWrongFalsely : Prop := sealOpensRow.holds Try.pinned (OpenSpec.ofChange sealOpensWrong)

/-- 'synodlaw02.SealTells': WHATEVER THE INPUT: true; the input reads as it did. -/
def sealTellsSpec : ChangeSpec := { name := "sealTells", fn := fun _ => fun
  | [d1, d2, d3] => { results := [.lit (.bool true)], args := [d1, d2, d3] }
  | _ => none }
def sealTellsRow : OpenClaim := { program := "ytgbfbhkpjmgipaa", sum := "4383de9f45a9d6c23f88f68268c9bfad5cbf292aa84ff106e6625dd20df2deb7", func := "synod/synodlaw02.SealTells", spec := "sealTells", apart := false }
def SealTellsSaid : Prop := sealTellsRow.holds Try.pinned (OpenSpec.ofChange sealTellsSpec)

/-- ITS FALSE NEIGHBOUR: 'it returns false'. Refute it at one input. -/
def sealTellsWrong : ChangeSpec := { name := "sealTells", fn := fun _ => fun
  | [d1, d2, d3] => { results := [.lit (.bool false)], args := [d1, d2, d3] }
  | _ => none }
def SealTellsWrongFalsely : Prop := sealTellsRow.holds Try.pinned (OpenSpec.ofChange sealTellsWrong)

/-- 'synodlaw01.PackWrites': WHATEVER THE INPUT: true; the input reads as it did. -/
def packWritesSpec : ChangeSpec := { name := "packWrites", fn := fun _ => fun
  | [d] => { results := [.lit (.bool true)], args := [d] }
  | _ => none }
def packWritesRow : OpenClaim := { program := "ytgbfbhkpjmgipaa", sum := "4383de9f45a9d6c23f88f68268c9bfad5cbf292aa84ff106e6625dd20df2deb7", func := "synod/synodlaw01.PackWrites", spec := "packWrites", apart := false }
def PackWritesSaid : Prop := packWritesRow.holds Try.pinned (OpenSpec.ofChange packWritesSpec)

/-- ITS FALSE NEIGHBOUR: 'it returns false'. Refute it at one input. -/
def packWritesWrong : ChangeSpec := { name := "packWrites", fn := fun _ => fun
  | [d] => { results := [.lit (.bool false)], args := [d] }
  | _ => none }
def PackWritesWrongFalsely : Prop := packWritesRow.holds Try.pinned (OpenSpec.ofChange packWritesWrong)

/-- 'synodlaw01.PackOneForm': WHATEVER THE INPUT: true; the input reads as it did. -/
def packOneFormSpec : ChangeSpec := { name := "packOneForm", fn := fun _ => fun
  | [d] => { results := [.lit (.bool true)], args := [d] }
  | _ => none }
def packOneFormRow : OpenClaim := { program := "ytgbfbhkpjmgipaa", sum := "4383de9f45a9d6c23f88f68268c9bfad5cbf292aa84ff106e6625dd20df2deb7", func := "synod/synodlaw01.PackOneForm", spec := "packOneForm", apart := false }
def PackOneFormSaid : Prop := packOneFormRow.holds Try.pinned (OpenSpec.ofChange packOneFormSpec)

/-- ITS FALSE NEIGHBOUR: 'it returns false'. Refute it at one input. -/
def packOneFormWrong : ChangeSpec := { name := "packOneForm", fn := fun _ => fun
  | [d] => { results := [.lit (.bool false)], args := [d] }
  | _ => none }
def PackOneFormWrongFalsely : Prop := packOneFormRow.holds Try.pinned (OpenSpec.ofChange packOneFormWrong)

/-- 'synodlaw01.PackReads': WHATEVER THE INPUT: true; the input reads as it did. -/
def packReadsSpec : ChangeSpec := { name := "packReads", fn := fun _ => fun
  | [d1, d2] => { results := [.lit (.bool true)], args := [d1, d2] }
  | _ => none }
def packReadsRow : OpenClaim := { program := "ytgbfbhkpjmgipaa", sum := "4383de9f45a9d6c23f88f68268c9bfad5cbf292aa84ff106e6625dd20df2deb7", func := "synod/synodlaw01.PackReads", spec := "packReads", apart := false }
def PackReadsSaid : Prop := packReadsRow.holds Try.pinned (OpenSpec.ofChange packReadsSpec)

/-- ITS FALSE NEIGHBOUR: 'it returns false'. Refute it at one input. -/
def packReadsWrong : ChangeSpec := { name := "packReads", fn := fun _ => fun
  | [d1, d2] => { results := [.lit (.bool false)], args := [d1, d2] }
  | _ => none }
def PackReadsWrongFalsely : Prop := packReadsRow.holds Try.pinned (OpenSpec.ofChange packReadsWrong)

/-- 'synodlaw01.PackBack': WHATEVER THE INPUT: true; the input reads as it did. -/
def packBackSpec : ChangeSpec := { name := "packBack", fn := fun _ => fun
  | [d] => { results := [.lit (.bool true)], args := [d] }
  | _ => none }
def packBackRow : OpenClaim := { program := "ytgbfbhkpjmgipaa", sum := "4383de9f45a9d6c23f88f68268c9bfad5cbf292aa84ff106e6625dd20df2deb7", func := "synod/synodlaw01.PackBack", spec := "packBack", apart := false }
def PackBackSaid : Prop := packBackRow.holds Try.pinned (OpenSpec.ofChange packBackSpec)

/-- ITS FALSE NEIGHBOUR: 'it returns false'. Refute it at one input. -/
def packBackWrong : ChangeSpec := { name := "packBack", fn := fun _ => fun
  | [d] => { results := [.lit (.bool false)], args := [d] }
  | _ => none }
def PackBackWrongFalsely : Prop := packBackRow.holds Try.pinned (OpenSpec.ofChange packBackWrong)

/-- 'synodlaw01.PackNil': WHATEVER THE INPUT: true; the input reads as it did. -/
def packNilSpec : ChangeSpec := { name := "packNil", fn := fun _ => fun
  | [d1, d2] => { results := [.lit (.bool true)], args := [d1, d2] }
  | _ => none }
def packNilRow : OpenClaim := { program := "ytgbfbhkpjmgipaa", sum := "4383de9f45a9d6c23f88f68268c9bfad5cbf292aa84ff106e6625dd20df2deb7", func := "synod/synodlaw01.PackNil", spec := "packNil", apart := false }
def PackNilSaid : Prop := packNilRow.holds Try.pinned (OpenSpec.ofChange packNilSpec)

/-- ITS FALSE NEIGHBOUR: 'it returns false'. Refute it at one input. -/
def packNilWrong : ChangeSpec := { name := "packNil", fn := fun _ => fun
  | [d1, d2] => { results := [.lit (.bool false)], args := [d1, d2] }
  | _ => none }
def PackNilWrongFalsely : Prop := packNilRow.holds Try.pinned (OpenSpec.ofChange packNilWrong)

/- THE SECOND FORM. 'bulk': how many values and letters a reading holds, each counted each time it is reached (what is shared counts as often as it is met; a slice's spare places count too). A statement '..UptoSaid' is the law's where the arguments, and the package variables that the reading takes, are together of bulk at most 1048576: NARROWER than '..Said'. Prove '..Said' where nothing that the law and all that it calls make is longer than what came in: it says more and counts as full. Else prove '..UptoSaid'. A law counts once. -/
mutual
def uptoBulk {H : Type} : DataW H → Nat
  | .lit (.string bytes) => bytes.length + 1
  | .lit _ => 1
  | .nil => 1
  | .ptr d => uptoBulk d + 1
  | .slice elems spare => uptoBulkAll elems + uptoBulkAll spare + 1
  | .agg parts => uptoBulkAll parts + 1
  | .iface _ d => uptoBulk d + 1
  | .map entries => uptoBulkEntries entries + 1
  | .held _ => 1
def uptoBulkAll {H : Type} : List (DataW H) → Nat
  | [] => 0
  | d :: r => uptoBulk d + uptoBulkAll r
def uptoBulkEntries {H : Type} : List (Lit × DataW H) → Nat
  | [] => 0
  | x :: r => uptoBulkEntry x + uptoBulkEntries r
def uptoBulkEntry {H : Type} : Lit × DataW H → Nat
  | (.string bytes, d) => bytes.length + uptoBulk d + 1
  | (_, d) => uptoBulk d + 1
 end
def uptoSmall : (H : Type) → List (DataW H) → Bool := fun _ ds => decide (uptoBulkAll ds ≤ 1048576)
def OpenSpec.upto (s : _root_.Go.ChangeSpec) : _root_.Go.OpenSpec := { _root_.Go.OpenSpec.ofChange s with cond := some uptoSmall }

/-- 'synodlaw02.SealSums', WHERE WHAT IT READS IS OF BULK AT MOST 1048576: true; the input reads as it did. -/
def sealSumsUptoRow : OpenClaim := { program := "ytgbfbhkpjmgipaa", sum := "4383de9f45a9d6c23f88f68268c9bfad5cbf292aa84ff106e6625dd20df2deb7", func := "synod/synodlaw02.SealSums", spec := "sealSums", apart := false, narrowed := true }
def SealSumsUptoSaid : Prop := sealSumsUptoRow.holds Try.pinned (OpenSpec.upto sealSumsSpec)

/-- 'synodlaw02.SealChains', WHERE WHAT IT READS IS OF BULK AT MOST 1048576: true; the input reads as it did. -/
def sealChainsUptoRow : OpenClaim := { program := "ytgbfbhkpjmgipaa", sum := "4383de9f45a9d6c23f88f68268c9bfad5cbf292aa84ff106e6625dd20df2deb7", func := "synod/synodlaw02.SealChains", spec := "sealChains", apart := false, narrowed := true }
def SealChainsUptoSaid : Prop := sealChainsUptoRow.holds Try.pinned (OpenSpec.upto sealChainsSpec)

/-- 'synodlaw08.DiskRights', WHERE WHAT IT READS IS OF BULK AT MOST 1048576: true; the input reads as it did. -/
def diskRightsUptoRow : OpenClaim := { program := "ytgbfbhkpjmgipaa", sum := "4383de9f45a9d6c23f88f68268c9bfad5cbf292aa84ff106e6625dd20df2deb7", func := "synod/synodlaw08.DiskRights", spec := "diskRights", apart := false, narrowed := true }
def DiskRightsUptoSaid : Prop := diskRightsUptoRow.holds Try.pinned (OpenSpec.upto diskRightsSpec)

/-- 'synodlaw02.SealShort', WHERE WHAT IT READS IS OF BULK AT MOST 1048576: true; the input reads as it did. -/
def sealShortUptoRow : OpenClaim := { program := "ytgbfbhkpjmgipaa", sum := "4383de9f45a9d6c23f88f68268c9bfad5cbf292aa84ff106e6625dd20df2deb7", func := "synod/synodlaw02.SealShort", spec := "sealShort", apart := false, narrowed := true }
def SealShortUptoSaid : Prop := sealShortUptoRow.holds Try.pinned (OpenSpec.upto sealShortSpec)

/-- 'synodlaw02.SealOpens', WHERE WHAT IT READS IS OF BULK AT MOST 1048576: true; the input reads as it did. -/
def sealOpensUptoRow : OpenClaim := { program := "ytgbfbhkpjmgipaa", sum := "4383de9f45a9d6c23f88f68268c9bfad5cbf292aa84ff106e6625dd20df2deb7", func := "synod/synodlaw02.SealOpens", spec := "sealOpens", apart := false, narrowed := true }
def SealOpensUptoSaid : Prop := sealOpensUptoRow.holds Try.pinned (OpenSpec.upto sealOpensSpec)

/-- 'synodlaw02.SealTells', WHERE WHAT IT READS IS OF BULK AT MOST 1048576: true; the input reads as it did. -/
def sealTellsUptoRow : OpenClaim := { program := "ytgbfbhkpjmgipaa", sum := "4383de9f45a9d6c23f88f68268c9bfad5cbf292aa84ff106e6625dd20df2deb7", func := "synod/synodlaw02.SealTells", spec := "sealTells", apart := false, narrowed := true }
def SealTellsUptoSaid : Prop := sealTellsUptoRow.holds Try.pinned (OpenSpec.upto sealTellsSpec)

/-- 'synodlaw01.PackWrites', WHERE WHAT IT READS IS OF BULK AT MOST 1048576: true; the input reads as it did. -/
def packWritesUptoRow : OpenClaim := { program := "ytgbfbhkpjmgipaa", sum := "4383de9f45a9d6c23f88f68268c9bfad5cbf292aa84ff106e6625dd20df2deb7", func := "synod/synodlaw01.PackWrites", spec := "packWrites", apart := false, narrowed := true }
def PackWritesUptoSaid : Prop := packWritesUptoRow.holds Try.pinned (OpenSpec.upto packWritesSpec)

/-- 'synodlaw01.PackOneForm', WHERE WHAT IT READS IS OF BULK AT MOST 1048576: true; the input reads as it did. -/
def packOneFormUptoRow : OpenClaim := { program := "ytgbfbhkpjmgipaa", sum := "4383de9f45a9d6c23f88f68268c9bfad5cbf292aa84ff106e6625dd20df2deb7", func := "synod/synodlaw01.PackOneForm", spec := "packOneForm", apart := false, narrowed := true }
def PackOneFormUptoSaid : Prop := packOneFormUptoRow.holds Try.pinned (OpenSpec.upto packOneFormSpec)

/-- 'synodlaw01.PackReads', WHERE WHAT IT READS IS OF BULK AT MOST 1048576: true; the input reads as it did. -/
def packReadsUptoRow : OpenClaim := { program := "ytgbfbhkpjmgipaa", sum := "4383de9f45a9d6c23f88f68268c9bfad5cbf292aa84ff106e6625dd20df2deb7", func := "synod/synodlaw01.PackReads", spec := "packReads", apart := false, narrowed := true }
def PackReadsUptoSaid : Prop := packReadsUptoRow.holds Try.pinned (OpenSpec.upto packReadsSpec)

/-- 'synodlaw01.PackBack', WHERE WHAT IT READS IS OF BULK AT MOST 1048576: true; the input reads as it did. -/
def packBackUptoRow : OpenClaim := { program := "ytgbfbhkpjmgipaa", sum := "4383de9f45a9d6c23f88f68268c9bfad5cbf292aa84ff106e6625dd20df2deb7", func := "synod/synodlaw01.PackBack", spec := "packBack", apart := false, narrowed := true }
def PackBackUptoSaid : Prop := packBackUptoRow.holds Try.pinned (OpenSpec.upto packBackSpec)

/-- 'synodlaw01.PackNil', WHERE WHAT IT READS IS OF BULK AT MOST 1048576: true; the input reads as it did. -/
def packNilUptoRow : OpenClaim := { program := "ytgbfbhkpjmgipaa", sum := "4383de9f45a9d6c23f88f68268c9bfad5cbf292aa84ff106e6625dd20df2deb7", func := "synod/synodlaw01.PackNil", spec := "packNil", apart := false, narrowed := true }
def PackNilUptoSaid : Prop := packNilUptoRow.holds Try.pinned (OpenSpec.upto packNilSpec)

end Rows
end Go.Proofs.Ytgbfbhkpjmgipaa
