/-
  DERIVED. GIVEN WITH THE SEED: THE CARDS: each row of YtglaahejijfclaaDoorRows.lean that lists a variable, with what it lists TIED to the program's text (the seventh form; the later family's looks); each row that meets fmt, with fmt's text TOLD by the authors' own Lean function (tested against real Go, not proved from fmt's source: count such statements apart). THE CARD IS WHAT COUNTS. Prove the row's statement (the work); the ties are given (YtglaahejijfclaaDoorTie.lean); close each card by the builder's one call (the guide's Derived/Test/ToyasCard.lean, 'card_holds'). Laid BY PROGRAM, IN A SANDBOX (cutbox-door.mjs). By AI agents, Wed Nov 11 2026. No macro, syntax, notation, axiom, sorry.
-/
import Derived.Test.YtglaahejijfclaaDoorRows
import GoSem.ClaimSeven
namespace Go.Proofs.YtglaahejijfclaaDoor
namespace Rows

/-- THE TIED CARD OF 'synodlaw03.GaussRing'. -/
def gaussRingCard : Claim7 := { stood := { row := gaussRingRow, standIns := [], harness := (true, "68f9b81840dcfba06988e222c4b5950bd518d71cb0eafd11c96aefff664c164e"), looks := true }, kinds := [], alts := [], laidByText := true, laidKinds := [.data, .data, .data], laidTests := true, laidLooks := .later }
def GaussRingCardSaid : Prop := Claim7.holds Tryd.pinned (.plain (OpenSpec.ofChange gaussRingSpec)) gaussRingCard

/-- THE TIED CARD OF 'synodlaw03.GaussWhole'. -/
def gaussWholeCard : Claim7 := { stood := { row := gaussWholeRow, standIns := [], harness := (true, "68f9b81840dcfba06988e222c4b5950bd518d71cb0eafd11c96aefff664c164e"), looks := true }, kinds := [], alts := [], laidByText := true, laidKinds := [.data, .data, .data], laidTests := true, laidLooks := .later }
def GaussWholeCardSaid : Prop := Claim7.holds Tryd.pinned (.plain (OpenSpec.ofChange gaussWholeSpec)) gaussWholeCard

/-- THE TIED CARD OF 'synodlaw03.GaussTexts'. -/
def gaussTextsCard : Claim7 := { stood := { row := gaussTextsRow, standIns := [], harness := (true, "68f9b81840dcfba06988e222c4b5950bd518d71cb0eafd11c96aefff664c164e"), looks := true }, kinds := [], alts := [], laidByText := true, laidKinds := [.data, .data, .data, .data, .sentinel, .sentinel, .pinned], laidTests := true, laidLooks := .later }
def GaussTextsCardSaid : Prop := Claim7.holds Tryd.pinned (.plain (OpenSpec.ofChange gaussTextsSpec)) gaussTextsCard

/-- THE SECOND FORM's CARD OF 'synodlaw03.GaussRing'. -/
def gaussRingUptoCard : Claim7 := { stood := { row := gaussRingUptoRow, standIns := [], harness := (true, "68f9b81840dcfba06988e222c4b5950bd518d71cb0eafd11c96aefff664c164e"), looks := true }, kinds := [], alts := [], laidByText := true, laidKinds := [.data, .data, .data], laidTests := true, laidLooks := .later }
def GaussRingUptoCardSaid : Prop := Claim7.holds Tryd.pinned (.plain (OpenSpec.upto gaussRingSpec)) gaussRingUptoCard

/-- THE SECOND FORM's CARD OF 'synodlaw03.GaussWhole'. -/
def gaussWholeUptoCard : Claim7 := { stood := { row := gaussWholeUptoRow, standIns := [], harness := (true, "68f9b81840dcfba06988e222c4b5950bd518d71cb0eafd11c96aefff664c164e"), looks := true }, kinds := [], alts := [], laidByText := true, laidKinds := [.data, .data, .data], laidTests := true, laidLooks := .later }
def GaussWholeUptoCardSaid : Prop := Claim7.holds Tryd.pinned (.plain (OpenSpec.upto gaussWholeSpec)) gaussWholeUptoCard

/-- THE SECOND FORM's CARD OF 'synodlaw03.GaussTexts'. -/
def gaussTextsUptoCard : Claim7 := { stood := { row := gaussTextsUptoRow, standIns := [], harness := (true, "68f9b81840dcfba06988e222c4b5950bd518d71cb0eafd11c96aefff664c164e"), looks := true }, kinds := [], alts := [], laidByText := true, laidKinds := [.data, .data, .data, .data, .sentinel, .sentinel, .pinned], laidTests := true, laidLooks := .later }
def GaussTextsUptoCardSaid : Prop := Claim7.holds Tryd.pinned (.plain (OpenSpec.upto gaussTextsSpec)) gaussTextsUptoCard
end Rows
end Go.Proofs.YtglaahejijfclaaDoor
