/-
  DERIVED. GIVEN WITH THE SEED: THE CARDS: each row of YtmihpkdhfomcgaaGreatDoorRows.lean that lists a variable, with what it lists TIED to the program's text (the seventh form; the later family's looks); each row that meets fmt, with fmt's text TOLD by the authors' own Lean function (tested against real Go, not proved from fmt's source: count such statements apart). THE CARD IS WHAT COUNTS. Prove the row's statement (the work); the ties are given (YtmihpkdhfomcgaaGreatDoorTie.lean); close each card by the builder's one call (the guide's Derived/Test/ToyasCard.lean, 'card_holds'). Laid BY PROGRAM, IN A SANDBOX (cutbox-door.mjs). By AI agents, Wed Nov 11 2026. No macro, syntax, notation, axiom, sorry.
-/
import Derived.Test.YtmihpkdhfomcgaaGreatDoorRows
import GoSem.ClaimSeven
namespace Go.Proofs.YtmihpkdhfomcgaaGreatDoor
namespace Rows

/-- THE TIED CARD OF 'pantomimelaw57.OutcomeReads'. -/
def outcomeReadsCard : Claim7 := { stood := { row := outcomeReadsRow, standIns := [], harness := (true, "ad608aede0f6635ae4e0746afbc8aade97fbf9d679abe50ea403f0ab7a57866e"), looks := true }, kinds := [], alts := [], laidByText := true, laidKinds := [.data, .data, .data, .data, .pinned], laidTests := true, laidLooks := .later }
def OutcomeReadsCardSaid : Prop := Claim7.holds Tryz.pinned (.plain (OpenSpec.ofChange outcomeReadsSpec)) outcomeReadsCard

/-- THE SECOND FORM's CARD OF 'pantomimelaw57.OutcomeReads'. -/
def outcomeReadsUptoCard : Claim7 := { stood := { row := outcomeReadsUptoRow, standIns := [], harness := (true, "ad608aede0f6635ae4e0746afbc8aade97fbf9d679abe50ea403f0ab7a57866e"), looks := true }, kinds := [], alts := [], laidByText := true, laidKinds := [.data, .data, .data, .data, .pinned], laidTests := true, laidLooks := .later }
def OutcomeReadsUptoCardSaid : Prop := Claim7.holds Tryz.pinned (.plain (OpenSpec.upto outcomeReadsSpec)) outcomeReadsUptoCard
end Rows
end Go.Proofs.YtmihpkdhfomcgaaGreatDoor
