/-
  DERIVED. GIVEN WITH THE SEED: THE CARDS: each row of YtmihpkdhfomcgaaDoorRows.lean that lists a variable, with what it lists TIED to the program's text (the seventh form; the later family's looks); each row that meets fmt, with fmt's text TOLD by the authors' own Lean function (tested against real Go, not proved from fmt's source: count such statements apart). THE CARD IS WHAT COUNTS. Prove the row's statement (the work); the ties are given (YtmihpkdhfomcgaaDoorTie.lean); close each card by the builder's one call (the guide's Derived/Test/ToyasCard.lean, 'card_holds'). Laid BY PROGRAM, IN A SANDBOX (cutbox-door.mjs). By AI agents, Wed Nov 11 2026. No macro, syntax, notation, axiom, sorry.
-/
import Derived.Test.YtmihpkdhfomcgaaDoorRows
import GoSem.ClaimSeven
namespace Go.Proofs.YtmihpkdhfomcgaaDoor
namespace Rows

/-- THE TIED CARD OF 'pantomimelaw57.OutcomeBack'. -/
def outcomeBackCard : Claim7 := { stood := { row := outcomeBackRow, standIns := [], harness := (true, "a5347808022d1b25ca30feb8ab24fb68ca6ab9e6e8303f1cba359e42441a9139"), looks := true }, kinds := [], alts := [], laidByText := true, laidKinds := [.data, .data, .data, .data, .pinned], laidTests := true, laidLooks := .later }
def OutcomeBackCardSaid : Prop := Claim7.holds Tryd.pinned (.plain (OpenSpec.ofChange outcomeBackSpec)) outcomeBackCard

/-- THE TIED CARD OF 'pantomimelaw57.OutcomeLines'. -/
def outcomeLinesCard : Claim7 := { stood := { row := outcomeLinesRow, standIns := [], harness := (true, "a5347808022d1b25ca30feb8ab24fb68ca6ab9e6e8303f1cba359e42441a9139"), looks := true }, kinds := [], alts := [], laidByText := true, laidKinds := [.data, .data, .data, .data, .pinned], laidTests := true, laidLooks := .later }
def OutcomeLinesCardSaid : Prop := Claim7.holds Tryd.pinned (.plain (OpenSpec.ofChange outcomeLinesSpec)) outcomeLinesCard

/-- THE SECOND FORM's CARD OF 'pantomimelaw57.OutcomeBack'. -/
def outcomeBackUptoCard : Claim7 := { stood := { row := outcomeBackUptoRow, standIns := [], harness := (true, "a5347808022d1b25ca30feb8ab24fb68ca6ab9e6e8303f1cba359e42441a9139"), looks := true }, kinds := [], alts := [], laidByText := true, laidKinds := [.data, .data, .data, .data, .pinned], laidTests := true, laidLooks := .later }
def OutcomeBackUptoCardSaid : Prop := Claim7.holds Tryd.pinned (.plain (OpenSpec.upto outcomeBackSpec)) outcomeBackUptoCard

/-- THE SECOND FORM's CARD OF 'pantomimelaw57.OutcomeLines'. -/
def outcomeLinesUptoCard : Claim7 := { stood := { row := outcomeLinesUptoRow, standIns := [], harness := (true, "a5347808022d1b25ca30feb8ab24fb68ca6ab9e6e8303f1cba359e42441a9139"), looks := true }, kinds := [], alts := [], laidByText := true, laidKinds := [.data, .data, .data, .data, .pinned], laidTests := true, laidLooks := .later }
def OutcomeLinesUptoCardSaid : Prop := Claim7.holds Tryd.pinned (.plain (OpenSpec.upto outcomeLinesSpec)) outcomeLinesUptoCard
end Rows
end Go.Proofs.YtmihpkdhfomcgaaDoor
