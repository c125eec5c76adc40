/-
  DERIVED. GIVEN WITH THE SEED: THE CARDS: each row of YtlhmgadmolojmaaDoorRows.lean that lists a variable, with what it lists TIED to the program's text (the seventh form; the later family's looks); each row that meets fmt, with fmt's text TOLD by the authors' own Lean function (tested against real Go, not proved from fmt's source: count such statements apart). THE CARD IS WHAT COUNTS. Prove the row's statement (the work); the ties are given (YtlhmgadmolojmaaDoorTie.lean); close each card by the builder's one call (the guide's Derived/Test/ToyasCard.lean, 'card_holds'). Laid BY PROGRAM, IN A SANDBOX (cutbox-door.mjs). By AI agents, Wed Nov 11 2026. No macro, syntax, notation, axiom, sorry.
-/
import Derived.Test.YtlhmgadmolojmaaDoorRows
import GoSem.ClaimSeven
namespace Go.Proofs.YtlhmgadmolojmaaDoor
namespace Rows

/-- THE TIED CARD OF 'pantomimelaw30.OperatorTurns'. -/
def operatorTurnsCard : Claim7 := { stood := { row := operatorTurnsRow, standIns := [], harness := (true, "adc581da02b627037338824645db03bee352b126e1636db73a48f4e0da34a567"), looks := false }, kinds := [], alts := [], laidByText := true, laidKinds := [.data, .data, .data, .data, .pinned], laidTests := true, laidLooks := .later }
def OperatorTurnsCardSaid : Prop := Claim7.holds Tryd.pinned (.plain (OpenSpec.ofChange operatorTurnsSpec)) operatorTurnsCard

/-- THE TIED CARD OF 'pantomimelaw30.OperatorLong'. -/
def operatorLongCard : Claim7 := { stood := { row := operatorLongRow, standIns := [], harness := (true, "adc581da02b627037338824645db03bee352b126e1636db73a48f4e0da34a567"), looks := false }, kinds := [], alts := [], laidByText := true, laidKinds := [.data, .data, .data, .data, .pinned], laidTests := true, laidLooks := .later }
def OperatorLongCardSaid : Prop := Claim7.holds Tryd.pinned (.plain (OpenSpec.ofChange operatorLongSpec)) operatorLongCard

/-- THE SECOND FORM's CARD OF 'pantomimelaw30.OperatorTurns'. -/
def operatorTurnsUptoCard : Claim7 := { stood := { row := operatorTurnsUptoRow, standIns := [], harness := (true, "adc581da02b627037338824645db03bee352b126e1636db73a48f4e0da34a567"), looks := false }, kinds := [], alts := [], laidByText := true, laidKinds := [.data, .data, .data, .data, .pinned], laidTests := true, laidLooks := .later }
def OperatorTurnsUptoCardSaid : Prop := Claim7.holds Tryd.pinned (.plain (OpenSpec.upto operatorTurnsSpec)) operatorTurnsUptoCard

/-- THE SECOND FORM's CARD OF 'pantomimelaw30.OperatorLong'. -/
def operatorLongUptoCard : Claim7 := { stood := { row := operatorLongUptoRow, standIns := [], harness := (true, "adc581da02b627037338824645db03bee352b126e1636db73a48f4e0da34a567"), looks := false }, kinds := [], alts := [], laidByText := true, laidKinds := [.data, .data, .data, .data, .pinned], laidTests := true, laidLooks := .later }
def OperatorLongUptoCardSaid : Prop := Claim7.holds Tryd.pinned (.plain (OpenSpec.upto operatorLongSpec)) operatorLongUptoCard
end Rows
end Go.Proofs.YtlhmgadmolojmaaDoor
