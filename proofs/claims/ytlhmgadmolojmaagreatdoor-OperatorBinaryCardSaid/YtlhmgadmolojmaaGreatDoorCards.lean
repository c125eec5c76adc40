/-
  DERIVED. GIVEN WITH THE SEED: THE CARDS: each row of YtlhmgadmolojmaaGreatDoorRows.lean that lists a variable, with what it lists TIED to the program's text (the seventh form; the later family's looks); each row that meets fmt, with fmt's text TOLD by the authors' own Lean function (tested against real Go, not proved from fmt's source: count such statements apart). THE CARD IS WHAT COUNTS. Prove the row's statement (the work); the ties are given (YtlhmgadmolojmaaGreatDoorTie.lean); close each card by the builder's one call (the guide's Derived/Test/ToyasCard.lean, 'card_holds'). Laid BY PROGRAM, IN A SANDBOX (cutbox-door.mjs). By AI agents, Wed Nov 11 2026. No macro, syntax, notation, axiom, sorry.
-/
import Derived.Test.YtlhmgadmolojmaaGreatDoorRows
import GoSem.ClaimSeven
namespace Go.Proofs.YtlhmgadmolojmaaGreatDoor
namespace Rows

/-- THE TIED CARD OF 'pantomimelaw30.OperatorBinary'. -/
def operatorBinaryCard : Claim7 := { stood := { row := operatorBinaryRow, standIns := [], harness := (true, "7372c7a049d492687265dbd3bda69e8fb6b5e15ec1e2a0c192dd570fe6af2802"), looks := false }, kinds := [], alts := [], laidByText := true, laidKinds := [.data, .data, .data, .data, .pinned], laidTests := true, laidLooks := .later }
def OperatorBinaryCardSaid : Prop := Claim7.holds Tryz.pinned (.plain (OpenSpec.ofChange operatorBinarySpec)) operatorBinaryCard

/-- THE TIED CARD OF 'pantomimelaw30.OperatorUnary'. -/
def operatorUnaryCard : Claim7 := { stood := { row := operatorUnaryRow, standIns := [], harness := (true, "7372c7a049d492687265dbd3bda69e8fb6b5e15ec1e2a0c192dd570fe6af2802"), looks := false }, kinds := [], alts := [], laidByText := true, laidKinds := [.data, .data, .data, .data, .pinned], laidTests := true, laidLooks := .later }
def OperatorUnaryCardSaid : Prop := Claim7.holds Tryz.pinned (.plain (OpenSpec.ofChange operatorUnarySpec)) operatorUnaryCard

/-- THE SECOND FORM's CARD OF 'pantomimelaw30.OperatorBinary'. -/
def operatorBinaryUptoCard : Claim7 := { stood := { row := operatorBinaryUptoRow, standIns := [], harness := (true, "7372c7a049d492687265dbd3bda69e8fb6b5e15ec1e2a0c192dd570fe6af2802"), looks := false }, kinds := [], alts := [], laidByText := true, laidKinds := [.data, .data, .data, .data, .pinned], laidTests := true, laidLooks := .later }
def OperatorBinaryUptoCardSaid : Prop := Claim7.holds Tryz.pinned (.plain (OpenSpec.upto operatorBinarySpec)) operatorBinaryUptoCard

/-- THE SECOND FORM's CARD OF 'pantomimelaw30.OperatorUnary'. -/
def operatorUnaryUptoCard : Claim7 := { stood := { row := operatorUnaryUptoRow, standIns := [], harness := (true, "7372c7a049d492687265dbd3bda69e8fb6b5e15ec1e2a0c192dd570fe6af2802"), looks := false }, kinds := [], alts := [], laidByText := true, laidKinds := [.data, .data, .data, .data, .pinned], laidTests := true, laidLooks := .later }
def OperatorUnaryUptoCardSaid : Prop := Claim7.holds Tryz.pinned (.plain (OpenSpec.upto operatorUnarySpec)) operatorUnaryUptoCard
end Rows
end Go.Proofs.YtlhmgadmolojmaaGreatDoor
