/-
  DERIVED. GIVEN WITH THE SEED: THE CARDS: each row of YtllilkcocfalmaaGreatDoorRows.lean that lists a variable, with what it lists TIED to the program's text (the seventh form; the later family's looks); each row that meets fmt, with fmt's text TOLD by the authors' own Lean function (tested against real Go, not proved from fmt's source: count such statements apart). THE CARD IS WHAT COUNTS. Prove the row's statement (the work); the ties are given (YtllilkcocfalmaaGreatDoorTie.lean); close each card by the builder's one call (the guide's Derived/Test/ToyasCard.lean, 'card_holds'). Laid BY PROGRAM, IN A SANDBOX (cutbox-door.mjs). By AI agents, Wed Nov 11 2026. No macro, syntax, notation, axiom, sorry.
-/
import Derived.Test.YtllilkcocfalmaaGreatDoorRows
import GoSem.ClaimSeven
namespace Go.Proofs.YtllilkcocfalmaaGreatDoor
namespace Rows

/-- THE TIED CARD OF 'pantomimelaw04.TreeRight'. -/
def treeRightCard : Claim7 := { stood := { row := treeRightRow, standIns := [], harness := (true, "e46a27f63c46ef2d48f6782f1308c44deeda1d6a1c345f7838008b2013b591de"), looks := false }, kinds := [], alts := [], laidByText := true, laidKinds := [.data, .data, .data, .listed, .data], laidTests := true, laidLooks := .later }
def TreeRightCardSaid : Prop := Claim7.holds Tryz.pinned (.plain (OpenSpec.ofChange treeRightSpec)) treeRightCard

/-- THE TIED CARD OF 'pantomimelaw04.TreeDumps'. -/
def treeDumpsCard : Claim7 := { stood := { row := treeDumpsRow, standIns := [], harness := (true, "e46a27f63c46ef2d48f6782f1308c44deeda1d6a1c345f7838008b2013b591de"), looks := false }, kinds := [], alts := [], laidByText := true, laidKinds := [.data, .data, .data, .listed, .data], laidTests := true, laidLooks := .later }
def TreeDumpsCardSaid : Prop := Claim7.holds Tryz.pinned (.plain (OpenSpec.ofChange treeDumpsSpec)) treeDumpsCard

/-- THE SECOND FORM's CARD OF 'pantomimelaw04.TreeRight'. -/
def treeRightUptoCard : Claim7 := { stood := { row := treeRightUptoRow, standIns := [], harness := (true, "e46a27f63c46ef2d48f6782f1308c44deeda1d6a1c345f7838008b2013b591de"), looks := false }, kinds := [], alts := [], laidByText := true, laidKinds := [.data, .data, .data, .listed, .data], laidTests := true, laidLooks := .later }
def TreeRightUptoCardSaid : Prop := Claim7.holds Tryz.pinned (.plain (OpenSpec.upto treeRightSpec)) treeRightUptoCard

/-- THE SECOND FORM's CARD OF 'pantomimelaw04.TreeDumps'. -/
def treeDumpsUptoCard : Claim7 := { stood := { row := treeDumpsUptoRow, standIns := [], harness := (true, "e46a27f63c46ef2d48f6782f1308c44deeda1d6a1c345f7838008b2013b591de"), looks := false }, kinds := [], alts := [], laidByText := true, laidKinds := [.data, .data, .data, .listed, .data], laidTests := true, laidLooks := .later }
def TreeDumpsUptoCardSaid : Prop := Claim7.holds Tryz.pinned (.plain (OpenSpec.upto treeDumpsSpec)) treeDumpsUptoCard
end Rows
end Go.Proofs.YtllilkcocfalmaaGreatDoor
