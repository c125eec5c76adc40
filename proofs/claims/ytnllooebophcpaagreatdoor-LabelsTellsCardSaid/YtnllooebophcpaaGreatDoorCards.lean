/-
  DERIVED. GIVEN WITH THE SEED: THE CARDS: each row of YtnllooebophcpaaGreatDoorRows.lean that lists a variable, with what it lists TIED to the program's text (the seventh form; the later family's looks); each row that meets fmt, with fmt's text TOLD by the authors' own Lean function (tested against real Go, not proved from fmt's source: count such statements apart). THE CARD IS WHAT COUNTS. Prove the row's statement (the work); the ties are given (YtnllooebophcpaaGreatDoorTie.lean); close each card by the builder's one call (the guide's Derived/Test/ToyasCard.lean, 'card_holds'). Laid BY PROGRAM, IN A SANDBOX (cutbox-door.mjs). By AI agents, Wed Nov 11 2026. No macro, syntax, notation, axiom, sorry.
-/
import Derived.Test.YtnllooebophcpaaGreatDoorRows
import GoSem.ClaimSeven
namespace Go.Proofs.YtnllooebophcpaaGreatDoor
namespace Rows

/-- THE TIED CARD OF 'pantomimelaw13.LabelsTells'. -/
def labelsTellsCard : Claim7 := { stood := { row := labelsTellsRow, standIns := [], harness := (true, "40a831be74b806eb175fc0f7888c377bbf3c088799404d798d955ae503700b13"), looks := true }, kinds := [], alts := [], laidByText := true, laidKinds := [.listed, .data], laidTests := true, laidLooks := .later }
def LabelsTellsCardSaid : Prop := Claim7.holds Tryz.pinned (.plain (OpenSpec.ofChange labelsTellsSpec)) labelsTellsCard

/-- THE SECOND FORM's CARD OF 'pantomimelaw13.LabelsTells'. -/
def labelsTellsUptoCard : Claim7 := { stood := { row := labelsTellsUptoRow, standIns := [], harness := (true, "40a831be74b806eb175fc0f7888c377bbf3c088799404d798d955ae503700b13"), looks := true }, kinds := [], alts := [], laidByText := true, laidKinds := [.listed, .data], laidTests := true, laidLooks := .later }
def LabelsTellsUptoCardSaid : Prop := Claim7.holds Tryz.pinned (.plain (OpenSpec.upto labelsTellsSpec)) labelsTellsUptoCard
end Rows
end Go.Proofs.YtnllooebophcpaaGreatDoor
