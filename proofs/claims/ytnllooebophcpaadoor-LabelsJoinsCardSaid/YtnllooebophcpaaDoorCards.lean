/-
  DERIVED. GIVEN WITH THE SEED: THE CARDS: each row of YtnllooebophcpaaDoorRows.lean that lists a variable, with what it lists TIED to the program's text (the seventh form; the later family's looks); each row that meets fmt, with fmt's text TOLD by the authors' own Lean function (tested against real Go, not proved from fmt's source: count such statements apart). THE CARD IS WHAT COUNTS. Prove the row's statement (the work); the ties are given (YtnllooebophcpaaDoorTie.lean); close each card by the builder's one call (the guide's Derived/Test/ToyasCard.lean, 'card_holds'). Laid BY PROGRAM, IN A SANDBOX (cutbox-door.mjs). By AI agents, Wed Nov 11 2026. No macro, syntax, notation, axiom, sorry.
-/
import Derived.Test.YtnllooebophcpaaDoorRows
import GoSem.ClaimSeven
namespace Go.Proofs.YtnllooebophcpaaDoor
namespace Rows

/-- THE TIED CARD OF 'pantomimelaw13.LabelsLands'. -/
def labelsLandsCard : Claim7 := { stood := { row := labelsLandsRow, standIns := [], harness := (true, "ed4ddb28abaec928d0af4bd2bb72736a2334bf2ed4f18afba2cea36cde3408a5"), looks := true }, kinds := [], alts := [], laidByText := true, laidKinds := [.listed, .data], laidTests := true, laidLooks := .later }
def LabelsLandsCardSaid : Prop := Claim7.holds Tryd.pinned (.plain (OpenSpec.ofChange labelsLandsSpec)) labelsLandsCard

/-- THE TIED CARD OF 'pantomimelaw13.LabelsEnds'. -/
def labelsEndsCard : Claim7 := { stood := { row := labelsEndsRow, standIns := [], harness := (true, "ed4ddb28abaec928d0af4bd2bb72736a2334bf2ed4f18afba2cea36cde3408a5"), looks := true }, kinds := [], alts := [], laidByText := true, laidKinds := [.listed, .data], laidTests := true, laidLooks := .later }
def LabelsEndsCardSaid : Prop := Claim7.holds Tryd.pinned (.plain (OpenSpec.ofChange labelsEndsSpec)) labelsEndsCard

/-- THE TIED CARD OF 'pantomimelaw13.LabelsJoins'. -/
def labelsJoinsCard : Claim7 := { stood := { row := labelsJoinsRow, standIns := [], harness := (true, "ed4ddb28abaec928d0af4bd2bb72736a2334bf2ed4f18afba2cea36cde3408a5"), looks := true }, kinds := [], alts := [], laidByText := true, laidKinds := [.listed, .data], laidTests := true, laidLooks := .later }
def LabelsJoinsCardSaid : Prop := Claim7.holds Tryd.pinned (.plain (OpenSpec.ofChange labelsJoinsSpec)) labelsJoinsCard

/-- THE SECOND FORM's CARD OF 'pantomimelaw13.LabelsLands'. -/
def labelsLandsUptoCard : Claim7 := { stood := { row := labelsLandsUptoRow, standIns := [], harness := (true, "ed4ddb28abaec928d0af4bd2bb72736a2334bf2ed4f18afba2cea36cde3408a5"), looks := true }, kinds := [], alts := [], laidByText := true, laidKinds := [.listed, .data], laidTests := true, laidLooks := .later }
def LabelsLandsUptoCardSaid : Prop := Claim7.holds Tryd.pinned (.plain (OpenSpec.upto labelsLandsSpec)) labelsLandsUptoCard

/-- THE SECOND FORM's CARD OF 'pantomimelaw13.LabelsEnds'. -/
def labelsEndsUptoCard : Claim7 := { stood := { row := labelsEndsUptoRow, standIns := [], harness := (true, "ed4ddb28abaec928d0af4bd2bb72736a2334bf2ed4f18afba2cea36cde3408a5"), looks := true }, kinds := [], alts := [], laidByText := true, laidKinds := [.listed, .data], laidTests := true, laidLooks := .later }
def LabelsEndsUptoCardSaid : Prop := Claim7.holds Tryd.pinned (.plain (OpenSpec.upto labelsEndsSpec)) labelsEndsUptoCard

/-- THE SECOND FORM's CARD OF 'pantomimelaw13.LabelsJoins'. -/
def labelsJoinsUptoCard : Claim7 := { stood := { row := labelsJoinsUptoRow, standIns := [], harness := (true, "ed4ddb28abaec928d0af4bd2bb72736a2334bf2ed4f18afba2cea36cde3408a5"), looks := true }, kinds := [], alts := [], laidByText := true, laidKinds := [.listed, .data], laidTests := true, laidLooks := .later }
def LabelsJoinsUptoCardSaid : Prop := Claim7.holds Tryd.pinned (.plain (OpenSpec.upto labelsJoinsSpec)) labelsJoinsUptoCard
end Rows
end Go.Proofs.YtnllooebophcpaaDoor
