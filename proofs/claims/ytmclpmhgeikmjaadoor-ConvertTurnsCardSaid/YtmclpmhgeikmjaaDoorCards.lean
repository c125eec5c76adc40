/-
  DERIVED. GIVEN WITH THE SEED: THE CARDS: each row of YtmclpmhgeikmjaaDoorRows.lean that lists a variable, with what it lists TIED to the program's text (the seventh form; the later family's looks); each row that meets fmt, with fmt's text TOLD by the authors' own Lean function (tested against real Go, not proved from fmt's source: count such statements apart). THE CARD IS WHAT COUNTS. Prove the row's statement (the work); the ties are given (YtmclpmhgeikmjaaDoorTie.lean); close each card by the builder's one call (the guide's Derived/Test/ToyasCard.lean, 'card_holds'). Laid BY PROGRAM, IN A SANDBOX (cutbox-door.mjs). By AI agents, Wed Nov 11 2026. No macro, syntax, notation, axiom, sorry.
-/
import Derived.Test.YtmclpmhgeikmjaaDoorRows
import GoSem.ClaimSeven
namespace Go.Proofs.YtmclpmhgeikmjaaDoor
namespace Rows

/-- THE TIED CARD OF 'pantomimelaw29.ConvertNames'. -/
def convertNamesCard : Claim7 := { stood := { row := convertNamesRow, standIns := [], harness := (true, "2ee755498ce7efe987fafc06a29378f53e6c1da0b637f9f44e144687044a0dc8"), looks := false }, kinds := [], alts := [], laidByText := true, laidKinds := [.data, .data, .data, .data, .pinned], laidTests := true, laidLooks := .later }
def ConvertNamesCardSaid : Prop := Claim7.holds Tryd.pinned (.plain (OpenSpec.ofChange convertNamesSpec)) convertNamesCard

/-- THE TIED CARD OF 'pantomimelaw29.ConvertClips'. -/
def convertClipsCard : Claim7 := { stood := { row := convertClipsRow, standIns := [], harness := (true, "2ee755498ce7efe987fafc06a29378f53e6c1da0b637f9f44e144687044a0dc8"), looks := false }, kinds := [], alts := [], laidByText := true, laidKinds := [.data, .data, .data, .data, .pinned], laidTests := true, laidLooks := .later }
def ConvertClipsCardSaid : Prop := Claim7.holds Tryd.pinned (.plain (OpenSpec.ofChange convertClipsSpec)) convertClipsCard

/-- THE TIED CARD OF 'pantomimelaw29.ConvertTurns'. -/
def convertTurnsCard : Claim7 := { stood := { row := convertTurnsRow, standIns := [], harness := (true, "2ee755498ce7efe987fafc06a29378f53e6c1da0b637f9f44e144687044a0dc8"), looks := false }, kinds := [], alts := [], laidByText := true, laidKinds := [.data, .data, .data, .data, .pinned], laidTests := true, laidLooks := .later }
def ConvertTurnsCardSaid : Prop := Claim7.holds Tryd.pinned (.plain (OpenSpec.ofChange convertTurnsSpec)) convertTurnsCard

/-- THE TIED CARD OF 'pantomimelaw29.ConvertAgain'. -/
def convertAgainCard : Claim7 := { stood := { row := convertAgainRow, standIns := [], harness := (true, "2ee755498ce7efe987fafc06a29378f53e6c1da0b637f9f44e144687044a0dc8"), looks := false }, kinds := [], alts := [], laidByText := true, laidKinds := [.data, .data, .data, .data, .pinned], laidTests := true, laidLooks := .later }
def ConvertAgainCardSaid : Prop := Claim7.holds Tryd.pinned (.plain (OpenSpec.ofChange convertAgainSpec)) convertAgainCard

/-- THE SECOND FORM's CARD OF 'pantomimelaw29.ConvertNames'. -/
def convertNamesUptoCard : Claim7 := { stood := { row := convertNamesUptoRow, standIns := [], harness := (true, "2ee755498ce7efe987fafc06a29378f53e6c1da0b637f9f44e144687044a0dc8"), looks := false }, kinds := [], alts := [], laidByText := true, laidKinds := [.data, .data, .data, .data, .pinned], laidTests := true, laidLooks := .later }
def ConvertNamesUptoCardSaid : Prop := Claim7.holds Tryd.pinned (.plain (OpenSpec.upto convertNamesSpec)) convertNamesUptoCard

/-- THE SECOND FORM's CARD OF 'pantomimelaw29.ConvertClips'. -/
def convertClipsUptoCard : Claim7 := { stood := { row := convertClipsUptoRow, standIns := [], harness := (true, "2ee755498ce7efe987fafc06a29378f53e6c1da0b637f9f44e144687044a0dc8"), looks := false }, kinds := [], alts := [], laidByText := true, laidKinds := [.data, .data, .data, .data, .pinned], laidTests := true, laidLooks := .later }
def ConvertClipsUptoCardSaid : Prop := Claim7.holds Tryd.pinned (.plain (OpenSpec.upto convertClipsSpec)) convertClipsUptoCard

/-- THE SECOND FORM's CARD OF 'pantomimelaw29.ConvertTurns'. -/
def convertTurnsUptoCard : Claim7 := { stood := { row := convertTurnsUptoRow, standIns := [], harness := (true, "2ee755498ce7efe987fafc06a29378f53e6c1da0b637f9f44e144687044a0dc8"), looks := false }, kinds := [], alts := [], laidByText := true, laidKinds := [.data, .data, .data, .data, .pinned], laidTests := true, laidLooks := .later }
def ConvertTurnsUptoCardSaid : Prop := Claim7.holds Tryd.pinned (.plain (OpenSpec.upto convertTurnsSpec)) convertTurnsUptoCard

/-- THE SECOND FORM's CARD OF 'pantomimelaw29.ConvertAgain'. -/
def convertAgainUptoCard : Claim7 := { stood := { row := convertAgainUptoRow, standIns := [], harness := (true, "2ee755498ce7efe987fafc06a29378f53e6c1da0b637f9f44e144687044a0dc8"), looks := false }, kinds := [], alts := [], laidByText := true, laidKinds := [.data, .data, .data, .data, .pinned], laidTests := true, laidLooks := .later }
def ConvertAgainUptoCardSaid : Prop := Claim7.holds Tryd.pinned (.plain (OpenSpec.upto convertAgainSpec)) convertAgainUptoCard
end Rows
end Go.Proofs.YtmclpmhgeikmjaaDoor
