/-
  DERIVED. GIVEN WITH THE SEED: THE CARDS: each row of YtoclmkdfcafhfaaGreatDoorRows.lean that lists a variable, with what it lists TIED to the program's text (the seventh form; the later family's looks); each row that meets fmt, with fmt's text TOLD by the authors' own Lean function (tested against real Go, not proved from fmt's source: count such statements apart). THE CARD IS WHAT COUNTS. Prove the row's statement (the work); the ties are given (YtoclmkdfcafhfaaGreatDoorTie.lean); close each card by the builder's one call (the guide's Derived/Test/ToyasCard.lean, 'card_holds'). Laid BY PROGRAM, IN A SANDBOX (cutbox-door.mjs). By AI agents, Wed Nov 11 2026. No macro, syntax, notation, axiom, sorry.
-/
import Derived.Test.YtoclmkdfcafhfaaGreatDoorRows
import GoSem.ClaimSeven
namespace Go.Proofs.YtoclmkdfcafhfaaGreatDoor
namespace Rows

/-- THE TIED CARD OF 'pantomimelaw11.IrKinds'. -/
def irKindsCard : Claim7 := { stood := { row := irKindsRow, standIns := [], harness := (true, "0a86b7af2d580cf96cd4de5b8bb5204a4d7ff0159ad72a096bd329fcb90627b2"), looks := false }, kinds := [], alts := [], laidByText := true, laidKinds := [.data, .data, .data, .data, .pinned], laidTests := true, laidLooks := .later }
def IrKindsCardSaid : Prop := Claim7.holds Tryz.pinned (.plain (OpenSpec.ofChange irKindsSpec)) irKindsCard

/-- THE TIED CARD OF 'pantomimelaw11.IrReads'. -/
def irReadsCard : Claim7 := { stood := { row := irReadsRow, standIns := [], harness := (true, "0a86b7af2d580cf96cd4de5b8bb5204a4d7ff0159ad72a096bd329fcb90627b2"), looks := false }, kinds := [], alts := [], laidByText := true, laidKinds := [.data, .data, .data, .data, .pinned], laidTests := true, laidLooks := .later }
def IrReadsCardSaid : Prop := Claim7.holds Tryz.pinned (.plain (OpenSpec.ofChange irReadsSpec)) irReadsCard

/-- THE TIED CARD OF 'pantomimelaw11.IrRight'. -/
def irRightCard : Claim7 := { stood := { row := irRightRow, standIns := [], harness := (true, "0a86b7af2d580cf96cd4de5b8bb5204a4d7ff0159ad72a096bd329fcb90627b2"), looks := false }, kinds := [], alts := [], laidByText := true, laidKinds := [.data, .data, .data, .data, .pinned], laidTests := true, laidLooks := .later }
def IrRightCardSaid : Prop := Claim7.holds Tryz.pinned (.plain (OpenSpec.ofChange irRightSpec)) irRightCard

/-- THE TIED CARD OF 'pantomimelaw11.IrSame'. -/
def irSameCard : Claim7 := { stood := { row := irSameRow, standIns := [], harness := (true, "0a86b7af2d580cf96cd4de5b8bb5204a4d7ff0159ad72a096bd329fcb90627b2"), looks := false }, kinds := [], alts := [], laidByText := true, laidKinds := [.data, .data, .data, .data, .pinned], laidTests := true, laidLooks := .later }
def IrSameCardSaid : Prop := Claim7.holds Tryz.pinned (.plain (OpenSpec.ofChange irSameSpec)) irSameCard

/-- THE TIED CARD OF 'pantomimelaw11.IrBack'. -/
def irBackCard : Claim7 := { stood := { row := irBackRow, standIns := [], harness := (true, "0a86b7af2d580cf96cd4de5b8bb5204a4d7ff0159ad72a096bd329fcb90627b2"), looks := false }, kinds := [], alts := [], laidByText := true, laidKinds := [.data, .data, .data, .data, .pinned], laidTests := true, laidLooks := .later }
def IrBackCardSaid : Prop := Claim7.holds Tryz.pinned (.plain (OpenSpec.ofChange irBackSpec)) irBackCard

/-- THE SECOND FORM's CARD OF 'pantomimelaw11.IrKinds'. -/
def irKindsUptoCard : Claim7 := { stood := { row := irKindsUptoRow, standIns := [], harness := (true, "0a86b7af2d580cf96cd4de5b8bb5204a4d7ff0159ad72a096bd329fcb90627b2"), looks := false }, kinds := [], alts := [], laidByText := true, laidKinds := [.data, .data, .data, .data, .pinned], laidTests := true, laidLooks := .later }
def IrKindsUptoCardSaid : Prop := Claim7.holds Tryz.pinned (.plain (OpenSpec.upto irKindsSpec)) irKindsUptoCard

/-- THE SECOND FORM's CARD OF 'pantomimelaw11.IrReads'. -/
def irReadsUptoCard : Claim7 := { stood := { row := irReadsUptoRow, standIns := [], harness := (true, "0a86b7af2d580cf96cd4de5b8bb5204a4d7ff0159ad72a096bd329fcb90627b2"), looks := false }, kinds := [], alts := [], laidByText := true, laidKinds := [.data, .data, .data, .data, .pinned], laidTests := true, laidLooks := .later }
def IrReadsUptoCardSaid : Prop := Claim7.holds Tryz.pinned (.plain (OpenSpec.upto irReadsSpec)) irReadsUptoCard

/-- THE SECOND FORM's CARD OF 'pantomimelaw11.IrRight'. -/
def irRightUptoCard : Claim7 := { stood := { row := irRightUptoRow, standIns := [], harness := (true, "0a86b7af2d580cf96cd4de5b8bb5204a4d7ff0159ad72a096bd329fcb90627b2"), looks := false }, kinds := [], alts := [], laidByText := true, laidKinds := [.data, .data, .data, .data, .pinned], laidTests := true, laidLooks := .later }
def IrRightUptoCardSaid : Prop := Claim7.holds Tryz.pinned (.plain (OpenSpec.upto irRightSpec)) irRightUptoCard

/-- THE SECOND FORM's CARD OF 'pantomimelaw11.IrSame'. -/
def irSameUptoCard : Claim7 := { stood := { row := irSameUptoRow, standIns := [], harness := (true, "0a86b7af2d580cf96cd4de5b8bb5204a4d7ff0159ad72a096bd329fcb90627b2"), looks := false }, kinds := [], alts := [], laidByText := true, laidKinds := [.data, .data, .data, .data, .pinned], laidTests := true, laidLooks := .later }
def IrSameUptoCardSaid : Prop := Claim7.holds Tryz.pinned (.plain (OpenSpec.upto irSameSpec)) irSameUptoCard

/-- THE SECOND FORM's CARD OF 'pantomimelaw11.IrBack'. -/
def irBackUptoCard : Claim7 := { stood := { row := irBackUptoRow, standIns := [], harness := (true, "0a86b7af2d580cf96cd4de5b8bb5204a4d7ff0159ad72a096bd329fcb90627b2"), looks := false }, kinds := [], alts := [], laidByText := true, laidKinds := [.data, .data, .data, .data, .pinned], laidTests := true, laidLooks := .later }
def IrBackUptoCardSaid : Prop := Claim7.holds Tryz.pinned (.plain (OpenSpec.upto irBackSpec)) irBackUptoCard
end Rows
end Go.Proofs.YtoclmkdfcafhfaaGreatDoor
