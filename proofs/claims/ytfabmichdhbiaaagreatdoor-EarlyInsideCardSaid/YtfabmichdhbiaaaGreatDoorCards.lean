/-
  DERIVED. GIVEN WITH THE SEED: THE CARDS: each row of YtfabmichdhbiaaaGreatDoorRows.lean that lists a variable, with what it lists TIED to the program's text (the seventh form; the later family's looks); each row that meets fmt, with fmt's text TOLD by the authors' own Lean function (tested against real Go, not proved from fmt's source: count such statements apart). THE CARD IS WHAT COUNTS. Prove the row's statement (the work); the ties are given (YtfabmichdhbiaaaGreatDoorTie.lean); close each card by the builder's one call (the guide's Derived/Test/ToyasCard.lean, 'card_holds'). Laid BY PROGRAM, IN A SANDBOX (cutbox-door.mjs). By AI agents, Wed Nov 11 2026. No macro, syntax, notation, axiom, sorry.
-/
import Derived.Test.YtfabmichdhbiaaaGreatDoorRows
import GoSem.ClaimSeven
namespace Go.Proofs.YtfabmichdhbiaaaGreatDoor
namespace Rows

/-- THE TIED CARD OF 'pantomimelaw08.EarlyMore'. -/
def earlyMoreCard : Claim7 := { stood := { row := earlyMoreRow, standIns := [], harness := (true, "bba72ac63176a54430c2015bb7f1a459a3bc2be95c067201defb4287a052adf6"), looks := false }, kinds := [], alts := [], laidByText := true, laidKinds := [.listed, .data], laidTests := true, laidLooks := .later }
def EarlyMoreCardSaid : Prop := Claim7.holds Tryz.pinned (.plain (OpenSpec.ofChange earlyMoreSpec)) earlyMoreCard

/-- THE TIED CARD OF 'pantomimelaw08.EarlyInside'. -/
def earlyInsideCard : Claim7 := { stood := { row := earlyInsideRow, standIns := [], harness := (true, "bba72ac63176a54430c2015bb7f1a459a3bc2be95c067201defb4287a052adf6"), looks := false }, kinds := [], alts := [], laidByText := true, laidKinds := [.listed, .data], laidTests := true, laidLooks := .later }
def EarlyInsideCardSaid : Prop := Claim7.holds Tryz.pinned (.plain (OpenSpec.ofChange earlyInsideSpec)) earlyInsideCard

/-- THE SECOND FORM's CARD OF 'pantomimelaw08.EarlyMore'. -/
def earlyMoreUptoCard : Claim7 := { stood := { row := earlyMoreUptoRow, standIns := [], harness := (true, "bba72ac63176a54430c2015bb7f1a459a3bc2be95c067201defb4287a052adf6"), looks := false }, kinds := [], alts := [], laidByText := true, laidKinds := [.listed, .data], laidTests := true, laidLooks := .later }
def EarlyMoreUptoCardSaid : Prop := Claim7.holds Tryz.pinned (.plain (OpenSpec.upto earlyMoreSpec)) earlyMoreUptoCard

/-- THE SECOND FORM's CARD OF 'pantomimelaw08.EarlyInside'. -/
def earlyInsideUptoCard : Claim7 := { stood := { row := earlyInsideUptoRow, standIns := [], harness := (true, "bba72ac63176a54430c2015bb7f1a459a3bc2be95c067201defb4287a052adf6"), looks := false }, kinds := [], alts := [], laidByText := true, laidKinds := [.listed, .data], laidTests := true, laidLooks := .later }
def EarlyInsideUptoCardSaid : Prop := Claim7.holds Tryz.pinned (.plain (OpenSpec.upto earlyInsideSpec)) earlyInsideUptoCard
end Rows
end Go.Proofs.YtfabmichdhbiaaaGreatDoor
