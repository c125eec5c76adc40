/-
  DERIVED. GIVEN WITH THE SEED: THE CARDS: each row of YtimghlognaajkaaDoorRows.lean that lists a variable, with what it lists TIED to the program's text (the seventh form; the later family's looks); each row that meets fmt, with fmt's text TOLD by the authors' own Lean function (tested against real Go, not proved from fmt's source: count such statements apart). THE CARD IS WHAT COUNTS. Prove the row's statement (the work); the ties are given (YtimghlognaajkaaDoorTie.lean); close each card by the builder's one call (the guide's Derived/Test/ToyasCard.lean, 'card_holds'). Laid BY PROGRAM, IN A SANDBOX (cutbox-door.mjs). By AI agents, Wed Nov 11 2026. No macro, syntax, notation, axiom, sorry.
-/
import Derived.Test.YtimghlognaajkaaDoorRows
import GoSem.ClaimSeven
namespace Go.Proofs.YtimghlognaajkaaDoor
namespace Rows

/-- THE TIED CARD OF 'pantomimelaw08.EarlyTwice'. -/
def earlyTwiceCard : Claim7 := { stood := { row := earlyTwiceRow, standIns := [], harness := (true, "f9210055d78a3c0b76ffbda524e5c119f294c60b7711dfe3a46b923f3257b70b"), looks := false }, kinds := [], alts := [], laidByText := true, laidKinds := [.listed, .data], laidTests := true, laidLooks := .later }
def EarlyTwiceCardSaid : Prop := Claim7.holds Tryd.pinned (.plain (OpenSpec.ofChange earlyTwiceSpec)) earlyTwiceCard

/-- THE SECOND FORM's CARD OF 'pantomimelaw08.EarlyTwice'. -/
def earlyTwiceUptoCard : Claim7 := { stood := { row := earlyTwiceUptoRow, standIns := [], harness := (true, "f9210055d78a3c0b76ffbda524e5c119f294c60b7711dfe3a46b923f3257b70b"), looks := false }, kinds := [], alts := [], laidByText := true, laidKinds := [.listed, .data], laidTests := true, laidLooks := .later }
def EarlyTwiceUptoCardSaid : Prop := Claim7.holds Tryd.pinned (.plain (OpenSpec.upto earlyTwiceSpec)) earlyTwiceUptoCard
end Rows
end Go.Proofs.YtimghlognaajkaaDoor
