/-
  DERIVED. GIVEN WITH THE SEED: THE CARDS: each row of YtccbkihnedpjcaaDoorRows.lean that lists a variable, with what it lists TIED to the program's text (the seventh form; the later family's looks); each row that meets fmt, with fmt's text TOLD by the authors' own Lean function (tested against real Go, not proved from fmt's source: count such statements apart). THE CARD IS WHAT COUNTS. Prove the row's statement (the work); the ties are given (YtccbkihnedpjcaaDoorTie.lean); close each card by the builder's one call (the guide's Derived/Test/ToyasCard.lean, 'card_holds'). Laid BY PROGRAM, IN A SANDBOX (cutbox-door.mjs). By AI agents, Wed Nov 11 2026. No macro, syntax, notation, axiom, sorry.
-/
import Derived.Test.YtccbkihnedpjcaaDoorRows
import GoSem.ClaimSeven
namespace Go.Proofs.YtccbkihnedpjcaaDoor
namespace Rows

/-- THE TIED CARD OF 'pantomimelaw10.ScopeLists'. -/
def scopeListsCard : Claim7 := { stood := { row := scopeListsRow, standIns := [], harness := (true, "a7b4f397b9c816c42373b19502ee880bc4eb27f5c84af09f9cbd5f00ea4f288b"), looks := false }, kinds := [], alts := [], laidByText := true, laidKinds := [.listed, .data], laidTests := true, laidLooks := .later }
def ScopeListsCardSaid : Prop := Claim7.holds Tryd.pinned (.plain (OpenSpec.ofChange scopeListsSpec)) scopeListsCard

/-- THE SECOND FORM's CARD OF 'pantomimelaw10.ScopeLists'. -/
def scopeListsUptoCard : Claim7 := { stood := { row := scopeListsUptoRow, standIns := [], harness := (true, "a7b4f397b9c816c42373b19502ee880bc4eb27f5c84af09f9cbd5f00ea4f288b"), looks := false }, kinds := [], alts := [], laidByText := true, laidKinds := [.listed, .data], laidTests := true, laidLooks := .later }
def ScopeListsUptoCardSaid : Prop := Claim7.holds Tryd.pinned (.plain (OpenSpec.upto scopeListsSpec)) scopeListsUptoCard
end Rows
end Go.Proofs.YtccbkihnedpjcaaDoor
