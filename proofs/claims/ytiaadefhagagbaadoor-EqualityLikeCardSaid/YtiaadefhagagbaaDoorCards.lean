/-
  DERIVED. GIVEN WITH THE SEED: THE CARDS: each row of YtiaadefhagagbaaDoorRows.lean that lists a variable, with what it lists TIED to the program's text (the seventh form; the later family's looks); each row that meets fmt, with fmt's text TOLD by the authors' own Lean function (tested against real Go, not proved from fmt's source: count such statements apart). THE CARD IS WHAT COUNTS. Prove the row's statement (the work); the ties are given (YtiaadefhagagbaaDoorTie.lean); close each card by the builder's one call (the guide's Derived/Test/ToyasCard.lean, 'card_holds'). Laid BY PROGRAM, IN A SANDBOX (cutbox-door.mjs). By AI agents, Wed Nov 11 2026. No macro, syntax, notation, axiom, sorry.
-/
import Derived.Test.YtiaadefhagagbaaDoorRows
import GoSem.ClaimSeven
namespace Go.Proofs.YtiaadefhagagbaaDoor
namespace Rows

/-- THE TIED CARD OF 'pantomimelaw28.EqualityTells'. -/
def equalityTellsCard : Claim7 := { stood := { row := equalityTellsRow, standIns := [], harness := (true, "eb04fcea9437a12916b79ac01afb5ba40bda891b4605838da24baea7bd1691f3"), looks := false }, kinds := [], alts := [], laidByText := true, laidKinds := [.data, .pinned], laidTests := true, laidLooks := .later }
def EqualityTellsCardSaid : Prop := Claim7.holds Tryd.pinned (.plain (OpenSpec.ofChange equalityTellsSpec)) equalityTellsCard

/-- THE TIED CARD OF 'pantomimelaw28.EqualityTurns'. -/
def equalityTurnsCard : Claim7 := { stood := { row := equalityTurnsRow, standIns := [], harness := (true, "eb04fcea9437a12916b79ac01afb5ba40bda891b4605838da24baea7bd1691f3"), looks := false }, kinds := [], alts := [], laidByText := true, laidKinds := [.data, .pinned], laidTests := true, laidLooks := .later }
def EqualityTurnsCardSaid : Prop := Claim7.holds Tryd.pinned (.plain (OpenSpec.ofChange equalityTurnsSpec)) equalityTurnsCard

/-- THE TIED CARD OF 'pantomimelaw28.EqualityThree'. -/
def equalityThreeCard : Claim7 := { stood := { row := equalityThreeRow, standIns := [], harness := (true, "eb04fcea9437a12916b79ac01afb5ba40bda891b4605838da24baea7bd1691f3"), looks := false }, kinds := [], alts := [], laidByText := true, laidKinds := [.data, .pinned], laidTests := true, laidLooks := .later }
def EqualityThreeCardSaid : Prop := Claim7.holds Tryd.pinned (.plain (OpenSpec.ofChange equalityThreeSpec)) equalityThreeCard

/-- THE TIED CARD OF 'pantomimelaw28.EqualityKinds'. -/
def equalityKindsCard : Claim7 := { stood := { row := equalityKindsRow, standIns := [], harness := (true, "eb04fcea9437a12916b79ac01afb5ba40bda891b4605838da24baea7bd1691f3"), looks := false }, kinds := [], alts := [], laidByText := true, laidKinds := [.data, .pinned], laidTests := true, laidLooks := .later }
def EqualityKindsCardSaid : Prop := Claim7.holds Tryd.pinned (.plain (OpenSpec.ofChange equalityKindsSpec)) equalityKindsCard

/-- THE TIED CARD OF 'pantomimelaw28.EqualityLike'. -/
def equalityLikeCard : Claim7 := { stood := { row := equalityLikeRow, standIns := [], harness := (true, "eb04fcea9437a12916b79ac01afb5ba40bda891b4605838da24baea7bd1691f3"), looks := false }, kinds := [], alts := [], laidByText := true, laidKinds := [.data, .pinned], laidTests := true, laidLooks := .later }
def EqualityLikeCardSaid : Prop := Claim7.holds Tryd.pinned (.plain (OpenSpec.ofChange equalityLikeSpec)) equalityLikeCard

/-- THE SECOND FORM's CARD OF 'pantomimelaw28.EqualityTells'. -/
def equalityTellsUptoCard : Claim7 := { stood := { row := equalityTellsUptoRow, standIns := [], harness := (true, "eb04fcea9437a12916b79ac01afb5ba40bda891b4605838da24baea7bd1691f3"), looks := false }, kinds := [], alts := [], laidByText := true, laidKinds := [.data, .pinned], laidTests := true, laidLooks := .later }
def EqualityTellsUptoCardSaid : Prop := Claim7.holds Tryd.pinned (.plain (OpenSpec.upto equalityTellsSpec)) equalityTellsUptoCard

/-- THE SECOND FORM's CARD OF 'pantomimelaw28.EqualityTurns'. -/
def equalityTurnsUptoCard : Claim7 := { stood := { row := equalityTurnsUptoRow, standIns := [], harness := (true, "eb04fcea9437a12916b79ac01afb5ba40bda891b4605838da24baea7bd1691f3"), looks := false }, kinds := [], alts := [], laidByText := true, laidKinds := [.data, .pinned], laidTests := true, laidLooks := .later }
def EqualityTurnsUptoCardSaid : Prop := Claim7.holds Tryd.pinned (.plain (OpenSpec.upto equalityTurnsSpec)) equalityTurnsUptoCard

/-- THE SECOND FORM's CARD OF 'pantomimelaw28.EqualityThree'. -/
def equalityThreeUptoCard : Claim7 := { stood := { row := equalityThreeUptoRow, standIns := [], harness := (true, "eb04fcea9437a12916b79ac01afb5ba40bda891b4605838da24baea7bd1691f3"), looks := false }, kinds := [], alts := [], laidByText := true, laidKinds := [.data, .pinned], laidTests := true, laidLooks := .later }
def EqualityThreeUptoCardSaid : Prop := Claim7.holds Tryd.pinned (.plain (OpenSpec.upto equalityThreeSpec)) equalityThreeUptoCard

/-- THE SECOND FORM's CARD OF 'pantomimelaw28.EqualityKinds'. -/
def equalityKindsUptoCard : Claim7 := { stood := { row := equalityKindsUptoRow, standIns := [], harness := (true, "eb04fcea9437a12916b79ac01afb5ba40bda891b4605838da24baea7bd1691f3"), looks := false }, kinds := [], alts := [], laidByText := true, laidKinds := [.data, .pinned], laidTests := true, laidLooks := .later }
def EqualityKindsUptoCardSaid : Prop := Claim7.holds Tryd.pinned (.plain (OpenSpec.upto equalityKindsSpec)) equalityKindsUptoCard

/-- THE SECOND FORM's CARD OF 'pantomimelaw28.EqualityLike'. -/
def equalityLikeUptoCard : Claim7 := { stood := { row := equalityLikeUptoRow, standIns := [], harness := (true, "eb04fcea9437a12916b79ac01afb5ba40bda891b4605838da24baea7bd1691f3"), looks := false }, kinds := [], alts := [], laidByText := true, laidKinds := [.data, .pinned], laidTests := true, laidLooks := .later }
def EqualityLikeUptoCardSaid : Prop := Claim7.holds Tryd.pinned (.plain (OpenSpec.upto equalityLikeSpec)) equalityLikeUptoCard
end Rows
end Go.Proofs.YtiaadefhagagbaaDoor
