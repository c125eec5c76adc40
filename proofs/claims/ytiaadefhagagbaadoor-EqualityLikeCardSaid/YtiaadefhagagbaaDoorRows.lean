/-
  NARROWER THAN 'FOR EVERY INPUT', by the rows' own cells (each row's printed sentence says how): EqualityTells: laid · EqualityTurns: laid · EqualityThree: laid · EqualityKinds: laid · EqualityLike: laid.
  DERIVED. THE GIVEN ROWS OF THIS SEAT. 5 by the template 'for every input the law returns true; each argument reads behind the call as it read before'; 0 by the template 'total and deterministic' (their statements: YtiaadefhagagbaaDoorTotals.lean).
  GIVEN WITH THE SEED: the statements are not yours to turn. If you find one false, say at which input.
  Laid BY PROGRAM, IN A SANDBOX (cutbox-rows.mjs): the forced cells as the released guide's own fill.sh prints them over the translation 4aea2c4f74f3b04e… (all of the seat's roots in one cut). By AI agents, Wed Nov 11 2026. No macro, syntax, notation, axiom, sorry.
-/
import Derived.Test.YtiaadefhagagbaaDoorChecked
import GoSem.PinnedTables
import GoSem.Claim
import GoSem.ClaimJoined
import GoSem.ClaimMapViews
import Derived.JoinedTies
import Derived.KernelRfl
namespace Go.Proofs.YtiaadefhagagbaaDoor
/- THE CELL 'sum', in the pinned program and in every row, IS THE sha256 OF THE DUMP (.gsa) THAT YtiaadefhagagbaaDoorProg.lean LOADS. Nothing in Lean hashes anything: it is a label: what it is worth is what the hold of that sum in a sandbox is worth. -/
noncomputable def Tryd.pinned : Pinned := { name := "ytiaadefhagagbaadoor", sum := "4aea2c4f74f3b04edc7485c86cf961d8a6ef128129b40240cde062b55b856de7", checked := Tryd.checked }
namespace Rows
def none {H : Type} : Left H := { results := [], args := [] }

/- WHAT THE LISTED PACKAGE-LEVEL VARIABLES READ AS WHEN THE CALL BEGINS. Each datum BY PROGRAM (the guide's laid-datum.mjs) off the statement by which the dump's own 'gosem.cut.vars' lays the variable. In a bare row this is a premise. The card (YtiaadefhagagbaaDoorCards.lean) ties it to the program's text. -/
def laid_unicode_utf8_acceptRanges {H : Type} : DataW H := .agg [.agg [.lit (.int .u8 128), .lit (.int .u8 191)], .agg [.lit (.int .u8 160), .lit (.int .u8 191)], .agg [.lit (.int .u8 128), .lit (.int .u8 159)], .agg [.lit (.int .u8 144), .lit (.int .u8 191)], .agg [.lit (.int .u8 128), .lit (.int .u8 143)], .agg [.lit (.int .u8 0), .lit (.int .u8 0)], .agg [.lit (.int .u8 0), .lit (.int .u8 0)], .agg [.lit (.int .u8 0), .lit (.int .u8 0)], .agg [.lit (.int .u8 0), .lit (.int .u8 0)], .agg [.lit (.int .u8 0), .lit (.int .u8 0)], .agg [.lit (.int .u8 0), .lit (.int .u8 0)], .agg [.lit (.int .u8 0), .lit (.int .u8 0)], .agg [.lit (.int .u8 0), .lit (.int .u8 0)], .agg [.lit (.int .u8 0), .lit (.int .u8 0)], .agg [.lit (.int .u8 0), .lit (.int .u8 0)], .agg [.lit (.int .u8 0), .lit (.int .u8 0)]]
/-- One of Go's own tables, pinned by name: the form's constant. -/
def laid_unicode_utf8_first : DataW Unit := Go.Pinned.utf8First

/-- 'pantomimelaw28.EqualityTells': WHATEVER THE INPUT: true; the input reads as it did. -/
def equalityTellsSpec : ChangeSpec := { name := "equalityTells", fn := fun _ => fun
  | [d1, d2] => { results := [.lit (.bool true)], args := [d1, d2] }
  | _ => none }
def equalityTellsRow : OpenClaim := { program := "ytiaadefhagagbaadoor", sum := "4aea2c4f74f3b04edc7485c86cf961d8a6ef128129b40240cde062b55b856de7", func := "pantomime/pantomimelaw28.EqualityTells", spec := "equalityTells", inPlace := ["internal/bytealg.IndexByteString", "internal/bytealg.IndexString"], named := ["unicode/utf8.first", "unicode/utf8.acceptRanges", "internal/bytealg.MaxLen"], apart := false, laid := [("unicode/utf8.acceptRanges", laid_unicode_utf8_acceptRanges), ("unicode/utf8.first", laid_unicode_utf8_first)] }
def EqualityTellsSaid : Prop := equalityTellsRow.holds Tryd.pinned (OpenSpec.ofChange equalityTellsSpec)

/-- ITS FALSE NEIGHBOUR: 'it returns false'. Refute it at one input. -/
def equalityTellsWrong : ChangeSpec := { name := "equalityTells", fn := fun _ => fun
  | [d1, d2] => { results := [.lit (.bool false)], args := [d1, d2] }
  | _ => none }
def EqualityTellsWrongFalsely : Prop := equalityTellsRow.holds Tryd.pinned (OpenSpec.ofChange equalityTellsWrong)

/-- 'pantomimelaw28.EqualityTurns': WHATEVER THE INPUT: true; the input reads as it did. -/
def equalityTurnsSpec : ChangeSpec := { name := "equalityTurns", fn := fun _ => fun
  | [d1, d2] => { results := [.lit (.bool true)], args := [d1, d2] }
  | _ => none }
def equalityTurnsRow : OpenClaim := { program := "ytiaadefhagagbaadoor", sum := "4aea2c4f74f3b04edc7485c86cf961d8a6ef128129b40240cde062b55b856de7", func := "pantomime/pantomimelaw28.EqualityTurns", spec := "equalityTurns", inPlace := ["internal/bytealg.IndexByteString", "internal/bytealg.IndexString"], named := ["unicode/utf8.first", "unicode/utf8.acceptRanges", "internal/bytealg.MaxLen"], apart := false, laid := [("unicode/utf8.acceptRanges", laid_unicode_utf8_acceptRanges), ("unicode/utf8.first", laid_unicode_utf8_first)] }
def EqualityTurnsSaid : Prop := equalityTurnsRow.holds Tryd.pinned (OpenSpec.ofChange equalityTurnsSpec)

/-- ITS FALSE NEIGHBOUR: 'it returns false'. Refute it at one input. -/
def equalityTurnsWrong : ChangeSpec := { name := "equalityTurns", fn := fun _ => fun
  | [d1, d2] => { results := [.lit (.bool false)], args := [d1, d2] }
  | _ => none }
def EqualityTurnsWrongFalsely : Prop := equalityTurnsRow.holds Tryd.pinned (OpenSpec.ofChange equalityTurnsWrong)

/-- 'pantomimelaw28.EqualityThree': WHATEVER THE INPUT: true; the input reads as it did. -/
def equalityThreeSpec : ChangeSpec := { name := "equalityThree", fn := fun _ => fun
  | [d1, d2, d3] => { results := [.lit (.bool true)], args := [d1, d2, d3] }
  | _ => none }
def equalityThreeRow : OpenClaim := { program := "ytiaadefhagagbaadoor", sum := "4aea2c4f74f3b04edc7485c86cf961d8a6ef128129b40240cde062b55b856de7", func := "pantomime/pantomimelaw28.EqualityThree", spec := "equalityThree", inPlace := ["internal/bytealg.IndexByteString", "internal/bytealg.IndexString"], named := ["unicode/utf8.first", "unicode/utf8.acceptRanges", "internal/bytealg.MaxLen"], apart := false, laid := [("unicode/utf8.acceptRanges", laid_unicode_utf8_acceptRanges), ("unicode/utf8.first", laid_unicode_utf8_first)] }
def EqualityThreeSaid : Prop := equalityThreeRow.holds Tryd.pinned (OpenSpec.ofChange equalityThreeSpec)

/-- ITS FALSE NEIGHBOUR: 'it returns false'. Refute it at one input. -/
def equalityThreeWrong : ChangeSpec := { name := "equalityThree", fn := fun _ => fun
  | [d1, d2, d3] => { results := [.lit (.bool false)], args := [d1, d2, d3] }
  | _ => none }
def EqualityThreeWrongFalsely : Prop := equalityThreeRow.holds Tryd.pinned (OpenSpec.ofChange equalityThreeWrong)

/-- 'pantomimelaw28.EqualityKinds': WHATEVER THE INPUT: true; the input reads as it did. -/
def equalityKindsSpec : ChangeSpec := { name := "equalityKinds", fn := fun _ => fun
  | [d] => { results := [.lit (.bool true)], args := [d] }
  | _ => none }
def equalityKindsRow : OpenClaim := { program := "ytiaadefhagagbaadoor", sum := "4aea2c4f74f3b04edc7485c86cf961d8a6ef128129b40240cde062b55b856de7", func := "pantomime/pantomimelaw28.EqualityKinds", spec := "equalityKinds", inPlace := ["internal/bytealg.IndexByteString", "internal/bytealg.IndexString"], named := ["unicode/utf8.first", "unicode/utf8.acceptRanges", "internal/bytealg.MaxLen"], apart := false, laid := [("unicode/utf8.acceptRanges", laid_unicode_utf8_acceptRanges), ("unicode/utf8.first", laid_unicode_utf8_first)] }
def EqualityKindsSaid : Prop := equalityKindsRow.holds Tryd.pinned (OpenSpec.ofChange equalityKindsSpec)

/-- ITS FALSE NEIGHBOUR: 'it returns false'. Refute it at one input. -/
def equalityKindsWrong : ChangeSpec := { name := "equalityKinds", fn := fun _ => fun
  | [d] => { results := [.lit (.bool false)], args := [d] }
  | _ => none }
def EqualityKindsWrongFalsely : Prop := equalityKindsRow.holds Tryd.pinned (OpenSpec.ofChange equalityKindsWrong)

/-- 'pantomimelaw28.EqualityLike': WHATEVER THE INPUT: true; the input reads as it did. -/
def equalityLikeSpec : ChangeSpec := { name := "equalityLike", fn := fun _ => fun
  | [d1, d2, d3] => { results := [.lit (.bool true)], args := [d1, d2, d3] }
  | _ => none }
def equalityLikeRow : OpenClaim := { program := "ytiaadefhagagbaadoor", sum := "4aea2c4f74f3b04edc7485c86cf961d8a6ef128129b40240cde062b55b856de7", func := "pantomime/pantomimelaw28.EqualityLike", spec := "equalityLike", inPlace := ["internal/bytealg.IndexByteString", "internal/bytealg.IndexString"], named := ["unicode/utf8.first", "unicode/utf8.acceptRanges", "internal/bytealg.MaxLen"], apart := false, laid := [("unicode/utf8.acceptRanges", laid_unicode_utf8_acceptRanges), ("unicode/utf8.first", laid_unicode_utf8_first)] }
def EqualityLikeSaid : Prop := equalityLikeRow.holds Tryd.pinned (OpenSpec.ofChange equalityLikeSpec)

/-- ITS FALSE NEIGHBOUR: 'it returns false'. Refute it at one input. -/
def equalityLikeWrong : ChangeSpec := { name := "equalityLike", fn := fun _ => fun
  | [d1, d2, d3] => { results := [.lit (.bool false)], args := [d1, d2, d3] }
  | _ => none }
def EqualityLikeWrongFalsely : Prop := equalityLikeRow.holds Tryd.pinned (OpenSpec.ofChange equalityLikeWrong)

/- THE SECOND FORM. 'bulk': how many values and letters a reading holds, each counted each time it is reached (what is shared counts as often as it is met; a slice's spare places count too). A statement '..UptoSaid' is the law's where the arguments, and the package variables that the reading takes, are together of bulk at most 1048576: NARROWER than '..Said'. Prove '..Said' where nothing that the law and all that it calls make is longer than what came in: it says more and counts as full. Else prove '..UptoSaid'. A law counts once. -/
mutual
def uptoBulk {H : Type} : DataW H → Nat
  | .lit (.string bytes) => bytes.length + 1
  | .lit _ => 1
  | .nil => 1
  | .ptr d => uptoBulk d + 1
  | .slice elems spare => uptoBulkAll elems + uptoBulkAll spare + 1
  | .agg parts => uptoBulkAll parts + 1
  | .iface _ d => uptoBulk d + 1
  | .map entries => uptoBulkEntries entries + 1
  | .held _ => 1
def uptoBulkAll {H : Type} : List (DataW H) → Nat
  | [] => 0
  | d :: r => uptoBulk d + uptoBulkAll r
def uptoBulkEntries {H : Type} : List (Lit × DataW H) → Nat
  | [] => 0
  | x :: r => uptoBulkEntry x + uptoBulkEntries r
def uptoBulkEntry {H : Type} : Lit × DataW H → Nat
  | (.string bytes, d) => bytes.length + uptoBulk d + 1
  | (_, d) => uptoBulk d + 1
 end
def uptoSmall : (H : Type) → List (DataW H) → Bool := fun _ ds => decide (uptoBulkAll ds ≤ 1048576)
def OpenSpec.upto (s : _root_.Go.ChangeSpec) : _root_.Go.OpenSpec := { _root_.Go.OpenSpec.ofChange s with cond := some uptoSmall }

/-- 'pantomimelaw28.EqualityTells', WHERE WHAT IT READS IS OF BULK AT MOST 1048576: true; the input reads as it did. -/
def equalityTellsUptoRow : OpenClaim := { program := "ytiaadefhagagbaadoor", sum := "4aea2c4f74f3b04edc7485c86cf961d8a6ef128129b40240cde062b55b856de7", func := "pantomime/pantomimelaw28.EqualityTells", spec := "equalityTells", inPlace := ["internal/bytealg.IndexByteString", "internal/bytealg.IndexString"], named := ["unicode/utf8.first", "unicode/utf8.acceptRanges", "internal/bytealg.MaxLen"], apart := false, laid := [("unicode/utf8.acceptRanges", laid_unicode_utf8_acceptRanges), ("unicode/utf8.first", laid_unicode_utf8_first)], narrowed := true }
def EqualityTellsUptoSaid : Prop := equalityTellsUptoRow.holds Tryd.pinned (OpenSpec.upto equalityTellsSpec)

/-- 'pantomimelaw28.EqualityTurns', WHERE WHAT IT READS IS OF BULK AT MOST 1048576: true; the input reads as it did. -/
def equalityTurnsUptoRow : OpenClaim := { program := "ytiaadefhagagbaadoor", sum := "4aea2c4f74f3b04edc7485c86cf961d8a6ef128129b40240cde062b55b856de7", func := "pantomime/pantomimelaw28.EqualityTurns", spec := "equalityTurns", inPlace := ["internal/bytealg.IndexByteString", "internal/bytealg.IndexString"], named := ["unicode/utf8.first", "unicode/utf8.acceptRanges", "internal/bytealg.MaxLen"], apart := false, laid := [("unicode/utf8.acceptRanges", laid_unicode_utf8_acceptRanges), ("unicode/utf8.first", laid_unicode_utf8_first)], narrowed := true }
def EqualityTurnsUptoSaid : Prop := equalityTurnsUptoRow.holds Tryd.pinned (OpenSpec.upto equalityTurnsSpec)

/-- 'pantomimelaw28.EqualityThree', WHERE WHAT IT READS IS OF BULK AT MOST 1048576: true; the input reads as it did. -/
def equalityThreeUptoRow : OpenClaim := { program := "ytiaadefhagagbaadoor", sum := "4aea2c4f74f3b04edc7485c86cf961d8a6ef128129b40240cde062b55b856de7", func := "pantomime/pantomimelaw28.EqualityThree", spec := "equalityThree", inPlace := ["internal/bytealg.IndexByteString", "internal/bytealg.IndexString"], named := ["unicode/utf8.first", "unicode/utf8.acceptRanges", "internal/bytealg.MaxLen"], apart := false, laid := [("unicode/utf8.acceptRanges", laid_unicode_utf8_acceptRanges), ("unicode/utf8.first", laid_unicode_utf8_first)], narrowed := true }
def EqualityThreeUptoSaid : Prop := equalityThreeUptoRow.holds Tryd.pinned (OpenSpec.upto equalityThreeSpec)

/-- 'pantomimelaw28.EqualityKinds', WHERE WHAT IT READS IS OF BULK AT MOST 1048576: true; the input reads as it did. -/
def equalityKindsUptoRow : OpenClaim := { program := "ytiaadefhagagbaadoor", sum := "4aea2c4f74f3b04edc7485c86cf961d8a6ef128129b40240cde062b55b856de7", func := "pantomime/pantomimelaw28.EqualityKinds", spec := "equalityKinds", inPlace := ["internal/bytealg.IndexByteString", "internal/bytealg.IndexString"], named := ["unicode/utf8.first", "unicode/utf8.acceptRanges", "internal/bytealg.MaxLen"], apart := false, laid := [("unicode/utf8.acceptRanges", laid_unicode_utf8_acceptRanges), ("unicode/utf8.first", laid_unicode_utf8_first)], narrowed := true }
def EqualityKindsUptoSaid : Prop := equalityKindsUptoRow.holds Tryd.pinned (OpenSpec.upto equalityKindsSpec)

/-- 'pantomimelaw28.EqualityLike', WHERE WHAT IT READS IS OF BULK AT MOST 1048576: true; the input reads as it did. -/
def equalityLikeUptoRow : OpenClaim := { program := "ytiaadefhagagbaadoor", sum := "4aea2c4f74f3b04edc7485c86cf961d8a6ef128129b40240cde062b55b856de7", func := "pantomime/pantomimelaw28.EqualityLike", spec := "equalityLike", inPlace := ["internal/bytealg.IndexByteString", "internal/bytealg.IndexString"], named := ["unicode/utf8.first", "unicode/utf8.acceptRanges", "internal/bytealg.MaxLen"], apart := false, laid := [("unicode/utf8.acceptRanges", laid_unicode_utf8_acceptRanges), ("unicode/utf8.first", laid_unicode_utf8_first)], narrowed := true }
def EqualityLikeUptoSaid : Prop := equalityLikeUptoRow.holds Tryd.pinned (OpenSpec.upto equalityLikeSpec)

end Rows
end Go.Proofs.YtiaadefhagagbaaDoor
