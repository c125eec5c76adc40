/- From the row's reading of an argument to the words of the walk. No statement of the seat is proved here. -/
import Derived.Test.YtmihpkdhfomcgaaGreatDoorVe
import Derived.ProofKit
import Derived.OpenShut
import Derived.ShutString
import Derived.ChangeOld
import Derived.Deep.Slices
import Derived.Deep.Fields
set_option maxRecDepth 20000
namespace Go.Vcg
open Go.ChangeShapes Go.WideShapes Go.ChangeAt Go.RowKit Go.Deep

/-- All that is there when the call begins. -/
def memOf (w : World) : Mem := fun b => w.heap[b]?
theorem memOf_ok (w : World) : MOk (memOf w) w := fun _ _ h => h
theorem MCell.of_cell {w : World} {A : Addr} {v : Value} (h : w.cell? A = some v) : MCell (memOf w) A v := by
  unfold World.cell? at h
  split at h
  · rename_i c t f hh
    by_cases hs : A.spot.isSome
    · simp [hs] at h
    · simp [hs] at h
      exact ⟨c, t, f, hh, by simpa using hs, h⟩
  · cases h

section
variable {H : Type} {enc : TypeId × Value → H} {P : Program} {W : World} {base : Nat} {spare : Nat → Bool} {held : Bool}

end
end Go.Vcg
