/- Closed runs of package ir's row, and of the reference's Name, at some kinds. No statement of the seat is proved here. -/
import Derived.Test.YtoclmkdfcafhfaaGreatDoorIr2
set_option maxRecDepth 20000
namespace Go.Proofs.YtoclmkdfcafhfaaGreatDoor
open Go.Rex
set_option maxRecDepth 20000
theorem runs_row4 : runs 24 rowV rowT4 := by
  unfold rowT4
  repeat (first | exact trivial | refine ⟨by kernel_rfl, ?_⟩)
theorem runs_ref4 : runs 9 (fun x => strV x.1) rowT4 := by
  unfold rowT4
  repeat (first | exact trivial | refine ⟨by kernel_rfl, ?_⟩)
end Go.Proofs.YtoclmkdfcafhfaaGreatDoor
