/- The law's example of the specification: a closed run. No statement of the seat is proved here. -/
import Derived.Test.YtoclmkdfcafhfaaGreatDoorIr5
set_option maxRecDepth 20000
namespace Go.Proofs.YtoclmkdfcafhfaaGreatDoor
open Go.Rex Go.RowKit Go.Vcg
set_option maxRecDepth 20000
theorem lives_run : runP Tryz.prog 1000 [] pr1 [] 400 12 [] = some (.bool true) := by kernel_rfl
theorem lives_spec (w : World) (μ : Mem) (hμ : MOk μ w) (hm : MaxM μ) : Calls Tryz.prog 12 #[] w fun e w' => e = .returned (.bool true) ∧ Below w.heap.size w w' :=
  runP_sound mixed noQ (pr1_ok (hm w hμ)) (by decide) (fun g cs h => by cases h) lives_run
end Go.Proofs.YtoclmkdfcafhfaaGreatDoor
