/- The law's example of the specification: a closed run. No statement of the seat is proved here. -/
import Derived.Test.YtllilkcocfalmaaDoorTg3
set_option maxRecDepth 20000
namespace Go.Proofs.YtllilkcocfalmaaDoor
open Go.Rex Go.RowKit Go.Vcg
set_option maxRecDepth 20000
theorem noQ : ∀ f ∈ ([] : List FuncId), QuietF Tryd.prog f := fun f hf => by cases hf
theorem awake_run : runP Tryd.prog 1000 [] prA T1 400 5 [] = some (.bool true) := by kernel_rfl
theorem awake_spec {w : World} (h : TabsOk 1000 w T1) : Calls Tryd.prog 5 #[] w fun e w' => e = .returned (.bool true) ∧ Below w.heap.size w w' :=
  runP_sound mixed noQ (prA_ok h) (by decide) h awake_run
end Go.Proofs.YtllilkcocfalmaaDoor
