/- The laws of package equality that name no reference of Loose: their walks. -/
import Derived.Test.YtlhmgadmolojmaaDoorEq2
set_option maxRecDepth 20000
namespace Go.Proofs.YtlhmgadmolojmaaDoor
open Go.RowKit Go.Vcg
attribute [local irreducible] G GC GQ GA GAop Calls IntKind.wrap Int.decLt Int.decLe
section
variable (w : World) (μ : Mem) (hμ : MOk μ w)
include hμ
theorem strict_at (x y : V) {c : Bool} (h : strictF x y = c) : Calls Tryd.prog 13 #[.agg (encV x).toArray, .agg (encV y).toArray] w fun e w' => e = .returned (.bool c) ∧ Below w.heap.size w w' := by
  have := strict_spec w μ hμ x y
  rwa [h] at this
end
end Go.Proofs.YtlhmgadmolojmaaDoor
