/- The reference's comparisons; the law EqualityTells: its walk. -/
import Derived.Test.YtlhmgadmolojmaaDoorEq4
import Derived.Test.YtlhmgadmolojmaaDoorNumRef3
set_option maxRecDepth 20000
namespace Go.Proofs.YtlhmgadmolojmaaDoor
open Go.RowKit Go.Vcg
theorem sameF_eq (a b : V) : sameF a b = (decide (a.k = b.k) && (decide (a.n = b.n) && decide (a.s = b.s))) := by simp [sameF, eqVs, eqV]
theorem oddF_eq (v : V) : oddF v = strangeF v := by
  unfold oddF strangeF
  congr 1
attribute [local irreducible] G GC GQ GA GAop Calls IntKind.wrap Int.decLt Int.decLe
section
variable (w : World) (μ : Mem) (hμ : MOk μ w)
include hμ
end
end Go.Proofs.YtlhmgadmolojmaaDoor
