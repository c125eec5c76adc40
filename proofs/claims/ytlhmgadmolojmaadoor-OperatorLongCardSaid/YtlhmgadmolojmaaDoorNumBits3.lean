/- The reference's Bits; the law NumBits: its walk. -/
import Derived.Test.YtlhmgadmolojmaaDoorNumBits2
import Derived.Test.YtlhmgadmolojmaaDoorNumPure
import Derived.Test.YtlhmgadmolojmaaDoorVs
set_option maxRecDepth 20000
namespace Go.Proofs.YtlhmgadmolojmaaDoor
open Go.RowKit Go.Vcg
theorem lowB_nat (r : BitVec 32) : lowB ⟨3, (r.toNat : Int), noS⟩ = r := by
  have := r.isLt
  unfold lowB
  rw [if_pos (whole_mk (by omega)), ofInt_toNat]
attribute [local irreducible] G GC GQ GA GAop Calls IntKind.wrap Int.decLt Int.decLe
end Go.Proofs.YtlhmgadmolojmaaDoor
