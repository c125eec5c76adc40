/- Keys of texts: key.Of and the reference's Of, at texts. -/
import Derived.Test.YtlhmgadmolojmaaDoorKey2
set_option maxRecDepth 20000
namespace Go.Proofs.YtlhmgadmolojmaaDoor
open Go.RowKit Go.Vcg
theorem isF_text (s : ByteArray) : isF ⟨5, 0, s⟩ = false := by simp [isF, wholeF, eqVs, eqV, nanV]
attribute [local irreducible] G GC GQ GA GAop Calls IntKind.wrap Int.decLt Int.decLe bAt
section
variable (w : World) (μ : Mem) (hμ : MOk μ w)
include hμ
theorem is_text (s : ByteArray) : Calls Tryd.prog 36 #[.agg #[.int .i64 5, .int .i64 0, .string s]] w fun e w' => e = .returned (.bool false) ∧ Below w.heap.size w w' := by
  have := is_spec w μ hμ ⟨5, 0, s⟩
  rw [isF_text] at this
  exact this
end
end Go.Proofs.YtlhmgadmolojmaaDoor
