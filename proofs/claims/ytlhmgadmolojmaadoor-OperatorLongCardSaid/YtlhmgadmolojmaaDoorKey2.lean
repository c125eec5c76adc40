/- Keys of texts: the contracts of key.word, key.Of and the reference's, at texts. -/
import Derived.Test.YtlhmgadmolojmaaDoorKey1
import Derived.Test.YtlhmgadmolojmaaDoorNumRef4
set_option maxRecDepth 20000
namespace Go.Proofs.YtlhmgadmolojmaaDoor
open Go.RowKit Go.Vcg
theorem idx_ref (s : ByteArray) (h : ¬ (bl s = [] ∨ 10 < s.size ∨ (bAt s 0 = 48 ∧ 1 < s.size))) : idxF (bl s) = if (rcount2 10 (bl s)).2 = false ∨ (rcount2 10 (bl s)).1 > 4294967294 then (0, false) else ((rcount2 10 (bl s)).1, true) := by
  have h0' : bl s ≠ [] := fun e => h (.inl e)
  have hpos : 0 < s.size := by rw [← bl_len]; exact List.length_pos_iff.2 h0'
  have hh : (bl s).head? = some 48 ↔ bAt s 0 = 48 := head_at hpos
  have hF : idxF (bl s) = match countF 10 (bl s) 0 with
      | some n => if n > 4294967294 then (0, false) else (n, true)
      | none => (0, false) := by
    unfold idxF
    exact if_neg (by rw [bl_len, hh]; exact h)
  have hl : (bl s).length ≤ 10 := by rw [bl_len]; omega
  have hc := count_short (bl s) 0 (by omega) (by
    have := ten_le hl
    have e : ((0 : Int) + 1) * 10 ^ (bl s).length = 10 ^ (bl s).length := by simp
    rw [e]
    exact Int.le_trans this (by decide))
  rw [hF]
  unfold rcount2
  rw [hc]
  cases h2 : countF 10 (bl s) 0 with
  | none => simp
  | some n => simp [h0']
attribute [local irreducible] G GC GQ GA GAop Calls IntKind.wrap Int.decLt Int.decLe bAt
section
variable (w : World) (μ : Mem) (hμ : MOk μ w)
include hμ
end
end Go.Proofs.YtlhmgadmolojmaaDoor
