/- The laws EqualityTurns and EqualityLike: their walks. -/
import Derived.Test.YtlhmgadmolojmaaDoorEq3
set_option maxRecDepth 20000
namespace Go.Proofs.YtlhmgadmolojmaaDoor
open Go.RowKit Go.Vcg

theorem strictF_comm (a b : V) : strictF a b = strictF b a := by
  cases h : sameF a b
  · have h' : sameF b a = false := by rw [sameF_comm]; exact h
    unfold strictF; rw [h, h']; rfl
  · rw [sameF_iff.1 h]
theorem looseF_comm (a b : V) : looseF a b = looseF b a := by
  unfold looseF
  by_cases hk : a.k = b.k
  · rw [if_pos hk, if_pos hk.symm, strictF_comm]
  · rw [if_neg hk, if_neg (show ¬ b.k = a.k from fun h => hk h.symm), Bool.or_comm (noneF a), Bool.and_comm (noneF a), Bool.or_comm (strangeF a), strictF_comm (numberF a)]
    simp only [or_comm (a := a.k = 7), or_comm (a := a.k = 6)]
theorem strictF_eq {a b : V} (h : strictF a b = true) : a = b ∧ a.k ≠ 4 := by
  unfold strictF at h
  simp only [Bool.and_eq_true, decide_eq_true_eq] at h
  exact ⟨sameF_iff.1 h.1, h.2⟩
theorem sameF_self (a : V) : sameF a a = true := sameF_iff.2 rfl
theorem strictF_self (a : V) : strictF a a = decide (a.k ≠ 4) := by unfold strictF; rw [sameF_self]; rfl
theorem looseF_self {a : V} (h : a.k ≠ 4) : looseF a a = (true, true) := by
  unfold looseF
  rw [if_pos rfl, strictF_self]
  simp [h]

attribute [local irreducible] G GC GQ GA GAop Calls IntKind.wrap Int.decLt Int.decLe
section
variable (w : World) (μ : Mem) (hμ : MOk μ w)
include hμ
theorem loose_at (x y : V) {r : Bool × Bool} (h : looseF x y = r) (ha : x.s.size ≤ 1000) (hb : y.s.size ≤ 1000) : Calls Tryd.prog 14 #[.agg (encV x).toArray, .agg (encV y).toArray] w fun e w' => e = .returned (.tuple #[.bool r.1, .bool r.2]) ∧ Below w.heap.size w w' := by
  have := loose_spec w μ hμ x y (by omega) (by omega)
  rwa [h] at this
end
end Go.Proofs.YtlhmgadmolojmaaDoor
