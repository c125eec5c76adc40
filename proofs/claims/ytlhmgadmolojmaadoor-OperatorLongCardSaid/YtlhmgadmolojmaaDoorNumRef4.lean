/- The reference's arithmetic and numerals: what they compute, and their contracts. -/
import Derived.Test.YtlhmgadmolojmaaDoorNum5
set_option maxRecDepth 20000
namespace Go.Proofs.YtlhmgadmolojmaaDoor
open Go.RowKit Go.Vcg

theorem isF_cases (v : V) : isF v = (decide (v.s = ⟨#[]⟩) && ((decide (v.k = 3) && inF v.n) || (decide (v.k = 4) && decide (v.n = 0)))) := by
  cases v
  rw [Bool.eq_iff_iff]
  simp only [isF, wholeF, eqVs, eqV, nanV, noS, Bool.or_eq_true, Bool.and_eq_true, decide_eq_true_eq]
  constructor
  · rintro (⟨h1, h2, h3⟩ | ⟨h1, h2, h3, _⟩)
    · exact ⟨h2, .inl ⟨h1, h3⟩⟩
    · exact ⟨of_decide_eq_true h3, .inr ⟨of_decide_eq_true h1, of_decide_eq_true h2⟩⟩
  · rintro ⟨h1, ⟨h2, h3⟩ | ⟨h2, h3⟩⟩
    · exact .inl ⟨h2, h1, h3⟩
    · exact .inr ⟨decide_eq_true h2, decide_eq_true h3, decide_eq_true h1, trivial⟩
theorem isF_whole (v : V) : (isF v && decide (v.k = 3)) = wholeF v := by
  rw [isF_cases]
  unfold wholeF
  rw [Bool.eq_iff_iff]
  simp only [Bool.or_eq_true, Bool.and_eq_true, decide_eq_true_eq]
  constructor
  · rintro ⟨⟨h1, ⟨h2, h3⟩ | ⟨h2, h3⟩⟩, h4⟩
    · exact ⟨h2, h1, h3⟩
    · omega
  · rintro ⟨h1, h2, h3⟩
    exact ⟨⟨h2, .inl ⟨h1, h3⟩⟩, h1⟩
theorem digits_len (n : Nat) : (Lib.decDigits n).length ≤ n + 1 := by
  induction n using Nat.strongRecOn with
  | _ n ih =>
    rw [Lib.decDigits]
    split
    · simp
    · have := ih (n / 10) (by omega)
      simp; omega
def tenS : ByteArray := ⟨#[48, 49, 50, 51, 52, 53, 54, 55, 56, 57]⟩
theorem ten_at (k : Nat) (h : k < 10) : tenS.extract k (k + 1) = ⟨#[UInt8.ofNat (48 + k)]⟩ := by
  have : k = 0 ∨ k = 1 ∨ k = 2 ∨ k = 3 ∨ k = 4 ∨ k = 5 ∨ k = 6 ∨ k = 7 ∨ k = 8 ∨ k = 9 := by omega
  rcases this with rfl | rfl | rfl | rfl | rfl | rfl | rfl | rfl | rfl | rfl <;> rfl
theorem append_bytes (a b : List UInt8) : (⟨a.toArray⟩ : ByteArray) ++ (⟨b.toArray⟩ : ByteArray) = ⟨(a ++ b).toArray⟩ := by
  apply bl_inj
  simp [bl, ByteArray.data_append]

attribute [local irreducible] G GC GQ GA GAop Calls IntKind.wrap Int.decLt Int.decLe
section
variable (w : World) (μ : Mem) (hμ : MOk μ w)
include hμ
end
end Go.Proofs.YtlhmgadmolojmaaDoor
