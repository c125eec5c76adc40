/- The reference's Text, times and Two. -/
import Derived.Test.YtlhmgadmolojmaaDoorNumRef4
set_option maxRecDepth 20000
namespace Go.Proofs.YtlhmgadmolojmaaDoor
open Go.RowKit Go.Vcg

/-- what a product's parts say: all have one sign -/
theorem parts (a b : Int) (ha : -9007199254740992 ≤ a ∧ a ≤ 9007199254740992) (hb : -9007199254740992 ≤ b ∧ b ≤ 9007199254740992) :
    ∃ (s : Int) (T M1 M2 R : Nat), (s = 1 ∨ s = -1) ∧ a.tdiv 67108864 * b.tdiv 67108864 = s * T ∧ a.tdiv 67108864 * b.tmod 67108864 = s * M1 ∧ a.tmod 67108864 * b.tdiv 67108864 = s * M2 ∧ a.tmod 67108864 * b.tmod 67108864 = s * R ∧
      a * b = s * (T * 4503599627370496 + (M1 + M2) * 67108864 + R) ∧ T ≤ 18014398509481984 ∧ M1 ≤ 9007199254740992 ∧ M2 ≤ 9007199254740992 ∧ R ≤ 4503599627370496 := by
  have sg : ∀ x : Int, ∃ s : Int, (s = 1 ∨ s = -1) ∧ x = s * (x.natAbs : Int) := fun x => by
    rcases Int.le_total 0 x with h | h
    · exact ⟨1, .inl rfl, by omega⟩
    · exact ⟨-1, .inr rfl, by omega⟩
  have dv : ∀ (s : Int) (n : Nat), (s = 1 ∨ s = -1) → (s * (n : Int)).tdiv 67108864 = s * ((n / 67108864 : Nat) : Int) ∧ (s * (n : Int)).tmod 67108864 = s * ((n % 67108864 : Nat) : Int) := fun s n hs => by
    rcases hs with rfl | rfl
    · rw [Int.one_mul, Int.one_mul, Int.one_mul]; exact ⟨rfl, rfl⟩
    · rw [Int.neg_one_mul, Int.neg_one_mul, Int.neg_one_mul, Int.neg_tdiv, Int.neg_tmod]; exact ⟨rfl, rfl⟩
  obtain ⟨s, hs, ea⟩ := sg a
  obtain ⟨t, ht, eb⟩ := sg b
  have hA : a.natAbs ≤ 9007199254740992 := by omega
  have hB : b.natAbs ≤ 9007199254740992 := by omega
  obtain ⟨d1, m1⟩ := dv s a.natAbs hs
  obtain ⟨d2, m2⟩ := dv t b.natAbs ht
  rw [← ea] at d1 m1
  rw [← eb] at d2 m2
  have hsa : a.natAbs = a.natAbs / 67108864 * 67108864 + a.natAbs % 67108864 := by omega
  have hsb : b.natAbs = b.natAbs / 67108864 * 67108864 + b.natAbs % 67108864 := by omega
  have b1 : a.natAbs / 67108864 ≤ 134217728 := by omega
  have b2 : b.natAbs / 67108864 ≤ 134217728 := by omega
  have b3 : a.natAbs % 67108864 ≤ 67108864 := by omega
  have b4 : b.natAbs % 67108864 ≤ 67108864 := by omega
  generalize a.natAbs / 67108864 = H at *
  generalize b.natAbs / 67108864 = U at *
  generalize a.natAbs % 67108864 = L at *
  generalize b.natAbs % 67108864 = D at *
  have e : ∀ (x y : Nat), s * (x : Int) * (t * (y : Int)) = s * t * ((x * y : Nat) : Int) := fun x y => by
    rw [Int.natCast_mul]
    rw [Int.mul_assoc, Int.mul_assoc, ← Int.mul_assoc (x : Int) t, Int.mul_comm (x : Int) t, Int.mul_assoc]
  refine ⟨s * t, H * U, H * D, L * U, L * D, ?_, by rw [d1, d2, e], by rw [d1, m2, e], by rw [m1, d2, e], by rw [m1, m2, e], ?_, ?_, ?_, ?_, ?_⟩
  · rcases hs with rfl | rfl <;> rcases ht with rfl | rfl <;> simp
  · rw [ea, eb, e, hsa, hsb]
    congr 1
    rw [Nat.add_mul, Nat.mul_add, Nat.mul_add]
    have h1 : H * 67108864 * (U * 67108864) = H * U * 4503599627370496 := by
      rw [Nat.mul_mul_mul_comm]
    have h2 : H * 67108864 * D = H * D * 67108864 := by rw [Nat.mul_right_comm]
    have h3 : L * (U * 67108864) = L * U * 67108864 := by rw [Nat.mul_assoc]
    rw [h1, h2, h3]
    omega
  · exact Nat.le_trans (Nat.mul_le_mul b1 b2) (by decide)
  · exact Nat.le_trans (Nat.mul_le_mul b1 b4) (by decide)
  · exact Nat.le_trans (Nat.mul_le_mul b3 b2) (by decide)
  · exact Nat.le_trans (Nat.mul_le_mul b3 b4) (by decide)

theorem tmod_eq (x y : Int) : x - y * x.tdiv y = x.tmod y := (Int.tmod_def x y).symm
attribute [local irreducible] G GC GQ GA GAop Calls IntKind.wrap Int.decLt Int.decLe
section
variable (w : World) (μ : Mem) (hμ : MOk μ w)
include hμ
end
end Go.Proofs.YtlhmgadmolojmaaDoor
