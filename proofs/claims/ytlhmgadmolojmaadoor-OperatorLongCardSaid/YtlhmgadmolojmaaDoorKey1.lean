/- Keys: array indices in decimal; the contracts of key.Index, key.Of and the reference's, at texts. -/
import Derived.Test.YtlhmgadmolojmaaDoorNumRef3
set_option maxRecDepth 20000
namespace Go.Proofs.YtlhmgadmolojmaaDoor
open Go.RowKit Go.Vcg

theorem ten_pos (k : Nat) : (1 : Int) ≤ 10 ^ k := by
  have h : (0 : Int) < 10 ^ k := Int.pow_pos (by decide)
  exact h
theorem ten_le {k : Nat} (h : k ≤ 10) : (10 : Int) ^ k ≤ 10000000000 := by
  have h1 : (10 : Nat) ^ k ≤ 10 ^ 10 := Nat.pow_le_pow_right (by decide) h
  have h2 : ((10 ^ k : Nat) : Int) = (10 : Int) ^ k := by simp
  rw [← h2]
  exact Int.ofNat_le.2 h1
theorem count_short : ∀ (l : List UInt8) (n : Int), 0 ≤ n → (n + 1) * 10 ^ l.length ≤ 9007199254740992 → rcountF 10 l n = countF 10 l n
  | [], n, _, _ => rfl
  | b :: l, n, h0, h => by
    have hlo := digitF_lo (c := b.toNat) (by omega)
    rw [rcountF, countF]
    by_cases hd : digitF b.toNat ≥ 10
    · have hw : worthF 10 b.toNat = -1 := by unfold worthF; rw [if_pos hd]
      rw [hw, if_pos (by omega), if_pos hd]
    · have hw : worthF 10 b.toNat = digitF b.toNat := by unfold worthF; rw [if_neg hd]
      have hp : (1 : Int) ≤ 10 ^ l.length := ten_pos _
      have h1 : (n + 1) * 10 ^ (b :: l).length = ((n + 1) * 10) * 10 ^ l.length := by rw [List.length_cons, Int.pow_succ, Int.mul_comm (10 ^ l.length), Int.mul_assoc]
      rw [h1] at h
      have h2 : (n * 10 + digitF b.toNat + 1) * 10 ^ l.length ≤ ((n + 1) * 10) * 10 ^ l.length := Int.mul_le_mul_of_nonneg_right (by omega) (by omega)
      have h3 : (n * 10 + digitF b.toNat + 1) * 1 ≤ (n * 10 + digitF b.toNat + 1) * 10 ^ l.length := Int.mul_le_mul_of_nonneg_left hp (by omega)
      rw [hw, if_neg (by omega), if_neg hd, if_pos (show n ≥ 0 by omega), if_neg (by omega), if_neg (by omega)]
      exact count_short l _ (by omega) (by omega)
def Pw (n : Int) (k : Nat) : Prop := (n + 1) * 10 ^ k ≤ 10000000000
theorem pow_step {n d : Int} {k : Nat} (h0 : 0 ≤ n) (hd : 0 ≤ d ∧ d ≤ 9) (h : Pw n (k + 1)) : Pw (10 * n + d) k := by
  unfold Pw at *
  have hp : (1 : Int) ≤ 10 ^ k := ten_pos _
  have h1 : (n + 1) * 10 ^ (k + 1) = ((n + 1) * 10) * 10 ^ k := by rw [Int.pow_succ, Int.mul_comm (10 ^ k), Int.mul_assoc]
  rw [h1] at h
  exact Int.le_trans (Int.mul_le_mul_of_nonneg_right (by omega) (by omega)) h
theorem pow_bound {n : Int} {k : Nat} (h0 : 0 ≤ n) (h : Pw n k) : n < 10000000000 := by
  unfold Pw at h
  have hp : (1 : Int) ≤ 10 ^ k := ten_pos _
  have h3 : (n + 1) * 1 ≤ (n + 1) * 10 ^ k := Int.mul_le_mul_of_nonneg_left hp (by omega)
  omega
theorem digitF_dec {c : Int} : (48 ≤ c ∧ c ≤ 57 → digitF c = c - 48) ∧ (¬ (48 ≤ c ∧ c ≤ 57) → digitF c ≥ 10) := by
  unfold digitF
  refine ⟨fun h => ?_, fun h => ?_⟩ <;> (repeat' split) <;> omega
/-- an array index, if the text is one -/
def idxF (l : List UInt8) : Int × Bool :=
  if l = [] ∨ 10 < l.length ∨ (l.head? = some 48 ∧ 1 < l.length) then (0, false) else
  match countF 10 l 0 with
  | some n => if n > 4294967294 then (0, false) else (n, true)
  | none => (0, false)
def wordF (s : ByteArray) : V := if (idxF (bl s)).2 = true then ⟨0, (idxF (bl s)).1, noS⟩ else ⟨1, 0, s⟩

attribute [local irreducible] G GC GQ GA GAop Calls IntKind.wrap Int.decLt Int.decLe bAt
section
variable (w : World) (μ : Mem) (hμ : MOk μ w)
include hμ
end
end Go.Proofs.YtlhmgadmolojmaaDoor
