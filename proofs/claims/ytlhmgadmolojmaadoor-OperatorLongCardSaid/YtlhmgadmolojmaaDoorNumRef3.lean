/- The reference's Read: its contract. -/
import Derived.Test.YtlhmgadmolojmaaDoorNumRef2
set_option maxRecDepth 20000
namespace Go.Proofs.YtlhmgadmolojmaaDoor
open Go.RowKit Go.Vcg
attribute [local irreducible] G GC GQ GA GAop Calls IntKind.wrap Int.decLt Int.decLe
theorem ext_size (s : ByteArray) (a b : Nat) : (s.extract a b).size ≤ s.size := by
  rw [← bl_len, bl_extract, List.length_take, List.length_drop, bl_len]; omega
theorem ext1 (s : ByteArray) (h : 0 < s.size) : (s.extract 1 s.size).size < s.size := by
  rw [← bl_len, bl_extract, List.length_take, List.length_drop, bl_len]; omega
theorem ext0 (s : ByteArray) (h : 0 < s.size) : (s.extract 0 (s.size - 1)).size < s.size := by
  rw [← bl_len, bl_extract, List.length_take, List.length_drop, bl_len]; omega
theorem size0 {s : ByteArray} : s.size = 0 ↔ s = ⟨#[]⟩ := by
  rw [bl_empty_iff, ← bl_len]
  exact List.length_eq_zero_iff
theorem rcount2_hi (base : Int) (hb : base = 10 ∨ base = 16) (l : List UInt8) : -1 ≤ (rcount2 base l).1 ∧ (rcount2 base l).1 ≤ 9007199254740992 := by
  have key : ∀ (l : List UInt8) (n : Int), -1 ≤ n → n ≤ 9007199254740992 → ∀ m, rcountF base l n = some m → -1 ≤ m ∧ m ≤ 9007199254740992 := by
    intro l
    induction l with
    | nil => intro n h0 h1 m h; simp only [rcountF, Option.some.injEq] at h; omega
    | cons b l ih =>
      intro n h0 h1 m h
      rw [rcountF] at h
      by_cases hw : worthF base b.toNat < 0
      · rw [if_pos hw] at h; cases h
      · rw [if_neg hw] at h
        by_cases hn : n ≥ 0
        · rw [if_pos hn] at h
          have hk : 0 ≤ n * base := by rcases hb with rfl | rfl <;> omega
          by_cases hm : n * base + worthF base b.toNat > 9007199254740992
          · rw [if_pos hm] at h
            exact ih _ (by omega) (by omega) m h
          · rw [if_neg hm] at h
            exact ih _ (by omega) (by omega) m h
        · rw [if_neg hn, if_neg (by omega)] at h
          exact ih _ (by omega) (by omega) m h
  unfold rcount2
  split
  · rename_i n h; exact key l 0 (by omega) (by omega) n h
  · simp
end Go.Proofs.YtlhmgadmolojmaaDoor
