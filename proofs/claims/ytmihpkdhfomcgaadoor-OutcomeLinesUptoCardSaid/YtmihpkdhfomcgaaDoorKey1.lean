/- Keys: array indices in decimal; the contracts of key.Index, key.Of and the reference's, at texts. -/
import Derived.Test.YtmihpkdhfomcgaaDoorMb
import Derived.Test.YtmihpkdhfomcgaaDoorSt
set_option maxRecDepth 20000
set_option maxHeartbeats 2000000
namespace Go.Proofs.YtmihpkdhfomcgaaDoor
open Go.RowKit Go.Vcg

theorem ten_pos (k : Nat) : (1 : Int) ≤ 10 ^ k := by
  have h : (0 : Int) < 10 ^ k := Int.pow_pos (by decide)
  exact h
theorem ten_le {k : Nat} (h : k ≤ 10) : (10 : Int) ^ k ≤ 10000000000 := by
  have h1 : (10 : Nat) ^ k ≤ 10 ^ 10 := Nat.pow_le_pow_right (by decide) h
  have h2 : ((10 ^ k : Nat) : Int) = (10 : Int) ^ k := by simp
  rw [← h2]
  exact Int.ofNat_le.2 h1
theorem count_short : ∀ (l : List UInt8) (n : Int), 0 ≤ n → (n + 1) * 10 ^ l.length ≤ 9007199254740992 → rcountF 10 l n = countF 10 l n
  | [], n, _, _ => rfl
  | b :: l, n, h0, h => by
    have hlo := digitF_lo (c := b.toNat) (by omega)
    rw [rcountF, countF]
    by_cases hd : digitF b.toNat ≥ 10
    · have hw : worthF 10 b.toNat = -1 := by unfold worthF; rw [if_pos hd]
      rw [hw, if_pos (by omega), if_pos hd]
    · have hw : worthF 10 b.toNat = digitF b.toNat := by unfold worthF; rw [if_neg hd]
      have hp : (1 : Int) ≤ 10 ^ l.length := ten_pos _
      have h1 : (n + 1) * 10 ^ (b :: l).length = ((n + 1) * 10) * 10 ^ l.length := by rw [List.length_cons, Int.pow_succ, Int.mul_comm (10 ^ l.length), Int.mul_assoc]
      rw [h1] at h
      have h2 : (n * 10 + digitF b.toNat + 1) * 10 ^ l.length ≤ ((n + 1) * 10) * 10 ^ l.length := Int.mul_le_mul_of_nonneg_right (by omega) (by omega)
      have h3 : (n * 10 + digitF b.toNat + 1) * 1 ≤ (n * 10 + digitF b.toNat + 1) * 10 ^ l.length := Int.mul_le_mul_of_nonneg_left hp (by omega)
      rw [hw, if_neg (by omega), if_neg hd, if_pos (show n ≥ 0 by omega), if_neg (by omega), if_neg (by omega)]
      exact count_short l _ (by omega) (by omega)
def Pw (n : Int) (k : Nat) : Prop := (n + 1) * 10 ^ k ≤ 10000000000
theorem pow_step {n d : Int} {k : Nat} (h0 : 0 ≤ n) (hd : 0 ≤ d ∧ d ≤ 9) (h : Pw n (k + 1)) : Pw (10 * n + d) k := by
  unfold Pw at *
  have hp : (1 : Int) ≤ 10 ^ k := ten_pos _
  have h1 : (n + 1) * 10 ^ (k + 1) = ((n + 1) * 10) * 10 ^ k := by rw [Int.pow_succ, Int.mul_comm (10 ^ k), Int.mul_assoc]
  rw [h1] at h
  exact Int.le_trans (Int.mul_le_mul_of_nonneg_right (by omega) (by omega)) h
theorem pow_bound {n : Int} {k : Nat} (h0 : 0 ≤ n) (h : Pw n k) : n < 10000000000 := by
  unfold Pw at h
  have hp : (1 : Int) ≤ 10 ^ k := ten_pos _
  have h3 : (n + 1) * 1 ≤ (n + 1) * 10 ^ k := Int.mul_le_mul_of_nonneg_left hp (by omega)
  omega
theorem digitF_dec {c : Int} : (48 ≤ c ∧ c ≤ 57 → digitF c = c - 48) ∧ (¬ (48 ≤ c ∧ c ≤ 57) → digitF c ≥ 10) := by
  unfold digitF
  refine ⟨fun h => ?_, fun h => ?_⟩ <;> (repeat' split) <;> omega
/-- an array index, if the text is one -/
def idxF (l : List UInt8) : Int × Bool :=
  if l = [] ∨ 10 < l.length ∨ (l.head? = some 48 ∧ 1 < l.length) then (0, false) else
  match countF 10 l 0 with
  | some n => if n > 4294967294 then (0, false) else (n, true)
  | none => (0, false)
def wordF (s : ByteArray) : V := if (idxF (bl s)).2 = true then ⟨0, (idxF (bl s)).1, noS⟩ else ⟨1, 0, s⟩

attribute [local irreducible] G GC GQ GA GAop Calls IntKind.wrap Int.decLt Int.decLe bAt
section
variable (w : World) (μ : Mem) (hμ : MOk μ w)
include hμ
set_option maxRecDepth 4000 in
theorem index_spec (s : ByteArray) (hs : s.size ≤ 9223372036854775807) : Calls Tryd.prog 42 #[.string s] w fun e w' => e = .returned (.tuple #[.int .i64 (idxF (bl s)).1, .bool (idxF (bl s)).2]) ∧ Below w.heap.size w w' := by
  refine call_intro Tryd.func42 rfl Tryd.ntmps42 (by simp) hμ ?_
  have hh : 0 < s.size → ((bl s).head? = some 48 ↔ bAt s 0 = 48) := fun h => head_at h
  by_cases h0 : s = ⟨#[]⟩
  · have hF : idxF (bl s) = (0, false) := by unfold idxF; rw [if_pos (.inl ((bl_empty_iff s).1 h0))]
    rw [hF]
    repeat' (first | refine KK ?_ | ((refine KB ?_ ?_ <;> intro hp)) | refine KG ?_ | fail)
    exact ret_s2 rfl rfl rfl rfl rfl
  · have h0' : bl s ≠ [] := fun h => h0 ((bl_empty_iff s).2 h)
    have hpos : 0 < s.size := by rw [← bl_len]; exact List.length_pos_iff.2 h0'
    by_cases hbad : 10 < s.size ∨ (bAt s 0 = 48 ∧ 1 < s.size)
    · have hF : idxF (bl s) = (0, false) := by
        unfold idxF
        rw [if_pos]
        rw [bl_len, hh hpos]
        exact .inr hbad
      rw [hF]
      repeat' (first | refine KO ?_ | (refine KV (b := by first | exact U2 0) (c := ?_)) | refine KI ?_ | ((refine KB ?_ ?_ <;> intro hp)) | refine KG ?_ | fail)
      all_goals first | (exfalso; omega) | exact ret_s2 rfl rfl rfl rfl rfl
    · have hF : idxF (bl s) = match countF 10 (bl s) 0 with
          | some n => if n > 4294967294 then (0, false) else (n, true)
          | none => (0, false) := by
        unfold idxF
        rw [if_neg]
        rw [bl_len, hh hpos]
        rintro (h | h)
        · exact h0' h
        · exact hbad h
      rw [hF]
      repeat' (first | refine KO ?_ | (refine KV (b := by first | exact U2 0) (c := ?_)) | refine KI ?_ | ((refine KB ?_ ?_ <;> intro hp)) | refine KG ?_ | fail)
      all_goals first | (exfalso; omega) | skip
      all_goals
        refine gc_loop (ι := Nat × Int) (fun i => i.1 ≤ s.size ∧ 0 ≤ i.2 ∧ Pw i.2 (s.size - i.1) ∧ countF 10 (bl s) 0 = countF 10 ((bl s).drop i.1) i.2) (fun i => s.size - i.1) (fun _ => μ) (fun i => [(25, .int .i64 i.1), (24, .int .i64 s.size), (4, .int .i64 i.2), (0, .string s)]) (fun _ => []) (0, 0) ⟨by simp, by simp, by
          have := ten_le (k := s.size) (by omega)
          simpa [Pw] using this, by simp⟩ (fun a w hs => hs.sub PU (by repeat first | exact List.Sublist.refl _ | exact List.nil_sublist _ | refine List.Sublist.cons _ ?_)) ?_
        rintro ⟨i, n⟩ ⟨hi, hn0, hn1, hc⟩
        dsimp only at hi hn0 hn1 hc ⊢
        clear hh hF
        have hnb := pow_bound hn0 hn1
        by_cases hlt : i < s.size
        · obtain ⟨c, hc1, hc2⟩ := bl_at hlt
          have h1 := bAt_lo s i
          have h2 := bAt_hi s i
          obtain ⟨d1, d2⟩ := digitF_dec (c := bAt s i)
          rw [drop_cons hc1, countF, ← hc2] at hc
          by_cases hdig : 48 ≤ bAt s i ∧ bAt s i ≤ 57
          · have hd := d1 hdig
            rw [show s.size - i = (s.size - (i + 1)) + 1 by omega] at hn1
            have hst := pow_step (d := bAt s i - 48) hn0 (by omega) hn1
            rw [if_neg (by omega), if_neg (by omega), show n * 10 + digitF (bAt s i) = 10 * n + (bAt s i - 48) by omega] at hc
            clear hn1
            repeat' (first | refine KK ?_ | ((refine KB ?_ ?_ <;> intro hp)) | refine KG ?_ | fail)
            exact gq_back (i + 1, 10 * n + (bAt s i - 48)) ⟨by dsimp only; omega, by dsimp only; omega, hst, hc⟩ (by dsimp only; omega) rfl PU (by repeat first | exact List.Sublist.refl _ | exact List.nil_sublist _ | refine List.Sublist.cons _ ?_)
          · have hd := d2 hdig
            rw [if_pos hd] at hc
            rw [hc]
            clear hn1 hc
            repeat' (first | refine KK ?_ | ((refine KB ?_ ?_ <;> intro hp)) | refine KG ?_ | fail)
            all_goals first | (exfalso; omega) | exact ret_s2 rfl rfl rfl rfl rfl
        · have hd : (bl s).drop i = [] := List.drop_of_length_le (by rw [bl_len]; omega)
          rw [hd, countF] at hc
          rw [hc]
          clear hn1 hc
          by_cases hbig : n > 4294967294
          · simp only [if_pos hbig]
            repeat' (first | refine KK ?_ | ((refine KB ?_ ?_ <;> intro hp)) | refine KG ?_ | fail)
            exact ret_s2 rfl rfl rfl rfl rfl
          · simp only [if_neg hbig]
            repeat' (first | refine KK ?_ | ((refine KB ?_ ?_ <;> intro hp)) | refine KG ?_ | fail)
            exact ret_s2 rfl rfl rfl rfl rfl
end
end Go.Proofs.YtmihpkdhfomcgaaDoor
