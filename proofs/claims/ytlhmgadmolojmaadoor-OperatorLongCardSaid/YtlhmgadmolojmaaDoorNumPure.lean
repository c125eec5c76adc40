/- Plain laws of numerals: reading what was written. -/
import Derived.Test.YtlhmgadmolojmaaDoorNumRef4
import Derived.Test.YtlhmgadmolojmaaDoorNum5
set_option maxRecDepth 20000
namespace Go.Proofs.YtlhmgadmolojmaaDoor
open Go.RowKit Go.Vcg
theorem count_append (base : Int) : ∀ (l : List UInt8) (b : UInt8) (n : Int), countF base (l ++ [b]) n = match countF base l n with
    | none => none
    | some k => if digitF b.toNat ≥ base then none else if k * base + digitF b.toNat > 9007199254740992 then none else some (k * base + digitF b.toNat)
  | [], b, n => by simp [countF]
  | a :: l, b, n => by
    rw [List.cons_append, countF, countF]
    split
    · rfl
    · split
      · rfl
      · exact count_append base l b _
theorem digit_byte {k : Nat} (h : k < 10) : ((UInt8.ofNat (48 + k)).toNat : Int) = 48 + k := by
  have : (UInt8.ofNat (48 + k)).toNat = 48 + k := by
    rw [UInt8.toNat_ofNat']
    exact Nat.mod_eq_of_lt (by omega)
  omega
theorem digitF_digit {k : Nat} (h : k < 10) : digitF ((UInt8.ofNat (48 + k)).toNat : Int) = k := by
  rw [digit_byte h]
  unfold digitF
  rw [if_pos (by omega)]
  omega
theorem count_digits (m : Nat) : m ≤ 9007199254740992 → countF 10 (Lib.decDigits m) 0 = some (m : Int) := by
  induction m using Nat.strongRecOn with
  | _ m ih =>
    intro hm
    rw [Lib.decDigits]
    split
    · rename_i h
      rw [countF, digitF_digit h, if_neg (by omega), if_neg (by omega), countF]
      congr 1; omega
    · rename_i h
      have h10 : m % 10 < 10 := by omega
      rw [count_append, ih (m / 10) (by omega) (by omega)]
      simp only [digitF_digit h10]
      rw [if_neg (by omega), if_neg (by omega)]
      congr 1; omega
theorem digits_mem (m : Nat) : ∀ b ∈ Lib.decDigits m, 48 ≤ b.toNat ∧ b.toNat ≤ 57 := by
  induction m using Nat.strongRecOn with
  | _ m ih =>
    intro b hb
    rw [Lib.decDigits] at hb
    split at hb
    · rename_i h
      simp only [List.mem_singleton] at hb
      have := digit_byte h
      rw [hb]; omega
    · rcases List.mem_append.1 hb with hb | hb
      · exact ih (m / 10) (by omega) b hb
      · simp only [List.mem_singleton] at hb
        have := digit_byte (k := m % 10) (by omega)
        rw [hb]; omega
theorem digits_ne (m : Nat) : Lib.decDigits m ≠ [] := by
  rw [Lib.decDigits]
  split <;> simp
theorem drop_none {p : UInt8 → Bool} : ∀ {l : List UInt8}, (∀ b ∈ l, p b = false) → l.dropWhile p = l
  | [], _ => rfl
  | a :: l, h => List.dropWhile_cons_of_neg (by rw [h a (by simp)]; decide)
theorem trim_none {l : List UInt8} (h : ∀ b ∈ l, cutB.contains b = false) : Lib.trimS l cutB = l := by
  unfold Lib.trimS Lib.trimLeftS Lib.trimRightS
  rw [drop_none (p := (cutB.contains ·)) (l := l.reverse) (fun b hb => h b (List.mem_reverse.1 hb)), List.reverse_reverse, drop_none h]
theorem cut_of {b : UInt8} (h : 45 = b.toNat ∨ 48 ≤ b.toNat ∧ b.toNat ≤ 57) : cutB.contains b = false := by
  rw [← blank_cut]
  unfold blankF
  simp
  omega
theorem numOr_mk (l : List UInt8) (m : Nat) (s : Int) (hl : l ≠ []) (h : countF 10 l 0 = some (m : Int)) : numOr (count2 10 l) s = ofF (s * m) := by
  have e1 : count2 10 l = ((m : Int), true) := by unfold count2; rw [h]; simp [hl]
  rw [e1]; rfl
theorem read_itoa (n : Int) (hn : -9007199254740992 ≤ n ∧ n ≤ 9007199254740992) : readF (Lib.itoa n) = ofF n := by
  unfold readF Lib.itoa
  split
  · rename_i h0
    have hm := digits_mem n.natAbs
    rw [trim_none (fun b hb => by
      rcases List.mem_cons.1 hb with rfl | hb
      · exact cut_of (.inl rfl)
      · exact cut_of (.inr (hm b hb)))]
    unfold readT
    rw [if_neg (by simp), if_neg (by intro h; rcases h with h | h <;> simp at h), if_pos (.inl rfl), if_pos (show (45 :: Lib.decDigits n.natAbs).head? = some 45 from rfl)]
    rw [List.drop_one, List.tail_cons, numOr_mk _ _ _ (digits_ne _) (count_digits _ (by omega))]
    congr 1; omega
  · rename_i h0
    have hm := digits_mem n.toNat
    have hne := digits_ne n.toNat
    have hc := count_digits n.toNat (by omega)
    rw [trim_none (fun b hb => cut_of (.inr (hm b hb)))]
    generalize Lib.decDigits n.toNat = l at *
    unfold readT
    have hhd : ∀ c : UInt8, (c.toNat < 48 ∨ 57 < c.toNat) → l.head? ≠ some c := fun c hcc h => by
      have := hm c (List.mem_of_head? h)
      omega
    rw [if_neg hne, if_neg (by
      rw [take2, take2]
      rintro (⟨_, h⟩ | ⟨_, h⟩)
      · have := hm _ (List.mem_of_getElem? h)
        revert this; decide
      · have := hm _ (List.mem_of_getElem? h)
        revert this; decide)]
    rw [if_neg (fun h => by rcases h with h | h; exact hhd 45 (by decide) h; exact hhd 43 (by decide) h), if_neg (hhd 45 (by decide)), numOr_mk _ _ _ hne hc]
    congr 1; omega
theorem text_read (n : Int) : readF (bl (textF (ofF n))) = ofF n := by
  cases h : inF n
  · have e : ofF n = nanV := by unfold ofF; rw [h]; rfl
    rw [e]; rfl
  · have e : ofF n = ⟨3, n, noS⟩ := by unfold ofF; rw [h]; rfl
    have hw : wholeF ⟨3, n, noS⟩ = true := by unfold wholeF; simp [h, noS]
    have ht : bl (textF (ofF n)) = Lib.itoa n := by rw [e]; unfold textF; rw [if_pos hw]
    rw [ht, read_itoa n (inF_iff.1 h)]
theorem ofF_in {n : Int} (h : -9007199254740992 ≤ n ∧ n ≤ 9007199254740992) : ofF n = ⟨3, n, noS⟩ := by unfold ofF; rw [if_pos (inF_iff.2 h)]
theorem whole_mk {n : Int} (h : -9007199254740992 ≤ n ∧ n ≤ 9007199254740992) : wholeF ⟨3, n, noS⟩ = true := by unfold wholeF; simp [inF_iff.2 h, noS]
theorem two_mk {g : Int → Int → V} {a b : Int} (ha : -9007199254740992 ≤ a ∧ a ≤ 9007199254740992) (hb : -9007199254740992 ≤ b ∧ b ≤ 9007199254740992) : twoF g ⟨3, a, noS⟩ ⟨3, b, noS⟩ = g a b := by
  unfold twoF; rw [if_pos ⟨whole_mk ha, whole_mk hb⟩]
theorem isF_of (n : Int) : isF (ofF n) = true := by
  unfold ofF
  cases h : inF n
  · rw [if_neg (by simp)]; rfl
  · rw [if_pos rfl]; unfold isF wholeF; simp [h, noS]
theorem isF_num (r : Int × Bool) (s : Int) : isF (numOr r s) = true := by
  unfold numOr
  split
  · exact isF_of _
  · rfl
theorem isF_read (l : List UInt8) : isF (readF l) = true := by
  unfold readF readT
  split
  · exact isF_of _
  · split
    · exact isF_num _ _
    · exact isF_num _ _
theorem itoa_len (n : Int) (hn : -9007199254740992 ≤ n ∧ n ≤ 9007199254740992) : (Lib.itoa n).length ≤ 9007199254740994 := by
  unfold Lib.itoa
  split
  · have := digits_len n.natAbs
    simp; omega
  · have := digits_len n.toNat
    omega
theorem text_size (v : V) : (textF v).size ≤ 9223372036854775807 := by
  unfold textF
  cases h : wholeF v
  · rw [if_neg (by simp)]; decide
  · rw [if_pos rfl]
    have := itoa_len v.n (wholeF_n h)
    have h1 : (⟨(Lib.itoa v.n).toArray⟩ : ByteArray).size = (Lib.itoa v.n).length := by simp [ByteArray.size]
    omega
end Go.Proofs.YtlhmgadmolojmaaDoor
