/- The reference's Read: what it computes, its contract, and that it is what num.Read computes. -/
import Derived.Test.YtlhmgadmolojmaaDoorNumRef1
set_option maxRecDepth 20000
namespace Go.Proofs.YtlhmgadmolojmaaDoor
open Go.RowKit Go.Vcg

def rnumOr (r : Int × Bool) (sign : Int) : V := if r.2 = true ∧ 0 ≤ r.1 then ofF (sign * r.1) else nanV
def rreadT (t : List UInt8) : V :=
  if t = [] then ofF 0 else if 2 < t.length ∧ t[0]? = some 48 ∧ (t[1]? = some 120 ∨ t[1]? = some 88) then rnumOr (rcount2 16 (t.drop 2)) 1
  else rnumOr (rcount2 10 (if t.head? = some 45 ∨ t.head? = some 43 then t.drop 1 else t)) (if t.head? = some 45 then -1 else 1)

theorem rc_neg (base : Int) : ∀ (l : List UInt8), rcountF base l (-1) = none ∨ rcountF base l (-1) = some (-1)
  | [] => .inr rfl
  | b :: l => by
    rw [rcountF]
    split
    · exact .inl rfl
    · rw [if_neg (show ¬ (-1 : Int) ≥ 0 by omega), if_neg (by omega)]
      exact rc_neg base l
theorem rc_some (base : Int) (hb : base = 10 ∨ base = 16) : ∀ (l : List UInt8) (n m : Int), 0 ≤ n → countF base l n = some m → rcountF base l n = some m
  | [], n, m, _, h => h
  | b :: l, n, m, h0, h => by
    rw [countF] at h
    split at h
    · cases h
    · rename_i hd
      split at h
      · cases h
      · rename_i hm
        have hlo := digitF_lo (c := b.toNat) (by omega)
        have hw : worthF base b.toNat = digitF b.toNat := by unfold worthF; rw [if_neg hd]
        have hk : 0 ≤ n * base := by rcases hb with rfl | rfl <;> omega
        rw [rcountF, hw, if_neg (by omega), if_pos (show n ≥ 0 by omega), if_neg hm]
        exact rc_some base hb l _ m (by omega) h
theorem rc_none (base : Int) (hb : base = 10 ∨ base = 16) : ∀ (l : List UInt8) (n : Int), 0 ≤ n → countF base l n = none → rcountF base l n = none ∨ rcountF base l n = some (-1)
  | [], n, _, h => by simp [countF] at h
  | b :: l, n, h0, h => by
    rw [countF] at h
    have hlo := digitF_lo (c := b.toNat) (by omega)
    have hk : 0 ≤ n * base := by rcases hb with rfl | rfl <;> omega
    split at h
    · rename_i hd
      have hw : worthF base b.toNat = -1 := by unfold worthF; rw [if_pos hd]
      rw [rcountF, hw, if_pos (by omega)]
      exact .inl rfl
    · rename_i hd
      have hw : worthF base b.toNat = digitF b.toNat := by unfold worthF; rw [if_neg hd]
      split at h
      · rename_i hm
        rw [rcountF, hw, if_neg (by omega), if_pos (show n ≥ 0 by omega), if_pos hm]
        exact rc_neg base l
      · rename_i hm
        rw [rcountF, hw, if_neg (by omega), if_pos (show n ≥ 0 by omega), if_neg hm]
        exact rc_none base hb l _ (by omega) h
theorem num_eq (base : Int) (hb : base = 10 ∨ base = 16) (l : List UInt8) (sign : Int) : rnumOr (rcount2 base l) sign = numOr (count2 base l) sign := by
  have hlo := count2_lo base l hb
  unfold rnumOr numOr
  cases h : countF base l 0 with
  | some m =>
    have h' := rc_some base hb l 0 m (by omega) h
    have e1 : count2 base l = (m, decide (l ≠ [])) := by unfold count2; rw [h]
    have e2 : rcount2 base l = (m, decide (l ≠ [])) := by unfold rcount2; rw [h']
    rw [e1] at hlo
    rw [e1, e2]
    by_cases hl : l ≠ []
    · rw [if_pos ⟨decide_eq_true hl, hlo.1⟩, if_pos (decide_eq_true hl)]
    · simp [hl]
  | none =>
    have e1 : count2 base l = (0, false) := by unfold count2; rw [h]
    rw [e1]
    rcases rc_none base hb l 0 (by omega) h with h' | h'
    · have e2 : rcount2 base l = (0, false) := by unfold rcount2; rw [h']
      rw [e2]; simp
    · have e2 : rcount2 base l = (-1, decide (l ≠ [])) := by unfold rcount2; rw [h']
      rw [e2]; simp
theorem take2 {t : List UInt8} {a b : UInt8} : t.take 2 = [a, b] ↔ t[0]? = some a ∧ t[1]? = some b := by
  match t with
  | [] => simp
  | [x] => simp
  | x :: y :: r => simp
theorem rread_eq (t : List UInt8) : rreadT t = readT t := by
  unfold rreadT readT
  by_cases h0 : t = []
  · rw [if_pos h0, if_pos h0]
  · rw [if_neg h0, if_neg h0]
    rw [num_eq 16 (.inr rfl), num_eq 10 (.inl rfl)]
    by_cases h16 : t.take 2 = [48, 120] ∨ t.take 2 = [48, 88]
    · rw [if_pos h16]
      have h16' := h16
      rw [take2, take2] at h16'
      by_cases hl : 2 < t.length
      · rw [if_pos ⟨hl, by rcases h16' with h | h <;> exact h.1, by rcases h16' with h | h; exact .inl h.2; exact .inr h.2⟩]
      · rw [if_neg (fun h => hl h.1)]
        have hd : t.drop 2 = [] := List.drop_of_length_le (by omega)
        have ht : t = t.take 2 := (List.take_of_length_le (by omega)).symm
        rw [hd]
        rcases h16 with h | h
        · rw [h] at ht; subst ht; rfl
        · rw [h] at ht; subst ht; rfl
    · rw [if_neg h16, if_neg (fun h => h16 (by rw [take2, take2]; rcases h.2.2 with e | e; exact .inl ⟨h.2.1, e⟩; exact .inr ⟨h.2.1, e⟩))]

/-! trimming from the left, then from the right -/
def rdrop (p : UInt8 → Bool) (l : List UInt8) : List UInt8 := (l.reverse.dropWhile p).reverse
theorem rdrop_cons (p : UInt8 → Bool) (a : UInt8) (r : List UInt8) : rdrop p (a :: r) = if rdrop p r = [] then (if p a then [] else [a]) else a :: rdrop p r := by
  unfold rdrop
  rw [List.reverse_cons, List.dropWhile_append]
  by_cases h : r.reverse.dropWhile p = []
  · rw [h]
    simp only [List.isEmpty_nil, if_true, List.reverse_nil]
    cases hp : p a <;> simp [List.dropWhile, hp]
  · have : (r.reverse.dropWhile p).isEmpty = false := by simpa using h
    rw [this, if_neg (by simp), if_neg (by simpa using h)]
    simp
theorem drop_comm (p : UInt8 → Bool) : ∀ l : List UInt8, rdrop p (l.dropWhile p) = (rdrop p l).dropWhile p
  | [] => rfl
  | a :: r => by
    have ih := drop_comm p r
    rw [rdrop_cons]
    cases hp : p a
    · rw [List.dropWhile_cons_of_neg (by simp [hp]), rdrop_cons]
      split
      · simp [hp]
      · rw [List.dropWhile_cons_of_neg (by simp [hp])]
    · rw [List.dropWhile_cons_of_pos hp, ih]
      split
      · rename_i h; rw [h]; simp
      · rw [List.dropWhile_cons_of_pos hp]
theorem trim_eq (l : List UInt8) : rdrop (cutB.contains ·) (l.dropWhile (cutB.contains ·)) = Lib.trimS l cutB := drop_comm _ l

attribute [local irreducible] G GC GQ GA GAop Calls IntKind.wrap Int.decLt Int.decLe
theorem rnumOr_t {r : Int × Bool} {sign : Int} (h : r.2 = true) (h' : 0 ≤ r.1) : rnumOr r sign = ofF (sign * r.1) := by unfold rnumOr; rw [if_pos ⟨h, h'⟩]
theorem rnumOr_f {r : Int × Bool} {sign : Int} (h : r.2 = false ∨ r.1 < 0) : rnumOr r sign = nanV := by
  unfold rnumOr
  rw [if_neg]
  rintro ⟨h1, h2⟩
  rcases h with h | h
  · rw [h1] at h; cases h
  · omega
theorem dropWhile_head {s : ByteArray} (h : 0 < s.size) (hb : blankF (bAt s 0) = true) : (bl s).dropWhile (cutB.contains ·) = (bl (s.extract 1 s.size)).dropWhile (cutB.contains ·) := by
  obtain ⟨b, h1, h2⟩ := bl_at h
  rw [h2, blank_cut] at hb
  have e : bl s = b :: (bl s).drop 1 := by
    have := drop_cons h1
    simpa using this
  have e2 : bl (s.extract 1 s.size) = (bl s).drop 1 := by
    rw [bl_extract]
    exact List.take_of_length_le (by rw [List.length_drop, bl_len]; omega)
  rw [e2]
  conv => lhs; rw [e]
  rw [List.dropWhile_cons_of_pos hb]
theorem dropWhile_stop {s : ByteArray} (h : s.size = 0 ∨ blankF (bAt s 0) = false) : (bl s).dropWhile (cutB.contains ·) = bl s := by
  by_cases h0 : 0 < s.size
  · have hb := h.resolve_left (by omega)
    obtain ⟨b, h1, h2⟩ := bl_at h0
    rw [h2, blank_cut] at hb
    have e : bl s = b :: (bl s).drop 1 := by
      have := drop_cons h1
      simpa using this
    rw [e, List.dropWhile_cons_of_neg (by simp only [hb]; decide)]
  · have : bl s = [] := List.eq_nil_of_length_eq_zero (by rw [bl_len]; omega)
    rw [this]; rfl
theorem rdrop_last {s : ByteArray} (h : 0 < s.size) (hb : blankF (bAt s (s.size - 1)) = true) : rdrop (cutB.contains ·) (bl s) = rdrop (cutB.contains ·) (bl (s.extract 0 (s.size - 1))) := by
  obtain ⟨b, h1, h2⟩ := bl_at (i := s.size - 1) (s := s) (by omega)
  rw [h2, blank_cut] at hb
  have e2 : bl (s.extract 0 (s.size - 1)) = (bl s).take (s.size - 1) := by
    rw [bl_extract]; simp
  have e : bl s = (bl s).take (s.size - 1) ++ [b] := by
    have := List.take_append_drop (s.size - 1) (bl s)
    rw [drop_cons h1, List.drop_of_length_le (by rw [bl_len]; omega)] at this
    exact this.symm
  rw [e2]
  conv => lhs; rw [e]
  unfold rdrop
  rw [List.reverse_append]
  show ((b :: List.reverse ((bl s).take (s.size - 1))).dropWhile _).reverse = _
  rw [List.dropWhile_cons_of_pos hb]
theorem rdrop_stop {s : ByteArray} (h : s.size = 0 ∨ blankF (bAt s (s.size - 1)) = false) : rdrop (cutB.contains ·) (bl s) = bl s := by
  by_cases h0 : 0 < s.size
  · have hb := h.resolve_left (by omega)
    obtain ⟨b, h1, h2⟩ := bl_at (i := s.size - 1) (s := s) (by omega)
    rw [h2, blank_cut] at hb
    have e : bl s = (bl s).take (s.size - 1) ++ [b] := by
      have := List.take_append_drop (s.size - 1) (bl s)
      rw [drop_cons h1, List.drop_of_length_le (by rw [bl_len]; omega)] at this
      exact this.symm
    rw [e]
    unfold rdrop
    rw [List.reverse_append]
    show ((b :: List.reverse ((bl s).take (s.size - 1))).dropWhile _).reverse = _
    rw [List.dropWhile_cons_of_neg (by simp only [hb]; decide)]
    simp
  · have : bl s = [] := List.eq_nil_of_length_eq_zero (by rw [bl_len]; omega)
    rw [this]; rfl
end Go.Proofs.YtlhmgadmolojmaaDoor
