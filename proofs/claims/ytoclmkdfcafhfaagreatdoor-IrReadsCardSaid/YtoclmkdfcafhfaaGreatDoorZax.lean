/- Numbers of the reference: Of, blank, worth, Count: what they compute, and their contracts. -/
import Derived.Test.YtoclmkdfcafhfaaGreatDoorZaw
import Derived.Lib.AppendIntMem
import Derived.Lib.LaidU8
import Derived.Lib.LaidTab
import Derived.Lib.OthersKept
import Derived.Shelf.Strings.Builder1
set_option maxRecDepth 20000
set_option maxHeartbeats 2000000
namespace Go.Proofs.YtoclmkdfcafhfaaGreatDoor
section
open Go.RowKit Go.Vcg
def kK (c : Int) : Bool := decide (c = 9) || decide (c = 10) || decide (c = 13) || decide (c = 32)
theorem nH (b : UInt8) : kK b.toNat = aO.contains b := by
  have h : ∀ k : UInt8, ((b.toNat : Int) = (k.toNat : Int)) ↔ b = k := fun k => by
    constructor
    · intro e; exact UInt8.toNat_inj.1 (by omega)
    · rintro rfl; rfl
  have h9 := h 9; have h10 := h 10; have h13 := h 13; have h32 := h 32
  rw [show ((9 : UInt8).toNat : Int) = 9 from rfl] at h9
  rw [show ((10 : UInt8).toNat : Int) = 10 from rfl] at h10
  rw [show ((13 : UInt8).toNat : Int) = 13 from rfl] at h13
  rw [show ((32 : UInt8).toNat : Int) = 32 from rfl] at h32
  rw [Bool.eq_iff_iff]
  simp [kK, aO, h9, h10, h13, h32, or_assoc]
def eX (base : Int) (c : Int) : Int := if dK c ≥ base then -1 else dK c
def dU (base : Int) : List UInt8 → Int → Option Int
  | [], n => some n
  | b :: r, n => if eX base b.toNat < 0 then none else
    if (if n ≥ 0 then n * base + eX base b.toNat else n) > 9007199254740992 then dU base r (-1) else dU base r (if n ≥ 0 then n * base + eX base b.toNat else n)
def cB (base : Int) (l : List UInt8) : Int × Bool := match dU base l 0 with
  | some n => (n, decide (l ≠ []))
  | none => (0, false)
attribute [local irreducible] G GC GQ GA bO Calls IntKind.wrap Int.decLt Int.decLe
section
variable (w : World) (μ : Mem) (hμ : MOk μ w)
include hμ
theorem qZ (n : Int) : Calls Tryz.prog 97 #[.int .i64 n] w fun e w' => e = .returned (.agg (sT (ofF n)).toArray) ∧ Below w.heap.size w w' := by
  refine aC Tryz.func97 rfl Tryz.ntmps97 (by simp) hμ ?_
  have h1 : ∀ (_ : -9007199254740992 ≤ n ∧ n ≤ 9007199254740992), ofF n = ⟨3, n, noS⟩ := fun h => by unfold ofF inF; rw [if_pos (by simp; omega)]
  have h2 : ∀ (_ : ¬ (-9007199254740992 ≤ n ∧ n ≤ 9007199254740992)), ofF n = yE := fun h => by unfold ofF inF; rw [if_neg (by simp; omega)]
  repeat' (first | refine KK ?_ | refine NB fun b => ?_ | (refine KB ?_ ?_ <;> intro hp) | refine KG ?_ | fail)
  all_goals first | (rw [h1 (by omega)]; exact bL rfl (RG 0 rfl rfl rfl rfl rfl) rfl) | (rw [h2 (by omega)]; exact bL rfl (RG 0 rfl rfl rfl rfl rfl) rfl)
theorem QT (c : Int) : Calls Tryz.prog 96 #[.int .u8 c] w fun e w' => e = .returned (.bool (kK c)) ∧ Below w.heap.size w w' := by
  refine aC Tryz.func96 rfl Tryz.ntmps96 (by simp) hμ ?_
  repeat' (first | refine KK ?_ | (refine KB ?_ ?_ <;> intro hp) | refine KG ?_ | fail)
  all_goals refine aD rfl rfl ?_
  all_goals unfold kK
  all_goals simp_all
theorem tC (c : Int) {r : Bool} (h : kK c = r) : Calls Tryz.prog 96 #[.int .u8 c] w fun e w' => e = .returned (.bool r) ∧ Below w.heap.size w w' := by
  have := QT w μ hμ c
  rwa [h] at this
theorem MN (c base : Int) (hc : 0 ≤ c ∧ c ≤ 255) (hb : base = 10 ∨ base = 16) : Calls Tryz.prog 129 #[.int .u8 c, .int .i64 base] w fun e w' => e = .returned (.int .i64 (eX base c)) ∧ Below w.heap.size w w' := by
  refine aC Tryz.func129 rfl Tryz.ntmps129 (by simp) hμ ?_
  have hd : (48 ≤ c ∧ c ≤ 57 → dK c = c - 48) ∧ (97 ≤ c ∧ c ≤ 102 → dK c = c - 97 + 10) ∧ (65 ≤ c ∧ c ≤ 70 → dK c = c - 65 + 10) ∧ (¬ (48 ≤ c ∧ c ≤ 57) ∧ ¬ (97 ≤ c ∧ c ≤ 102) ∧ ¬ (65 ≤ c ∧ c ≤ 70) → dK c = 99) := by
    unfold dK
    refine ⟨fun h => ?_, fun h => ?_, fun h => ?_, fun h => ?_⟩ <;> (repeat' split) <;> omega
  have hw1 : dK c ≥ base → eX base c = -1 := fun h => by unfold eX; rw [if_pos h]
  have hw2 : ¬ dK c ≥ base → eX base c = dK c := fun h => by unfold eX; rw [if_neg h]
  repeat' (first | refine KK ?_ | (refine KB ?_ ?_ <;> intro hp) | refine KG ?_ | fail)
  all_goals refine aD rfl rfl ?_
  all_goals congr 1
  all_goals omega
theorem mD (s : ByteArray) (base : Int) (hb : base = 10 ∨ base = 16) (hs : s.size ≤ 9223372036854775807) :
    Calls Tryz.prog 98 #[.string s, .int .i64 base] w fun e w' => e = .returned (.tuple #[.int .i64 (cB base (bl s)).1, .bool (cB base (bl s)).2]) ∧ Below w.heap.size w w' := by
  refine aC Tryz.func98 rfl Tryz.ntmps98 (by simp) hμ ?_
  repeat' (first | refine KK ?_ | fail)
  refine aX (ι := Nat × Int) (fun i => i.1 ≤ s.size ∧ -1 ≤ i.2 ∧ i.2 ≤ 9007199254740992 ∧ dU base (bl s) 0 = dU base ((bl s).drop i.1) i.2) (fun i => s.size - i.1) (fun _ => μ) (fun i => [(7, .int .i64 i.1), (6, .int .i64 i.2), (1, .int .i64 base), (0, .string s)]) (fun _ => []) (0, 0) ⟨by simp, by simp, by simp, by simp⟩ (fun a w hs => hs.sub PU (by repeat exact List.Sublist.refl _)) ?_
  rintro ⟨i, n⟩ ⟨hi, hn0, hn1, hc⟩
  dsimp only at hi hn0 hn1 hc ⊢
  by_cases hlt : i < s.size
  · obtain ⟨b, hb1, hb2⟩ := gY hlt
    have h1 := QW s i
    have h2 := aA8 s i
    have h3 := nG h1
    have h4 := DO (c := bAt s i)
    rw [drop_cons hb1, dU, ← hb2] at hc
    have h5 : -1 ≤ eX base (bAt s i) ∧ eX base (bAt s i) ≤ 99 := by unfold eX; split <;> omega
    have hk : -16 ≤ n * base ∧ n * base ≤ 9223372036854775707 := by rcases hb with rfl | rfl <;> omega
    have hk2 : 0 ≤ n → 0 ≤ n * base := fun h => by rcases hb with rfl | rfl <;> omega
    repeat' (first | refine KO ?_ | ((with_reducible apply C1); exact rfl; exact EN; exact fun w μc hw hse => MN w μc hw _ base (by omega) hb) | refine KI ?_ | (refine KB ?_ ?_ <;> intro hp) | fail)
    · rw [if_pos (by omega)] at hc
      exact tM rfl rfl rfl (by simp [cB, hc]) (by simp [cB, hc])
    · rw [if_neg (by omega), if_pos (show n ≥ 0 by omega), if_pos (by omega)] at hc
      exact lS (i + 1, -1) ⟨by dsimp only; omega, by dsimp only; omega, by dsimp only; omega, hc⟩ (by dsimp only; omega) rfl PU (by repeat exact List.Sublist.refl _)
    · rw [if_neg (by omega), if_pos (show n ≥ 0 by omega), if_neg (by omega)] at hc
      exact lS (i + 1, n * base + eX base (bAt s i)) ⟨by dsimp only; omega, by dsimp only; omega, by dsimp only; omega, hc⟩ (by dsimp only; omega) rfl PU (by repeat exact List.Sublist.refl _)
    · rw [if_neg (by omega), if_neg (show ¬ n ≥ 0 by omega), if_neg (by omega)] at hc
      exact lS (i + 1, n) ⟨by dsimp only; omega, by dsimp only; omega, by dsimp only; omega, hc⟩ (by dsimp only; omega) rfl PU (by repeat exact List.Sublist.refl _)
  · have hi' : i = s.size := by omega
    have hd : (bl s).drop i = [] := List.drop_of_length_le (by rw [aZ]; omega)
    rw [hd, dU] at hc
    repeat' (first | refine KK ?_ | fail)
    refine tM rfl rfl rfl ?_ ?_
    · simp [cB, hc]
    · rw [aDu]; simp [cB, hc]
end
end
section
open Go.RowKit Go.Vcg
def jI (r : Int × Bool) (sign : Int) : V := if r.2 = true ∧ 0 ≤ r.1 then ofF (sign * r.1) else yE
def kH (t : List UInt8) : V :=
  if t = [] then ofF 0 else if 2 < t.length ∧ t[0]? = some 48 ∧ (t[1]? = some 120 ∨ t[1]? = some 88) then jI (cB 16 (t.drop 2)) 1
  else jI (cB 10 (if t.head? = some 45 ∨ t.head? = some 43 then t.drop 1 else t)) (if t.head? = some 45 then -1 else 1)
theorem YW (base : Int) : ∀ (l : List UInt8), dU base l (-1) = none ∨ dU base l (-1) = some (-1)
  | [] => .inr rfl
  | b :: l => by
    rw [dU]
    split
    · exact .inl rfl
    · rw [if_neg (show ¬ (-1 : Int) ≥ 0 by omega), if_neg (by omega)]
      exact YW base l
theorem SG (base : Int) (hb : base = 10 ∨ base = 16) : ∀ (l : List UInt8) (n m : Int), 0 ≤ n → eF base l n = some m → dU base l n = some m
  | [], n, m, _, h => h
  | b :: l, n, m, h0, h => by
    rw [eF] at h
    split at h
    · cases h
    · rename_i hd
      split at h
      · cases h
      · rename_i hm
        have hlo := nG (c := b.toNat) (by omega)
        have hw : eX base b.toNat = dK b.toNat := by unfold eX; rw [if_neg hd]
        have hk : 0 ≤ n * base := by rcases hb with rfl | rfl <;> omega
        rw [dU, hw, if_neg (by omega), if_pos (show n ≥ 0 by omega), if_neg hm]
        exact SG base hb l _ m (by omega) h
theorem SH (base : Int) (hb : base = 10 ∨ base = 16) : ∀ (l : List UInt8) (n : Int), 0 ≤ n → eF base l n = none → dU base l n = none ∨ dU base l n = some (-1)
  | [], n, _, h => by simp [eF] at h
  | b :: l, n, h0, h => by
    rw [eF] at h
    have hlo := nG (c := b.toNat) (by omega)
    have hk : 0 ≤ n * base := by rcases hb with rfl | rfl <;> omega
    split at h
    · rename_i hd
      have hw : eX base b.toNat = -1 := by unfold eX; rw [if_pos hd]
      rw [dU, hw, if_pos (by omega)]
      exact .inl rfl
    · rename_i hd
      have hw : eX base b.toNat = dK b.toNat := by unfold eX; rw [if_neg hd]
      split at h
      · rename_i hm
        rw [dU, hw, if_neg (by omega), if_pos (show n ≥ 0 by omega), if_pos hm]
        exact YW base l
      · rename_i hm
        rw [dU, hw, if_neg (by omega), if_pos (show n ≥ 0 by omega), if_neg hm]
        exact SH base hb l _ (by omega) h
theorem ZG (base : Int) (hb : base = 10 ∨ base = 16) (l : List UInt8) (sign : Int) : jI (cB base l) sign = lQ (dE base l) sign := by
  have hlo := tZ base l hb
  unfold jI lQ
  cases h : eF base l 0 with
  | some m =>
    have h' := SG base hb l 0 m (by omega) h
    have e1 : dE base l = (m, decide (l ≠ [])) := by unfold dE; rw [h]
    have e2 : cB base l = (m, decide (l ≠ [])) := by unfold cB; rw [h']
    rw [e1] at hlo
    rw [e1, e2]
    by_cases hl : l ≠ []
    · rw [if_pos ⟨decide_eq_true hl, hlo.1⟩, if_pos (decide_eq_true hl)]
    · simp [hl]
  | none =>
    have e1 : dE base l = (0, false) := by unfold dE; rw [h]
    rw [e1]
    rcases SH base hb l 0 (by omega) h with h' | h'
    · have e2 : cB base l = (0, false) := by unfold cB; rw [h']
      rw [e2]; simp
    · have e2 : cB base l = (-1, decide (l ≠ [])) := by unfold cB; rw [h']
      rw [e2]; simp
theorem AZ {t : List UInt8} {a b : UInt8} : t.take 2 = [a, b] ↔ t[0]? = some a ∧ t[1]? = some b := by
  match t with
  | [] => simp
  | [x] => simp
  | x :: y :: r => simp
theorem YM (t : List UInt8) : kH t = oA t := by
  unfold kH oA
  by_cases h0 : t = []
  · rw [if_pos h0, if_pos h0]
  · rw [if_neg h0, if_neg h0]
    rw [ZG 16 (.inr rfl), ZG 10 (.inl rfl)]
    by_cases h16 : t.take 2 = [48, 120] ∨ t.take 2 = [48, 88]
    · rw [if_pos h16]
      have h16' := h16
      rw [AZ, AZ] at h16'
      by_cases hl : 2 < t.length
      · rw [if_pos ⟨hl, by rcases h16' with h | h <;> exact h.1, by rcases h16' with h | h; exact .inl h.2; exact .inr h.2⟩]
      · rw [if_neg (fun h => hl h.1)]
        have hd : t.drop 2 = [] := List.drop_of_length_le (by omega)
        have ht : t = t.take 2 := (List.take_of_length_le (by omega)).symm
        rw [hd]
        rcases h16 with h | h
        · rw [h] at ht; subst ht; rfl
        · rw [h] at ht; subst ht; rfl
    · rw [if_neg h16, if_neg (fun h => h16 (by rw [AZ, AZ]; rcases h.2.2 with e | e; exact .inl ⟨h.2.1, e⟩; exact .inr ⟨h.2.1, e⟩))]
def kZ (p : UInt8 → Bool) (l : List UInt8) : List UInt8 := (l.reverse.dropWhile p).reverse
theorem xI (p : UInt8 → Bool) (a : UInt8) (r : List UInt8) : kZ p (a :: r) = if kZ p r = [] then (if p a then [] else [a]) else a :: kZ p r := by
  unfold kZ
  rw [List.reverse_cons, List.dropWhile_append]
  by_cases h : r.reverse.dropWhile p = []
  · rw [h]
    simp only [List.isEmpty_nil, if_true, List.reverse_nil]
    cases hp : p a <;> simp [List.dropWhile, hp]
  · have : (r.reverse.dropWhile p).isEmpty = false := by simpa using h
    rw [this, if_neg (by simp), if_neg (by simpa using h)]
    simp
theorem DM (p : UInt8 → Bool) : ∀ l : List UInt8, kZ p (l.dropWhile p) = (kZ p l).dropWhile p
  | [] => rfl
  | a :: r => by
    have ih := DM p r
    rw [xI]
    cases hp : p a
    · rw [List.dropWhile_cons_of_neg (by simp [hp]), xI]
      split
      · simp [hp]
      · rw [List.dropWhile_cons_of_neg (by simp [hp])]
    · rw [List.dropWhile_cons_of_pos hp, ih]
      split
      · rename_i h; rw [h]; simp
      · rw [List.dropWhile_cons_of_pos hp]
theorem aBq (l : List UInt8) : kZ (aO.contains ·) (l.dropWhile (aO.contains ·)) = Lib.trimS l aO := DM _ l
attribute [local irreducible] G GC GQ GA bO Calls IntKind.wrap Int.decLt Int.decLe
theorem xB {r : Int × Bool} {sign : Int} (h : r.2 = true) (h' : 0 ≤ r.1) : jI r sign = ofF (sign * r.1) := by unfold jI; rw [if_pos ⟨h, h'⟩]
theorem sA {r : Int × Bool} {sign : Int} (h : r.2 = false ∨ r.1 < 0) : jI r sign = yE := by
  unfold jI
  rw [if_neg]
  rintro ⟨h1, h2⟩
  rcases h with h | h
  · rw [h1] at h; cases h
  · omega
theorem zG {s : ByteArray} (h : 0 < s.size) (hb : kK (bAt s 0) = true) : (bl s).dropWhile (aO.contains ·) = (bl (s.extract 1 s.size)).dropWhile (aO.contains ·) := by
  obtain ⟨b, h1, h2⟩ := gY h
  rw [h2, nH] at hb
  have e : bl s = b :: (bl s).drop 1 := by
    have := drop_cons h1
    simpa using this
  have e2 : bl (s.extract 1 s.size) = (bl s).drop 1 := by
    rw [bX]
    exact List.take_of_length_le (by rw [List.length_drop, aZ]; omega)
  rw [e2]
  conv => lhs; rw [e]
  rw [List.dropWhile_cons_of_pos hb]
theorem pG {s : ByteArray} (h : s.size = 0 ∨ kK (bAt s 0) = false) : (bl s).dropWhile (aO.contains ·) = bl s := by
  by_cases h0 : 0 < s.size
  · have hb := h.resolve_left (by omega)
    obtain ⟨b, h1, h2⟩ := gY h0
    rw [h2, nH] at hb
    have e : bl s = b :: (bl s).drop 1 := by
      have := drop_cons h1
      simpa using this
    rw [e, List.dropWhile_cons_of_neg (by simp only [hb]; decide)]
  · have : bl s = [] := List.eq_nil_of_length_eq_zero (by rw [aZ]; omega)
    rw [this]; rfl
theorem OG {s : ByteArray} (h : 0 < s.size) (hb : kK (bAt s (s.size - 1)) = true) : kZ (aO.contains ·) (bl s) = kZ (aO.contains ·) (bl (s.extract 0 (s.size - 1))) := by
  obtain ⟨b, h1, h2⟩ := gY (i := s.size - 1) (s := s) (by omega)
  rw [h2, nH] at hb
  have e2 : bl (s.extract 0 (s.size - 1)) = (bl s).take (s.size - 1) := by
    rw [bX]; simp
  have e : bl s = (bl s).take (s.size - 1) ++ [b] := by
    have := List.take_append_drop (s.size - 1) (bl s)
    rw [drop_cons h1, List.drop_of_length_le (by rw [aZ]; omega)] at this
    exact this.symm
  rw [e2]
  conv => lhs; rw [e]
  unfold kZ
  rw [List.reverse_append]
  show ((b :: List.reverse ((bl s).take (s.size - 1))).dropWhile _).reverse = _
  rw [List.dropWhile_cons_of_pos hb]
theorem xH {s : ByteArray} (h : s.size = 0 ∨ kK (bAt s (s.size - 1)) = false) : kZ (aO.contains ·) (bl s) = bl s := by
  by_cases h0 : 0 < s.size
  · have hb := h.resolve_left (by omega)
    obtain ⟨b, h1, h2⟩ := gY (i := s.size - 1) (s := s) (by omega)
    rw [h2, nH] at hb
    have e : bl s = (bl s).take (s.size - 1) ++ [b] := by
      have := List.take_append_drop (s.size - 1) (bl s)
      rw [drop_cons h1, List.drop_of_length_le (by rw [aZ]; omega)] at this
      exact this.symm
    rw [e]
    unfold kZ
    rw [List.reverse_append]
    show ((b :: List.reverse ((bl s).take (s.size - 1))).dropWhile _).reverse = _
    rw [List.dropWhile_cons_of_neg (by simp only [hb]; decide)]
    simp
  · have : bl s = [] := List.eq_nil_of_length_eq_zero (by rw [aZ]; omega)
    rw [this]; rfl
end
section
open Go.RowKit Go.Vcg
attribute [local irreducible] G GC GQ GA bO Calls IntKind.wrap Int.decLt Int.decLe
theorem LM (s : ByteArray) (a b : Nat) : (s.extract a b).size ≤ s.size := by
  rw [← aZ, bX, List.length_take, List.length_drop, aZ]; omega
theorem aHn (s : ByteArray) (h : 0 < s.size) : (s.extract 1 s.size).size < s.size := by
  rw [← aZ, bX, List.length_take, List.length_drop, aZ]; omega
theorem aHo (s : ByteArray) (h : 0 < s.size) : (s.extract 0 (s.size - 1)).size < s.size := by
  rw [← aZ, bX, List.length_take, List.length_drop, aZ]; omega
theorem HS {s : ByteArray} : s.size = 0 ↔ s = ⟨#[]⟩ := by
  rw [jA, ← aZ]
  exact List.length_eq_zero_iff
theorem xJ (base : Int) (hb : base = 10 ∨ base = 16) (l : List UInt8) : -1 ≤ (cB base l).1 ∧ (cB base l).1 ≤ 9007199254740992 := by
  have key : ∀ (l : List UInt8) (n : Int), -1 ≤ n → n ≤ 9007199254740992 → ∀ m, dU base l n = some m → -1 ≤ m ∧ m ≤ 9007199254740992 := by
    intro l
    induction l with
    | nil => intro n h0 h1 m h; simp only [dU, Option.some.injEq] at h; omega
    | cons b l ih =>
      intro n h0 h1 m h
      rw [dU] at h
      by_cases hw : eX base b.toNat < 0
      · rw [if_pos hw] at h; cases h
      · rw [if_neg hw] at h
        by_cases hn : n ≥ 0
        · rw [if_pos hn] at h
          have hk : 0 ≤ n * base := by rcases hb with rfl | rfl <;> omega
          by_cases hm : n * base + eX base b.toNat > 9007199254740992
          · rw [if_pos hm] at h
            exact ih _ (by omega) (by omega) m h
          · rw [if_neg hm] at h
            exact ih _ (by omega) (by omega) m h
        · rw [if_neg hn, if_neg (by omega)] at h
          exact ih _ (by omega) (by omega) m h
  unfold cB
  split
  · rename_i n h; exact key l 0 (by omega) (by omega) n h
  · simp
theorem sB (w : World) (μ : Mem) (hμ : MOk μ w) (s : ByteArray) (hs : s.size ≤ 9223372036854775807) :
    Calls Tryz.prog 66 #[.string s] w fun e w' => e = .returned (.agg (sT (jZ (bl s))).toArray) ∧ Below w.heap.size w w' := by
  refine aC Tryz.func66 rfl Tryz.ntmps66 (by simp) hμ ?_
  unfold jZ
  rw [← YM, ← aBq]
  repeat' (first | ((with_reducible show GC _ _ (Code.seq (Code.block 0 _) _) _ _ _ _); (refine cM (ι := ByteArray) (fun t => t.size ≤ s.size ∧ (bl s).dropWhile (aO.contains ·) = bl t) (fun _ => μ) (fun t => [(0, .string t), (2, .pointer (some ⟨b, 0, none⟩))]) (fun _ => [.inl ⟨b, 100, 3, idx 0 [.int .i64 0, .int .i64 0, .string ⟨#[]⟩]⟩]) ?_ ?_)) | refine KK ?_ | refine NB fun b => ?_ | fail)
  · refine aX (ι := ByteArray) (fun t => t.size ≤ s.size ∧ (bl s).dropWhile (aO.contains ·) = (bl t).dropWhile (aO.contains ·)) (fun t => t.size) (fun _ => μ) (fun t => [(0, .string t), (2, .pointer (some ⟨b, 0, none⟩))]) (fun _ => [.inl ⟨b, 100, 3, idx 0 [.int .i64 0, .int .i64 0, .string ⟨#[]⟩]⟩]) s ⟨Nat.le_refl _, rfl⟩ (fun a w hs => J6 hs) ?_
    rintro t ⟨htl, ht⟩
    by_cases h0 : t = ⟨#[]⟩
    · have h0' : ¬ t ≠ ⟨#[]⟩ := fun h => h h0
      repeat' (first | refine KK ?_ | refine KG ?_ | fail)
      exact J3 t ⟨htl, by rw [ht, pG (.inl (HS.2 h0))]⟩
    · have hpos : 0 < t.size := Nat.pos_of_ne_zero (fun h => h0 (HS.1 h))
      cases hb : kK (bAt t 0)
      · repeat' (first | refine KO ?_ | ((with_reducible apply C1); exact rfl; exact EN; exact fun w μc hw hse => tC w μc hw _ hb) | (refine KV (b := by exact U2 0) (c := ?_)) | refine KG ?_ | fail)
        exact J3 t ⟨htl, by rw [ht, pG (.inr hb)]⟩
      · have hlt := aHn t hpos
        repeat' (first | refine KO ?_ | ((with_reducible apply C1); exact rfl; exact EN; exact fun w μc hw hse => tC w μc hw _ hb) | (refine KV (b := by first | exact U2 0 | ((with_reducible apply iP 1); (iterate 4 exact rfl); omega)) (c := ?_)) | refine KG ?_ | fail)
        exact J4 (t.extract 1 t.size) ⟨by omega, by rw [ht, zG hpos hb]⟩ hlt
  rintro t0 ⟨htl0, ht0⟩
  rw [ht0]
  refine cM (ι := ByteArray) (fun u => u.size ≤ s.size ∧ kZ (aO.contains ·) (bl t0) = bl u) (fun _ => μ) (fun t => [(0, .string t), (2, .pointer (some ⟨b, 0, none⟩))]) (fun _ => [.inl ⟨b, 100, 3, idx 0 [.int .i64 0, .int .i64 0, .string ⟨#[]⟩]⟩]) ?_ ?_
  · repeat' (first | refine KK ?_ | fail)
    refine aX (ι := ByteArray) (fun u => u.size ≤ s.size ∧ kZ (aO.contains ·) (bl t0) = kZ (aO.contains ·) (bl u)) (fun t => t.size) (fun _ => μ) (fun t => [(0, .string t), (2, .pointer (some ⟨b, 0, none⟩))]) (fun _ => [.inl ⟨b, 100, 3, idx 0 [.int .i64 0, .int .i64 0, .string ⟨#[]⟩]⟩]) t0 ⟨htl0, rfl⟩ (fun a w hs => J6 hs) ?_
    rintro u ⟨hul, hu⟩
    by_cases h0 : u = ⟨#[]⟩
    · have h0' : ¬ u ≠ ⟨#[]⟩ := fun h => h h0
      repeat' (first | refine KK ?_ | refine KG ?_ | fail)
      exact J3 u ⟨hul, by rw [hu, xH (.inl (HS.2 h0))]⟩
    · have hpos : 0 < u.size := Nat.pos_of_ne_zero (fun h => h0 (HS.1 h))
      cases hb : kK (bAt u (u.size - 1))
      · repeat' (first | refine KO ?_ | ((with_reducible apply C1); exact rfl; exact EN; exact fun w μc hw hse => tC w μc hw _ hb) | (refine KV (b := by exact U2 (u.size - 1)) (c := ?_)) | refine KI ?_ | refine KG ?_ | fail)
        exact J3 u ⟨hul, by rw [hu, xH (.inr hb)]⟩
      · have hlt := aHo u hpos
        repeat' (first | refine KO ?_ | ((with_reducible apply C1); exact rfl; exact EN; exact fun w μc hw hse => tC w μc hw _ hb) | (refine KV (b := by first | exact U2 (u.size - 1) | ((with_reducible apply oG (u.size - 1)); (iterate 3 exact rfl); omega; omega)) (c := ?_)) | refine KI ?_ | refine KG ?_ | fail)
        exact J4 (u.extract 0 (u.size - 1)) ⟨by omega, by rw [hu, OG hpos hb]⟩ hlt
  rintro t ⟨htl, ht⟩
  rw [ht]
  clear ht
  have htm : t.size ≤ 9223372036854775807 := by omega
  by_cases h0 : t = ⟨#[]⟩
  · have hr : kH (bl t) = ofF 0 := by unfold kH; exact if_pos ((jA t).1 h0)
    rw [hr]
    repeat' (first | refine KO ?_ | ((with_reducible apply F1 97); exact rfl; exact EN; exact fun w μc hw hse => qZ w μc hw _) | refine KI ?_ | fail)
    exact bL rfl (RG 0 rfl rfl rfl rfl rfl) rfl
  · have h0' : bl t ≠ [] := fun h => h0 ((jA t).2 h)
    have hpos : 0 < t.size := Nat.pos_of_ne_zero (fun h => h0 (HS.1 h))
    have hh0 : ∀ b : UInt8, (bl t)[0]? = some b ↔ bAt t 0 = b.toNat := fun b => by rw [← List.head?_eq_getElem?]; exact sM hpos
    by_cases h16 : 2 < t.size ∧ bAt t 0 = 48 ∧ (bAt t 1 = 120 ∨ bAt t 1 = 88)
    · obtain ⟨h2, h48, hx⟩ := h16
      have hr : kH (bl t) = jI (cB 16 ((bl t).drop 2)) 1 := by
        obtain ⟨b1, e1, e2⟩ := gY (s := t) (i := 1) (by omega)
        unfold kH
        rw [if_neg h0', if_pos]
        refine ⟨by rw [aZ]; exact h2, (hh0 48).2 h48, ?_⟩
        rw [e1]
        rcases hx with hx | hx
        · exact .inl (congrArg some (UInt8.toNat_inj.1 (by rw [show (120 : UInt8).toNat = 120 from rfl]; omega)))
        · exact .inr (congrArg some (UInt8.toNat_inj.1 (by rw [show (88 : UInt8).toNat = 88 from rfl]; omega)))
      rw [hr]
      have hu : bl (t.extract 2 t.size) = (bl t).drop 2 := by
        rw [bX]
        exact List.take_of_length_le (by rw [List.length_drop, aZ]; omega)
      have hus : (t.extract 2 t.size).size ≤ 9223372036854775807 := by have := LM t 2 t.size; omega
      have hcnt : ∀ (w : World) (μ : Mem), MOk μ w → Calls Tryz.prog 98 #[.string (t.extract 2 t.size), .int .i64 16] w fun e w' => e = .returned (.tuple #[.int .i64 (cB 16 ((bl t).drop 2)).1, .bool (cB 16 ((bl t).drop 2)).2]) ∧ Below w.heap.size w w' := fun w μ hμ => by
        have := mD w μ hμ (t.extract 2 t.size) 16 (.inr rfl) hus
        rw [hu] at this
        exact this
      generalize cB 16 ((bl t).drop 2) = r at hcnt
      repeat' (first | refine KO ?_ | ((with_reducible apply F1 97); exact rfl; exact EN; exact fun w μc hw hse => qZ w μc hw _) | ((with_reducible apply F1 98); exact rfl; exact EN; exact fun w μc hw hse => hcnt w μc hw) | (refine KV (b := by first | exact U2 0 | exact U2 1 | ((with_reducible apply iP 2); (iterate 4 exact rfl); omega)) (c := ?_)) | refine KI ?_ | (refine KB ?_ ?_ <;> intro hp) | refine KG ?_ | fail)
      all_goals first
        | (exfalso; omega)
        | (rw [xB (by assumption) (by omega), Int.one_mul]; exact bL rfl (RG 0 rfl rfl rfl rfl rfl) rfl)
        | (rw [sA (.inl (by assumption))]; exact bL rfl (RG 0 rfl rfl rfl rfl rfl) rfl)
        | (rw [sA (.inr (by omega))]; exact bL rfl (RG 0 rfl rfl rfl rfl rfl) rfl)
    · have hr : kH (bl t) = jI (cB 10 (if bAt t 0 = 45 ∨ bAt t 0 = 43 then (bl t).drop 1 else bl t)) (if bAt t 0 = 45 then -1 else 1) := by
        unfold kH
        have hh := sM (s := t) (b := 45) hpos
        have hh' := sM (s := t) (b := 43) hpos
        rw [if_neg h0', if_neg]
        · simp only [hh, hh']; rfl
        · rintro ⟨h2, h48, hx⟩
          rw [aZ] at h2
          obtain ⟨b1, e1, e2⟩ := gY (s := t) (i := 1) (by omega)
          rw [e1] at hx
          refine h16 ⟨h2, (hh0 48).1 h48, ?_⟩
          rcases hx with hx | hx
          · cases hx; exact .inl e2
          · cases hx; exact .inr e2
      have hr2 : bAt t 0 = 45 → kH (bl t) = jI (cB 10 ((bl t).drop 1)) (-1) := fun h => by rw [hr, if_pos (.inl h), if_pos h]
      have hr3 : bAt t 0 = 43 → kH (bl t) = jI (cB 10 ((bl t).drop 1)) 1 := fun h => by rw [hr, if_pos (.inr h), if_neg (by omega)]
      have hr4 : ¬ (bAt t 0 = 45 ∨ bAt t 0 = 43) → kH (bl t) = jI (cB 10 (bl t)) 1 := fun h => by rw [hr, if_neg h, if_neg (by omega)]
      clear hr
      generalize kH (bl t) = rv at hr2 hr3 hr4
      have hu : bl (t.extract 1 t.size) = (bl t).drop 1 := by
        rw [bX]
        exact List.take_of_length_le (by rw [List.length_drop, aZ]; omega)
      have hus : (t.extract 1 t.size).size ≤ 9223372036854775807 := by have := LM t 1 t.size; omega
      have hcnt : ∀ (w : World) (μ : Mem), MOk μ w → Calls Tryz.prog 98 #[.string (t.extract 1 t.size), .int .i64 10] w fun e w' => e = .returned (.tuple #[.int .i64 (cB 10 ((bl t).drop 1)).1, .bool (cB 10 ((bl t).drop 1)).2]) ∧ Below w.heap.size w w' := fun w μ hμ => by
        have := mD w μ hμ (t.extract 1 t.size) 10 (.inl rfl) hus
        rw [hu] at this
        exact this
      have c1 := xJ 10 (.inl rfl) ((bl t).drop 1)
      have c2 := xJ 10 (.inl rfl) (bl t)
      have hc2 := fun w μ hμ => mD w μ hμ t 10 (.inl rfl) htm
      generalize cB 10 ((bl t).drop 1) = r1 at hcnt c1 hr2 hr3
      generalize cB 10 (bl t) = r2 at hc2 c2 hr4
      repeat' (first | refine KO ?_ | ((with_reducible apply F1 97); exact rfl; exact EN; exact fun w μc hw hse => qZ w μc hw _) | ((with_reducible apply F1 98); exact rfl; exact EN; first | exact fun w μc hw hse => hcnt w μc hw | exact fun w μc hw hse => hc2 w μc hw) | (refine KV (b := by first | exact U2 0 | exact U2 1 | ((with_reducible apply iP 1); (iterate 4 exact rfl); omega) | ((with_reducible apply RH); exact rfl; omega)) (c := ?_)) | refine KI ?_ | (refine KB ?_ ?_ <;> intro hp) | refine KG ?_ | fail)
      all_goals first | rw [hr2 (by omega)] | rw [hr3 (by omega)] | rw [hr4 (by omega)]
      all_goals first
        | (rw [xB (by assumption) (by omega), Int.one_mul]; exact bL rfl (RG 0 rfl rfl rfl rfl rfl) rfl)
        | (rw [xB (by assumption) (by omega), Int.neg_one_mul]; exact bL rfl (RG 0 rfl rfl rfl rfl rfl) rfl)
        | (rw [sA (.inl (by assumption))]; exact bL rfl (RG 0 rfl rfl rfl rfl rfl) rfl)
        | (rw [sA (.inr (by omega))]; exact bL rfl (RG 0 rfl rfl rfl rfl rfl) rfl)
end
section
open Go.RowKit Go.Vcg
def iB (v : V) : Bool := decide (v.k = 3) && (decide (v.s = ⟨#[]⟩) && inF v.n)
theorem aCs {n : Int} : inF n = true ↔ -9007199254740992 ≤ n ∧ n ≤ 9007199254740992 := by simp [inF]
theorem HC {v : V} (h : iB v = true) : -9007199254740992 ≤ v.n ∧ v.n ≤ 9007199254740992 := by
  unfold iB at h
  simp only [Bool.and_eq_true] at h
  exact aCs.1 h.2.2
def isF (v : V) : Bool := iB v || uY (sT v) (sT yE)
attribute [local irreducible] G GC GQ GA bO Calls IntKind.wrap Int.decLt Int.decLe
section
variable (w : World) (μ : Mem) (hμ : MOk μ w)
include hμ
theorem MO (v : V) : Calls Tryz.prog 90 #[.agg (sT v).toArray] w fun e w' => e = .returned (.tuple #[.int .i64 v.n, .bool (iB v)]) ∧ Below w.heap.size w w' := by
  refine aC Tryz.func90 rfl Tryz.ntmps90 (by simp) hμ ?_
  repeat' (first | refine KK ?_ | refine NB fun b => ?_ | fail)
  refine aN 17 _ (by kernel_rfl) rfl (List.Sublist.cons_cons _ (List.nil_sublist _)) ?_
  all_goals refine DD 0 ?_
  all_goals refine DD 1 ?_
  all_goals refine DD 2 ?_
  all_goals refine DD 3 ?_
  all_goals refine DD 4 ?_
  all_goals refine DD 5 ?_
  all_goals (try (refine D7 6 ?_; (repeat' ((refine KB ?_ ?_ <;> intro hp)))))
  all_goals refine DD 6 ?_
  all_goals refine DD 7 ?_
  all_goals refine DD 8 ?_
  all_goals refine DD 9 ?_
  all_goals refine DD 10 ?_
  all_goals (try (refine D7 11 ?_; (repeat' ((refine KB ?_ ?_ <;> intro hp)))))
  all_goals refine DD 11 ?_
  all_goals refine DD 12 ?_
  all_goals (first | (refine D3 13 ?_; refine D5 ?_; (with_reducible apply C1); exact rfl; exact EN; exact fun w μc hw hse => TH v.n w μc hw; refine D9 ?_) | refine D3 13 (D6 ?_))
  all_goals refine DD 14 ?_
  all_goals refine DD 15 ?_
  all_goals refine DD 16 ?_
  all_goals refine D8 ?_
  all_goals repeat' (first | refine KK ?_ | fail)
  all_goals refine tM rfl rfl rfl rfl ?_
  all_goals unfold iB
  all_goals simp_all
theorem HB (v : V) {c : Bool} (h : iB v = c) : Calls Tryz.prog 90 #[.agg (sT v).toArray] w fun e w' => e = .returned (.tuple #[.int .i64 v.n, .bool c]) ∧ Below w.heap.size w w' := by
  have := MO w μ hμ v
  rwa [h] at this
end
end
section
open Go.RowKit Go.Vcg
attribute [local irreducible] G GC GQ GA bO Calls IntKind.wrap Int.decLt Int.decLe
end
section
open Go.RowKit Go.Vcg
def vB : String := ((Rows.irKindsRow.laid[2]?).map (·.1)).getD ""
def kN (μ : Mem) : Prop := ∀ w, MOk μ w → Lib.TabIs Tryz.prog w vB .u64 Lib.pow10Tab
theorem kN.mono {μ μ' : Mem} (h : kN μ) (hle : MLe μ μ') : kN μ' := fun w hw => h w (fun b o e => hw b o (hle b o e))
def aE1 : ByteArray := ⟨#[78, 97, 78]⟩
def jE (v : V) : ByteArray := if iB v = true then ⟨(Lib.itoa v.n).toArray⟩ else aE1
attribute [local irreducible] G GC GQ GA bO Calls IntKind.wrap Int.decLt Int.decLe
theorem WJ (n : Int) (hn : -9007199254740992 ≤ n ∧ n ≤ 9007199254740992) (w : World) (ht : Lib.TabIs Tryz.prog w vB .u64 Lib.pow10Tab) :
    Calls Tryz.prog 91 #[.int .i64 n] w fun e w' => e = .returned (.string ⟨(Lib.itoa n).toArray⟩) ∧ Below w.heap.size w w' :=
  (Any.strconv_Itoa Tryz.laysM171 n (by omega) (by omega) w ht).mono fun e w' ⟨he, k, os, hw⟩ => ⟨he, by rw [hw]; exact Lib.below_grow _ w (Nat.le_refl _) k os⟩
section
variable (w : World) (μ : Mem) (hμ : MOk μ w) (ht : kN μ)
include hμ ht
theorem tI (v : V) : Calls Tryz.prog 61 #[.agg (sT v).toArray] w fun e w' => e = .returned (.string (jE v)) ∧ Below w.heap.size w w' := by
  refine aC Tryz.func61 rfl Tryz.ntmps61 (by simp) hμ ?_
  cases hw : iB v
  · have hF : jE v = aE1 := by unfold jE; rw [if_neg (by simp [hw])]
    rw [hF]
    repeat' (first | refine KO ?_ | ((with_reducible apply F1 90); exact rfl; exact EN; exact fun w μc hw' hse => HB w μc hw' v hw) | refine KI ?_ | refine NB fun b => ?_ | fail)
    exact aD rfl rfl rfl
  · have hF : jE v = ⟨(Lib.itoa v.n).toArray⟩ := by unfold jE; rw [if_pos hw]
    rw [hF]
    have hn := HC hw
    repeat' (first | refine KO ?_ | ((with_reducible apply F1 90); exact rfl; exact EN; exact fun w μc hw' hse => HB w μc hw' v hw) | ((with_reducible apply F1 91); exact rfl; exact EN; exact fun w μc hw' hse => WJ v.n hn w ((ht.mono hse.le) w hw')) | refine KI ?_ | refine NB fun b => ?_ | fail)
    exact aD rfl rfl rfl
end
end
section
open Go.RowKit Go.Vcg
theorem DB (v : V) : isF v = (decide (v.s = ⟨#[]⟩) && ((decide (v.k = 3) && inF v.n) || (decide (v.k = 4) && decide (v.n = 0)))) := by
  cases v
  rw [Bool.eq_iff_iff]
  simp only [isF, iB, uY, eqV, yE, noS, Bool.or_eq_true, Bool.and_eq_true, decide_eq_true_eq]
  constructor
  · rintro (⟨h1, h2, h3⟩ | ⟨h1, h2, h3, _⟩)
    · exact ⟨h2, .inl ⟨h1, h3⟩⟩
    · exact ⟨of_decide_eq_true h3, .inr ⟨of_decide_eq_true h1, of_decide_eq_true h2⟩⟩
  · rintro ⟨h1, ⟨h2, h3⟩ | ⟨h2, h3⟩⟩
    · exact .inl ⟨h2, h1, h3⟩
    · exact .inr ⟨decide_eq_true h2, decide_eq_true h3, decide_eq_true h1, trivial⟩
theorem WL (v : V) : (isF v && decide (v.k = 3)) = iB v := by
  rw [DB]
  unfold iB
  rw [Bool.eq_iff_iff]
  simp only [Bool.or_eq_true, Bool.and_eq_true, decide_eq_true_eq]
  constructor
  · rintro ⟨⟨h1, ⟨h2, h3⟩ | ⟨h2, h3⟩⟩, h4⟩
    · exact ⟨h2, h1, h3⟩
    · omega
  · rintro ⟨h1, h2, h3⟩
    exact ⟨⟨h2, .inl ⟨h1, h3⟩⟩, h1⟩
theorem zI (n : Nat) : (Lib.decDigits n).length ≤ n + 1 := by
  induction n using Nat.strongRecOn with
  | _ n ih =>
    rw [Lib.decDigits]
    split
    · simp
    · have := ih (n / 10) (by omega)
      simp; omega
def HK : ByteArray := ⟨#[48, 49, 50, 51, 52, 53, 54, 55, 56, 57]⟩
theorem MX (k : Nat) (h : k < 10) : HK.extract k (k + 1) = ⟨#[UInt8.ofNat (48 + k)]⟩ := by
  have : k = 0 ∨ k = 1 ∨ k = 2 ∨ k = 3 ∨ k = 4 ∨ k = 5 ∨ k = 6 ∨ k = 7 ∨ k = 8 ∨ k = 9 := by omega
  rcases this with rfl | rfl | rfl | rfl | rfl | rfl | rfl | rfl | rfl | rfl <;> rfl
theorem tD (a b : List UInt8) : (⟨a.toArray⟩ : ByteArray) ++ (⟨b.toArray⟩ : ByteArray) = ⟨(a ++ b).toArray⟩ := by
  apply lF
  simp [bl, ByteArray.data_append]
attribute [local irreducible] G GC GQ GA bO Calls IntKind.wrap Int.decLt Int.decLe
section
variable (w : World) (μ : Mem) (hμ : MOk μ w)
include hμ
theorem OE (v : V) : Calls Tryz.prog 130 #[.agg (sT v).toArray] w fun e w' => e = .returned (.bool (isF v)) ∧ Below w.heap.size w w' := by
  refine aC Tryz.func130 rfl Tryz.ntmps130 (by simp) hμ ?_
  rw [DB]
  unfold inF
  repeat' (first | refine KK ?_ | refine NB fun b => ?_ | (refine KB ?_ ?_ <;> intro hp) | refine KG ?_ | fail)
  all_goals refine aD rfl rfl ?_
  all_goals first | (simp_all; done) | (simp_all; omega)
theorem EY (v : V) : Calls Tryz.prog 99 #[.agg (sT v).toArray] w fun e w' => e = .returned (.bool (iB v)) ∧ Below w.heap.size w w' := by
  refine aC Tryz.func99 rfl Tryz.ntmps99 (by simp) hμ ?_
  rw [← WL]
  repeat' (first | refine KO ?_ | ((with_reducible apply C1); exact rfl; exact EN; exact fun w μc hw hse => OE w μc hw v) | refine KI ?_ | refine NB fun b => ?_ | (refine KB ?_ ?_ <;> intro hp) | refine KG ?_ | fail)
  all_goals refine aD rfl rfl ?_
  all_goals simp [hp]
theorem EF (v : V) {c : Bool} (h : iB v = c) : Calls Tryz.prog 99 #[.agg (sT v).toArray] w fun e w' => e = .returned (.bool c) ∧ Below w.heap.size w w' := by
  have := EY w μ hμ v
  rwa [h] at this
end
theorem uT (n : Nat) : n ≤ 9007199254740992 → ∀ (w : World) (μ : Mem), MOk μ w → Calls Tryz.prog 100 #[.int .i64 n] w fun e w' => e = .returned (.string ⟨(Lib.decDigits n).toArray⟩) ∧ Below w.heap.size w w' := by
  induction n using Nat.strongRecOn with
  | _ n ih =>
    intro hn w μ hμ
    refine aC Tryz.func100 rfl Tryz.ntmps100 (by simp) hμ ?_
    by_cases h10 : n < 10
    · have hF : (⟨(Lib.decDigits n).toArray⟩ : ByteArray) = HK.extract n (n + 1) := by rw [MX n h10, Lib.decDigits, dif_pos h10]
      rw [hF]
      have hts : HK.size = 10 := rfl
      repeat' (first | refine KO ?_ | (refine KV (b := by ((with_reducible apply jH (b := HK) n (n + 1)); (iterate 5 exact rfl); (exact rfl); omega; omega)) (c := ?_)) | refine KI ?_ | fail)
      exact aD rfl rfl rfl
    · have hF : (⟨(Lib.decDigits n).toArray⟩ : ByteArray) = (⟨(Lib.decDigits (n / 10)).toArray⟩ : ByteArray) ++ HK.extract (n % 10) (n % 10 + 1) := by
        rw [MX (n % 10) (by omega), Lib.decDigits, dif_neg h10, ← tD]
      rw [hF]
      have hts : HK.size = 10 := rfl
      have hl := zI (n / 10)
      have hsz : (⟨(Lib.decDigits (n / 10)).toArray⟩ : ByteArray).size + (HK.extract (n % 10) (n % 10 + 1)).size ≤ 9223372036854775807 := by
        have h1 : (⟨(Lib.decDigits (n / 10)).toArray⟩ : ByteArray).size = (Lib.decDigits (n / 10)).length := by simp [ByteArray.size]
        rw [h1, MX (n % 10) (by omega)]
        have h2 : (⟨#[UInt8.ofNat (48 + n % 10)]⟩ : ByteArray).size = 1 := rfl
        omega
      have hq : (n : Int).tdiv 10 = ((n / 10 : Nat) : Int) := rfl
      have hr : (n : Int).tmod 10 = ((n % 10 : Nat) : Int) := rfl
      have hqb : -9223372036854775808 ≤ (n : Int).tdiv 10 ∧ (n : Int).tdiv 10 ≤ 9223372036854775807 := by rw [hq]; omega
      repeat' (first | refine KK ?_ | fail)
      refine aN 12 (_) (by kernel_rfl) rfl (by exact List.Sublist.refl _) ?_
      all_goals refine DD 0 ?_
      all_goals (first | refine DD 1 ?_ | fail)
      all_goals refine DD 3 ?_
      all_goals refine DD 4 ?_
      all_goals (first | refine DD 5 ?_ | fail)
      all_goals refine DD 6 ?_
      all_goals (first | refine DD 7 ?_ | fail)
      all_goals (first | refine DD 8 ?_ | fail)
      all_goals (first | (refine DV (k := 9) (b := by ((with_reducible apply jH (b := HK) (n % 10) (n % 10 + 1)); (iterate 3 exact rfl); exact hr; exact rfl; (rw [hr]; rfl); omega; omega)) (c := ?_)) | fail)
      all_goals ((refine D3 2 ?_; refine D5 ?_; (with_reducible apply C1); exact rfl; exact EN; exact fun w μc hw hse => ih (n / 10) (by omega) (by omega) w μc hw; refine D9 ?_))
      all_goals (first | (refine DV (k := 10) (b := by ((with_reducible apply DX); exact rfl; exact rfl; exact hsz)) (c := ?_)) | fail)
      all_goals refine DD 11 ?_
      all_goals refine D8 ?_
      repeat' (first | refine KK ?_ | fail)
      exact aD rfl rfl rfl
end
section
open Go.RowKit Go.Vcg
attribute [local irreducible] G GC GQ GA bO Calls IntKind.wrap Int.decLt Int.decLe
section
variable (w : World) (μ : Mem) (hμ : MOk μ w)
include hμ
theorem nO (v : V) : Calls Tryz.prog 67 #[.agg (sT v).toArray] w fun e w' => e = .returned (.string (jE v)) ∧ Below w.heap.size w w' := by
  refine aC Tryz.func67 rfl Tryz.ntmps67 (by simp) hμ ?_
  cases hw : iB v
  · have hF : jE v = aE1 := by unfold jE; rw [if_neg (by simp [hw])]
    rw [hF]
    repeat' (first | refine KO ?_ | ((with_reducible apply F1 99); exact rfl; exact EN; exact fun w μc hw' hse => EF w μc hw' v hw) | refine KI ?_ | refine NB fun b => ?_ | fail)
    exact aD rfl rfl rfl
  · have hn := HC hw
    by_cases h0 : v.n < 0
    · have hF : jE v = (⟨#[45]⟩ : ByteArray) ++ (⟨(Lib.decDigits (-v.n).toNat).toArray⟩ : ByteArray) := by
        unfold jE; rw [if_pos hw]
        unfold Lib.itoa; rw [if_pos h0]
        have : v.n.natAbs = (-v.n).toNat := by omega
        rw [this]
        exact (tD [45] _).symm
      rw [hF]
      have hd : -v.n = (((-v.n).toNat : Nat) : Int) := by omega
      have hl := zI (-v.n).toNat
      have hsz : (⟨#[45]⟩ : ByteArray).size + (⟨(Lib.decDigits (-v.n).toNat).toArray⟩ : ByteArray).size ≤ 9223372036854775807 := by
        have h1 : (⟨(Lib.decDigits (-v.n).toNat).toArray⟩ : ByteArray).size = (Lib.decDigits (-v.n).toNat).length := by simp [ByteArray.size]
        have h2 : (⟨#[45]⟩ : ByteArray).size = 1 := rfl
        omega
      have hdig : ∀ (w : World) (μ : Mem), MOk μ w → Calls Tryz.prog 100 #[.int .i64 (-v.n)] w fun e w' => e = .returned (.string ⟨(Lib.decDigits (-v.n).toNat).toArray⟩) ∧ Below w.heap.size w w' := fun w μ hμ => by
        have := uT (-v.n).toNat (by omega) w μ hμ
        rw [← hd] at this
        exact this
      repeat' (first | refine KO ?_ | ((with_reducible apply F1 99); exact rfl; exact EN; exact fun w μc hw' hse => EF w μc hw' v hw) | ((with_reducible apply F1 100); exact rfl; exact EN; exact fun w μc hw' hse => hdig w μc hw') | (refine KV (b := by ((with_reducible apply DX); exact rfl; exact rfl; exact hsz)) (c := ?_)) | refine KI ?_ | refine NB fun b => ?_ | fail)
      exact aD rfl rfl rfl
    · have hF : jE v = ⟨(Lib.decDigits v.n.toNat).toArray⟩ := by
        unfold jE; rw [if_pos hw]
        unfold Lib.itoa; rw [if_neg h0]
      rw [hF]
      have hd : v.n = ((v.n.toNat : Nat) : Int) := by omega
      have hdig : ∀ (w : World) (μ : Mem), MOk μ w → Calls Tryz.prog 100 #[.int .i64 v.n] w fun e w' => e = .returned (.string ⟨(Lib.decDigits v.n.toNat).toArray⟩) ∧ Below w.heap.size w w' := fun w μ hμ => by
        have := uT v.n.toNat (by omega) w μ hμ
        rw [← hd] at this
        exact this
      repeat' (first | refine KO ?_ | ((with_reducible apply F1 99); exact rfl; exact EN; exact fun w μc hw' hse => EF w μc hw' v hw) | ((with_reducible apply F1 100); exact rfl; exact EN; exact fun w μc hw' hse => hdig w μc hw') | refine KI ?_ | refine NB fun b => ?_ | fail)
      exact aD rfl rfl rfl
end
end
section
open Go.RowKit Go.Vcg
theorem count_append (base : Int) : ∀ (l : List UInt8) (b : UInt8) (n : Int), eF base (l ++ [b]) n = match eF base l n with
    | none => none
    | some k => if dK b.toNat ≥ base then none else if k * base + dK b.toNat > 9007199254740992 then none else some (k * base + dK b.toNat)
  | [], b, n => by simp [eF]
  | a :: l, b, n => by
    rw [List.cons_append, eF, eF]
    split
    · rfl
    · split
      · rfl
      · exact count_append base l b _
theorem rL {k : Nat} (h : k < 10) : ((UInt8.ofNat (48 + k)).toNat : Int) = 48 + k := by
  have : (UInt8.ofNat (48 + k)).toNat = 48 + k := by
    rw [UInt8.toNat_ofNat']
    exact Nat.mod_eq_of_lt (by omega)
  omega
theorem sV {k : Nat} (h : k < 10) : dK ((UInt8.ofNat (48 + k)).toNat : Int) = k := by
  rw [rL h]
  unfold dK
  rw [if_pos (by omega)]
  omega
theorem sY (m : Nat) : m ≤ 9007199254740992 → eF 10 (Lib.decDigits m) 0 = some (m : Int) := by
  induction m using Nat.strongRecOn with
  | _ m ih =>
    intro hm
    rw [Lib.decDigits]
    split
    · rename_i h
      rw [eF, sV h, if_neg (by omega), if_neg (by omega), eF]
      congr 1; omega
    · rename_i h
      have h10 : m % 10 < 10 := by omega
      rw [count_append, ih (m / 10) (by omega) (by omega)]
      simp only [sV h10]
      rw [if_neg (by omega), if_neg (by omega)]
      congr 1; omega
theorem zH (m : Nat) : ∀ b ∈ Lib.decDigits m, 48 ≤ b.toNat ∧ b.toNat ≤ 57 := by
  induction m using Nat.strongRecOn with
  | _ m ih =>
    intro b hb
    rw [Lib.decDigits] at hb
    split at hb
    · rename_i h
      simp only [List.mem_singleton] at hb
      have := rL h
      rw [hb]; omega
    · rcases List.mem_append.1 hb with hb | hb
      · exact ih (m / 10) (by omega) b hb
      · simp only [List.mem_singleton] at hb
        have := rL (k := m % 10) (by omega)
        rw [hb]; omega
theorem DN (m : Nat) : Lib.decDigits m ≠ [] := by
  rw [Lib.decDigits]
  split <;> simp
theorem DL {p : UInt8 → Bool} : ∀ {l : List UInt8}, (∀ b ∈ l, p b = false) → l.dropWhile p = l
  | [], _ => rfl
  | a :: l, h => List.dropWhile_cons_of_neg (by rw [h a (by simp)]; decide)
theorem AY {l : List UInt8} (h : ∀ b ∈ l, aO.contains b = false) : Lib.trimS l aO = l := by
  unfold Lib.trimS Lib.trimLeftS Lib.trimRightS
  rw [DL (p := (aO.contains ·)) (l := l.reverse) (fun b hb => h b (List.mem_reverse.1 hb)), List.reverse_reverse, DL h]
theorem QL {b : UInt8} (h : 45 = b.toNat ∨ 48 ≤ b.toNat ∧ b.toNat ≤ 57) : aO.contains b = false := by
  rw [← nH]
  unfold kK
  simp
  omega
theorem JN (l : List UInt8) (m : Nat) (s : Int) (hl : l ≠ []) (h : eF 10 l 0 = some (m : Int)) : lQ (dE 10 l) s = ofF (s * m) := by
  have e1 : dE 10 l = ((m : Int), true) := by unfold dE; rw [h]; simp [hl]
  rw [e1]; rfl
theorem VT (n : Int) (hn : -9007199254740992 ≤ n ∧ n ≤ 9007199254740992) : jZ (Lib.itoa n) = ofF n := by
  unfold jZ Lib.itoa
  split
  · rename_i h0
    have hm := zH n.natAbs
    rw [AY (fun b hb => by
      rcases List.mem_cons.1 hb with rfl | hb
      · exact QL (.inl rfl)
      · exact QL (.inr (hm b hb)))]
    unfold oA
    rw [if_neg (by simp), if_neg (by intro h; rcases h with h | h <;> simp at h), if_pos (.inl rfl), if_pos (show (45 :: Lib.decDigits n.natAbs).head? = some 45 from rfl)]
    rw [List.drop_one, List.tail_cons, JN _ _ _ (DN _) (sY _ (by omega))]
    congr 1; omega
  · rename_i h0
    have hm := zH n.toNat
    have hne := DN n.toNat
    have hc := sY n.toNat (by omega)
    rw [AY (fun b hb => QL (.inr (hm b hb)))]
    generalize Lib.decDigits n.toNat = l at *
    unfold oA
    have hhd : ∀ c : UInt8, (c.toNat < 48 ∨ 57 < c.toNat) → l.head? ≠ some c := fun c hcc h => by
      have := hm c (List.mem_of_head? h)
      omega
    rw [if_neg hne, if_neg (by
      rw [AZ, AZ]
      rintro (⟨_, h⟩ | ⟨_, h⟩)
      · have := hm _ (List.mem_of_getElem? h)
        revert this; decide
      · have := hm _ (List.mem_of_getElem? h)
        revert this; decide)]
    rw [if_neg (fun h => by rcases h with h | h; exact hhd 45 (by decide) h; exact hhd 43 (by decide) h), if_neg (hhd 45 (by decide)), JN _ _ _ hne hc]
    congr 1; omega
end
end Go.Proofs.YtoclmkdfcafhfaaGreatDoor
namespace Go.Proofs
open Go.Shelf Go.RowKit Go.Lib
section
variable {P : Program} {ρ : Ren}
set_option maxHeartbeats 2000000 in
set_option maxRecDepth 100000 in
set_option maxHeartbeats 2000000 in
set_option maxRecDepth 100000 in
end
end Go.Proofs
namespace Go.Proofs.YtoclmkdfcafhfaaGreatDoor
open Go.Shelf Go.RowKit Go.Vcg
def aG0 : Ren := ⟨fun | 166 => 70 | 167 => 72 | 240 => 103 | 276 => 132 | n => n, fun | 37 => 73 | 70 => 72 | 72 => 75 | 75 => 106 | 80 => 58 | 164 => 154 | n => n, fun n => n⟩
theorem MI : Lays.n166 Tryz.prog aG0 := {
  mixed := by kernel_rfl
  f166 := Tryz.func70.trans (congrArg some (by kernel_rfl))
  f240 := Tryz.func103.trans (congrArg some (by kernel_rfl))
  f276 := Tryz.func132.trans (congrArg some (by kernel_rfl))
  t0 := by kernel_rfl
  a0 := Go.Vcg.cI (by kernel_rfl)
  z0 := Go.Vcg.run_sizeOf (by kernel_rfl)
  v0 := Go.Vcg.aK (by kernel_rfl)
  t3 := by kernel_rfl
  a3 := Go.Vcg.cI (by kernel_rfl)
  z3 := Go.Vcg.run_sizeOf (by kernel_rfl)
  v3 := Go.Vcg.aK (by kernel_rfl)
  t4 := by kernel_rfl
  a4 := Go.Vcg.cI (by kernel_rfl)
  z4 := Go.Vcg.run_sizeOf (by kernel_rfl)
  v4 := Go.Vcg.aK (by kernel_rfl)
  t9 := by kernel_rfl
  a9 := Go.Vcg.cI (by kernel_rfl)
  z9 := Go.Vcg.run_sizeOf (by kernel_rfl)
  v9 := Go.Vcg.aK (by kernel_rfl)
  t20 := by kernel_rfl
  a20 := Go.Vcg.cI (by kernel_rfl)
  z20 := Go.Vcg.run_sizeOf (by kernel_rfl)
  v20 := Go.Vcg.aK (by kernel_rfl)
  t37 := by kernel_rfl
  a37 := Go.Vcg.cI (by kernel_rfl)
  z37 := Go.Vcg.run_sizeOf (by kernel_rfl)
  v37 := Go.Vcg.aK (by kernel_rfl)
  t70 := by kernel_rfl
  a70 := Go.Vcg.cI (by kernel_rfl)
  z70 := Go.Vcg.run_sizeOf (by kernel_rfl)
  v70 := Go.Vcg.aK (by kernel_rfl)
  t72 := by kernel_rfl
  a72 := Go.Vcg.cI (by kernel_rfl)
  z72 := Go.Vcg.run_sizeOf (by kernel_rfl)
  v72 := Go.Vcg.aK (by kernel_rfl)
  t75 := by kernel_rfl
  a75 := Go.Vcg.cI (by kernel_rfl)
  z75 := Go.Vcg.run_sizeOf (by kernel_rfl)
  v75 := Go.Vcg.aK (by kernel_rfl)
  t164 := by kernel_rfl
  a164 := Go.Vcg.cI (by kernel_rfl)
  z164 := Go.Vcg.run_sizeOf (by kernel_rfl)
  v164 := Go.Vcg.aK (by kernel_rfl) }
theorem MG : Builder.Extra Tryz.prog aG0 := {
  sizeBuilder := by kernel_rfl
  liesBuilder := by kernel_rfl
  t5 := by kernel_rfl
  a5 := Go.Vcg.cI (by kernel_rfl)
  z5 := Go.Vcg.run_sizeOf (by kernel_rfl)
  v5 := Go.Vcg.aK (by kernel_rfl)
  infoByte := by kernel_rfl
  cellsByte := by kernel_rfl
  sizeByte := by kernel_rfl
  neB5 := by decide }
end Go.Proofs.YtoclmkdfcafhfaaGreatDoor
