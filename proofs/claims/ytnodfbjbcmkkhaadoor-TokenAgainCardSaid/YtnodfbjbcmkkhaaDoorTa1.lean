/- A token that is written out and read again is the token: the plain law. No program in sight. -/
import Derived.Test.YtnodfbjbcmkkhaaDoorTw2
set_option maxRecDepth 20000
namespace Go.Proofs.YtnodfbjbcmkkhaaDoor
open Go.RowKit Go.Vcg
theorem gapK_end : ∀ (xs : List UInt8) (k : Nat) (ln : Bool) (m : Nat) (ln' : Bool), k ≤ xs.length → gapK k ln xs = (m, ln', true) → stops (xs.drop m)
  | [], k, ln, m, ln', _, h => by simp [stops, gapK]
  | b :: r, k + 1, ln, m, ln', hk, h => by
    rw [gapK] at h
    simp only [shift1, Prod.mk.injEq] at h
    obtain ⟨h1, h2⟩ := h
    obtain ⟨j, rfl⟩ : ∃ j, m = j + 1 := ⟨m - 1, by omega⟩
    rw [List.drop_succ_cons]
    exact gapK_end r k ln j ln' (by simpa using hk) (Prod.ext (by simp; omega) (by simpa using h2))
  | b :: r, 0, ln, m, ln', _, h => by
    rw [gapK] at h
    by_cases hw : on8 wsI b = true
    · rw [if_pos hw] at h
      simp only [shift1, Prod.mk.injEq] at h
      obtain ⟨h1, h2⟩ := h
      obtain ⟨j, rfl⟩ : ∃ j, m = j + 1 := ⟨m - 1, by omega⟩
      rw [List.drop_succ_cons]
      exact gapK_end r 0 (ln || on8 endI b) j ln' (by omega) (Prod.ext (by simp; omega) (by simpa using h2))
    · rw [if_neg hw] at h
      by_cases h1 : b = 47 ∧ r.head? = some 47
      · rw [if_pos h1] at h
        simp only [shift1, Prod.mk.injEq] at h
        obtain ⟨h2, h3⟩ := h
        obtain ⟨j, rfl⟩ : ∃ j, m = j + 1 := ⟨m - 1, by omega⟩
        rw [List.drop_succ_cons]
        exact gapK_end r (headN nendI r) ln j ln' (headN_le _ _) (Prod.ext (by simp; omega) (by simpa using h3))
      · rw [if_neg h1] at h
        by_cases h2 : b = 47 ∧ r.head? = some 42
        · rw [if_pos h2] at h
          by_cases h3 : Lib.index (r.drop 1) [42, 47] < 0
          · rw [if_pos h3] at h; simp at h
          · rw [if_neg h3] at h
            have hroom := Lib.index_room (r.drop 1) [42, 47] (by omega)
            simp only [List.length_drop, List.length_cons, List.length_nil] at hroom
            simp only [shift1, Prod.mk.injEq] at h
            obtain ⟨h4, h5⟩ := h
            obtain ⟨j, rfl⟩ : ∃ j, m = j + 1 := ⟨m - 1, by omega⟩
            rw [List.drop_succ_cons]
            exact gapK_end r ((Lib.index (r.drop 1) [42, 47]).toNat + 3) (ln || ((r.drop 1).take (Lib.index (r.drop 1) [42, 47]).toNat).any (on8 endI)) j ln' (by omega) (Prod.ext (by show (gapK _ _ r).1 = j; omega) (by simpa using h5))
        · rw [if_neg h2] at h
          cases h
          rw [List.drop_zero]
          unfold stops
          rw [gapK, if_neg hw, if_neg h1, if_neg h2]

theorem all_b {p : UInt8 → Prop} (h : ∀ n : Fin 256, p (UInt8.ofNat n.val)) (c : UInt8) : p c := by
  have := h ⟨c.toNat, c.toNat_lt⟩
  simpa using this
/-- what may come behind a written token -/
def sepOk (z : List UInt8) : Prop := z = [] ∨ ∃ r, z = 32 :: r ∨ z = 10 :: r
theorem sepOk.cases {z : List UInt8} (h : sepOk z) : z = [] ∨ ∃ c r, z = c :: r ∧ (c = 32 ∨ c = 10) := by
  rcases h with h | ⟨r, h | h⟩
  · exact .inl h
  · exact .inr ⟨_, _, h, .inl rfl⟩
  · exact .inr ⟨_, _, h, .inr rfl⟩
/-! names -/
theorem headN_sep {z : List UInt8} (h : sepOk z) : headN idI z = 0 := by
  rcases h with rfl | ⟨r, rfl | rfl⟩ <;> rfl
theorem headN_app (p : Int → Bool) (z : List UInt8) (hz : headN p z = 0) : ∀ xs : List UInt8, headN p (xs.take (headN p xs) ++ z) = headN p xs
  | [] => by simpa [headN] using hz
  | b :: r => by
    by_cases hb : on8 p b = true
    · have : headN p (b :: r) = headN p r + 1 := by rw [headN, if_pos hb]
      rw [this, List.take_succ_cons, List.cons_append, headN, if_pos hb, headN_app p z hz r]
    · have : headN p (b :: r) = 0 := by rw [headN, if_neg hb]
      rw [this, List.take_zero, List.nil_append, hz]
theorem headN_pos {p : Int → Bool} {b : UInt8} {r : List UInt8} (h : on8 p b = true) : 0 < headN p (b :: r) := by rw [headN, if_pos h]; omega
/-! numbers -/
theorem digitsL_ok (base : Int) (hb : 0 ≤ base) : ∀ (xs : List UInt8) (n : Int) (ok : Bool), 0 ≤ n ∧ n ≤ maxIntI → (digitsL base xs n ok).2.2 = true → ok = true ∧ 0 ≤ (digitsL base xs n ok).1 ∧ (digitsL base xs n ok).1 ≤ maxIntI
  | [], n, ok, hn, h => ⟨h, hn⟩
  | b :: r, n, ok, hn, h => by
    rw [digitsL] at h ⊢
    split
    · rename_i hc
      rw [if_pos hc] at h
      exact ⟨h, hn⟩
    · rename_i hc
      rw [if_neg hc] at h
      split
      · rename_i hd
        rw [if_pos hd] at h
        have := digitsL_ok base hb r 0 false ⟨by omega, by decide⟩ h
        exact absurd this.1 (by simp)
      · rename_i hd
        rw [if_neg hd] at h
        have hx : 0 ≤ n * base := Int.mul_nonneg hn.1 hb
        exact digitsL_ok base hb r _ ok ⟨by omega, by omega⟩ h
theorem digitsL_sep {z : List UInt8} (h : sepOk z) (n : Int) (ok : Bool) : digitsL 10 z n ok = (n, 0, ok) := by
  rcases h with rfl | ⟨r, rfl | rfl⟩
  · rfl
  · rw [digitsL, if_pos (by decide)]
  · rw [digitsL, if_pos (by decide)]
theorem hexI_dig (d : Nat) (h : d < 10) : hexI ((UInt8.ofNat (48 + d)).toNat : Int) = d := by
  rw [show (UInt8.ofNat (48 + d)).toNat = 48 + d by rw [UInt8.toNat_ofNat']; omega]
  unfold hexI
  rw [if_pos (by omega)]
  omega
theorem digitsL_dig (d : Nat) (hd : d < 10) (z : List UInt8) (n : Int) (h : n * 10 + d ≤ maxIntI) : digitsL 10 (UInt8.ofNat (48 + d) :: z) n true = addD 1 (digitsL 10 z (n * 10 + d) true) := by
  rw [digitsL, hexI_dig d hd, if_neg (by omega), if_neg (by omega)]
  simp [addD, Nat.add_comm]
theorem digitsL_dec (m : Nat) : (m : Int) ≤ maxIntI → ∀ z, digitsL 10 (Lib.decDigits m ++ z) 0 true = addD (Lib.decDigits m).length (digitsL 10 z m true) := by
  induction m using Nat.strongRecOn with
  | _ m ih =>
    intro hm z
    rw [Lib.decDigits]
    split
    · rename_i h10
      show digitsL 10 (UInt8.ofNat (48 + m) :: z) 0 true = _
      rw [digitsL_dig m h10 z 0 (by omega)]
      simp
    · rename_i h10
      rw [List.append_assoc, ih (m / 10) (by omega) (by omega)]
      show addD _ (digitsL 10 (UInt8.ofNat (48 + m % 10) :: z) _ true) = _
      rw [digitsL_dig (m % 10) (by omega) z _ (by omega), addD_addD]
      rw [show (((m / 10 : Nat) : Int) * 10 + ((m % 10 : Nat) : Int)) = (m : Int) by omega]
      simp
theorem dec_head (m : Nat) : ∃ c r, Lib.decDigits m = c :: r ∧ on8 digI c = true ∧ (c = 48 → m = 0) ∧ (m < 10 → r = []) := by
  induction m using Nat.strongRecOn with
  | _ m ih =>
    rw [Lib.decDigits]
    split
    · rename_i h10
      refine ⟨_, [], rfl, ?_, ?_, fun _ => rfl⟩
      · show digI ((UInt8.ofNat (48 + m)).toNat : Int) = true
        rw [show (UInt8.ofNat (48 + m)).toNat = 48 + m by rw [UInt8.toNat_ofNat']; omega]
        unfold digI; exact decide_eq_true (by omega)
      · intro h
        have := congrArg UInt8.toNat h
        rw [show (UInt8.ofNat (48 + m)).toNat = 48 + m by rw [UInt8.toNat_ofNat']; omega] at this
        have : 48 + m = 48 := this
        omega
    · rename_i h10
      obtain ⟨c, r, h1, h2, h3, h4⟩ := ih (m / 10) (by omega)
      refine ⟨c, r ++ [UInt8.ofNat (48 + m % 10)], by rw [h1]; rfl, h2, fun h => ?_, fun h => absurd h h10⟩
      have := h3 h
      omega
theorem idAt_sep (ds z : List UInt8) (h : sepOk z) : idAt (ds ++ z) ds.length = false := by
  unfold idAt
  rw [List.getElem?_append_right (Nat.le_refl _), Nat.sub_self]
  rcases h with rfl | ⟨r, rfl | rfl⟩ <;> rfl
theorem numL_dec (m : Nat) (hm : (m : Int) ≤ maxIntI) (z : List UInt8) (hz : sepOk z) : numL (Lib.decDigits m ++ z) = .ok ((m : Int), (Lib.decDigits m).length) := by
  have hd : digitsL 10 (Lib.decDigits m ++ z) 0 true = ((m : Int), (Lib.decDigits m).length, true) := by
    rw [digitsL_dec m hm z, digitsL_sep hz]; simp [addD]
  obtain ⟨c, r, h1, _, h3, h4⟩ := dec_head m
  have hp : ¬ [48, 120].isPrefixOf (Lib.decDigits m ++ z) = true := by
    intro hp
    rw [h1] at hp
    simp only [List.cons_append, List.isPrefixOf, Bool.and_eq_true, beq_iff_eq] at hp
    obtain ⟨hc, hp⟩ := hp
    have h0 := h3 hc.symm
    have hr := h4 (by omega)
    subst hr
    rcases hz with rfl | ⟨r, rfl | rfl⟩ <;> simp [List.isPrefixOf] at hp
  have hb : nbody (Lib.decDigits m ++ z) = ((m : Int), (Lib.decDigits m).length, true) := by
    unfold nbody
    rw [if_neg hp, hd]
  unfold numL
  rw [hb, hd]
  rw [if_neg (by
    rintro ⟨hh, hl⟩
    rw [h1] at hh hl
    simp only [List.cons_append, List.head?_cons, Option.some.injEq] at hh
    have := h4 (by have := h3 hh; omega)
    subst this
    simp at hl)]
  rw [if_neg (by
    rintro (h | h)
    · cases h
    · simp only at h; rw [idAt_sep _ _ hz] at h; cases h)]
theorem nbody_ok {xs : List UInt8} (h : (nbody xs).2.2 = true) : 0 ≤ (nbody xs).1 ∧ (nbody xs).1 ≤ maxIntI := by
  unfold nbody at h ⊢
  split
  · rename_i hp
    rw [if_pos hp] at h
    simp only [Bool.and_eq_true] at h
    exact (digitsL_ok 16 (by omega) _ 0 true ⟨by omega, by decide⟩ h.1).2
  · rename_i hp
    rw [if_neg hp] at h
    exact (digitsL_ok 10 (by omega) _ 0 true ⟨by omega, by decide⟩ h).2
theorem numL_ok {xs : List UInt8} {n : Int} {m : Nat} (h : numL xs = .ok (n, m)) : 0 ≤ n ∧ n ≤ maxIntI := by
  unfold numL at h
  split at h
  · cases h
  · split at h
    · cases h
    · rename_i h2
      cases h
      exact nbody_ok (by
        rcases Bool.eq_false_or_eq_true (nbody xs).2.2 with h3 | h3
        · exact h3
        · exact absurd (.inl h3) h2)
/-! what is escaped is found again -/
def chk (q1 q2 : UInt8) (ex : List UInt8) (b : UInt8) : Bool := match code1 ex b with
  | [c] => decide (c = b) && decide (b ≠ q1) && decide (b ≠ q2) && decide (b ≠ 92) && (decide (q1 ≠ 34) || !on8 endI b)
  | [x, e] => decide (x = 92) && decide (0 ≤ Lib.indexByte escFrom e) && decide (escTo.getD (Lib.indexByte escFrom e).toNat 0 = b)
  | [x, y, g, h] => decide (x = 92) && decide (y = 120) && decide (0 ≤ hexI g.toNat) && decide (0 ≤ hexI h.toNat) && decide (UInt8.ofNat ((hexI g.toNat) * 16 + hexI h.toNat).toNat = b)
  | _ => false
theorem chk_a (b : UInt8) : chk 34 34 [34] b = true := all_b (p := fun b => chk 34 34 [34] b = true) (by decide +kernel) b
theorem chk_b (b : UInt8) : chk 96 36 [96, 36] b = true := all_b (p := fun b => chk 96 36 [96, 36] b = true) (by decide +kernel) b
theorem chk_cases {q1 q2 : UInt8} {ex : List UInt8} {b : UInt8} (h : chk q1 q2 ex b = true) :
    (code1 ex b = [b] ∧ b ≠ q1 ∧ b ≠ q2 ∧ b ≠ 92 ∧ (q1 = 34 → on8 endI b = false)) ∨ (∃ n, ∀ z, ∃ y, code1 ex b ++ z = 92 :: y ∧ escL y = .ok (b, n) ∧ y.drop n = z ∧ n ≤ y.length ∧ (code1 ex b).length = n + 1) := by
  unfold chk at h
  split at h
  · rename_i c hc
    simp only [Bool.and_eq_true, decide_eq_true_eq, Bool.or_eq_true, Bool.not_eq_true'] at h
    obtain ⟨⟨⟨⟨rfl, h1⟩, h2⟩, h3⟩, h4⟩ := h
    exact .inl ⟨hc, h1, h2, h3, fun h => h4.resolve_left (fun hh => hh h)⟩
  · rename_i x e hc
    simp only [Bool.and_eq_true, decide_eq_true_eq] at h
    obtain ⟨⟨rfl, h1⟩, h2⟩ := h
    refine .inr ⟨1, fun z => ⟨e :: z, by rw [hc]; rfl, ?_, rfl, by simp, by rw [hc]; rfl⟩⟩
    rw [escL, if_pos h1, h2]
  · rename_i x y g e hc
    simp only [Bool.and_eq_true, decide_eq_true_eq] at h
    obtain ⟨⟨⟨⟨rfl, rfl⟩, h1⟩, h2⟩, h3⟩ := h
    refine .inr ⟨3, fun z => ⟨120 :: g :: e :: z, by rw [hc]; rfl, ?_, rfl, by simp, by rw [hc]; rfl⟩⟩
    rw [escL, if_neg (by decide), if_neg (by simp), escH, if_neg (by omega), if_neg (by omega), h3]
  · cases h
theorem qK_code (z : List UInt8) : ∀ o : List UInt8, qK 34 0 (codeL [34] o ++ 34 :: z) = .ok (o, (codeL [34] o).length + 1)
  | [] => by simp [codeL, qK]
  | b :: o => by
    have ih := qK_code z o
    have hc : codeL [34] (b :: o) = code1 [34] b ++ codeL [34] o := by simp [codeL]
    rw [hc, List.append_assoc, List.length_append]
    rcases chk_cases (chk_a b) with ⟨h1, h2, h3, h4, h5⟩ | ⟨n, h⟩
    · rw [h1]
      show qK 34 0 (b :: (codeL [34] o ++ 34 :: z)) = _
      rw [qK, if_neg h2, if_neg (by rw [h5 rfl]; simp), if_pos h4, ih]
      simp [consE]; omega
    · obtain ⟨y, h1, h2, h3, h4, h5⟩ := h (codeL [34] o ++ 34 :: z)
      rw [h1, qK, if_neg (by decide), if_neg (by decide), if_neg (by simp), h2]
      simp only
      rw [qK_skip 34 n y h4, h3, ih, h5]
      simp [appE, consE]; omega
theorem pK_code (z : List UInt8) (e : UInt8) (he : (e = 36 ∧ z.head? = some 123) ∨ e = 96) : ∀ o : List UInt8, pK 0 (codeL [96, 36] o ++ e :: z) = .ok (o, (codeL [96, 36] o).length + 1)
  | [] => by
    show pK 0 (e :: z) = _
    rw [pK, if_pos he]
    rfl
  | b :: o => by
    have ih := pK_code z e he o
    have hc : codeL [96, 36] (b :: o) = code1 [96, 36] b ++ codeL [96, 36] o := by simp [codeL]
    rw [hc, List.append_assoc, List.length_append]
    rcases chk_cases (chk_b b) with ⟨h1, h2, h3, h4, h5⟩ | ⟨n, h⟩
    · rw [h1]
      show pK 0 (b :: (codeL [96, 36] o ++ e :: z)) = _
      rw [pK, if_neg (by rintro (⟨h, _⟩ | h); exact h3 h; exact h2 h), if_pos h4, ih]
      simp [consE]; omega
    · obtain ⟨y, h1, h2, h3, h4, h5⟩ := h (codeL [96, 36] o ++ e :: z)
      rw [h1, pK, if_neg (by rintro (⟨h, _⟩ | h) <;> exact absurd h (by decide)), if_neg (by simp), h2]
      simp only
      rw [pK_skip n y h4, h3, ih, h5]
      simp [appE, consE]; omega
end Go.Proofs.YtnodfbjbcmkkhaaDoor
