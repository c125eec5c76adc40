/- What All found, token by token; each token's own text is the token again. No program in sight. -/
import Derived.Test.YtnodfbjbcmkkhaaTk14
set_option maxRecDepth 20000
namespace Go.Proofs.Ytnodfbjbcmkkhaa
open Go.RowKit Go.Vcg
theorem gapK_end : ∀ (xs : List UInt8) (k : Nat) (ln : Bool) (m : Nat) (ln' : Bool), k ≤ xs.length → gapK k ln xs = (m, ln', true) → stops (xs.drop m)
  | [], k, ln, m, ln', _, h => by simp [stops, gapK]
  | b :: r, k + 1, ln, m, ln', hk, h => by
    rw [gapK] at h
    simp only [shift1, Prod.mk.injEq] at h
    obtain ⟨h1, h2⟩ := h
    obtain ⟨j, rfl⟩ : ∃ j, m = j + 1 := ⟨m - 1, by omega⟩
    rw [List.drop_succ_cons]
    exact gapK_end r k ln j ln' (by simpa using hk) (Prod.ext (by simp; omega) (by simpa using h2))
  | b :: r, 0, ln, m, ln', _, h => by
    rw [gapK] at h
    by_cases hw : on8 wsI b = true
    · rw [if_pos hw] at h
      simp only [shift1, Prod.mk.injEq] at h
      obtain ⟨h1, h2⟩ := h
      obtain ⟨j, rfl⟩ : ∃ j, m = j + 1 := ⟨m - 1, by omega⟩
      rw [List.drop_succ_cons]
      exact gapK_end r 0 (ln || on8 endI b) j ln' (by omega) (Prod.ext (by simp; omega) (by simpa using h2))
    · rw [if_neg hw] at h
      by_cases h1 : b = 47 ∧ r.head? = some 47
      · rw [if_pos h1] at h
        simp only [shift1, Prod.mk.injEq] at h
        obtain ⟨h2, h3⟩ := h
        obtain ⟨j, rfl⟩ : ∃ j, m = j + 1 := ⟨m - 1, by omega⟩
        rw [List.drop_succ_cons]
        exact gapK_end r (headN nendI r) ln j ln' (headN_le _ _) (Prod.ext (by simp; omega) (by simpa using h3))
      · rw [if_neg h1] at h
        by_cases h2 : b = 47 ∧ r.head? = some 42
        · rw [if_pos h2] at h
          by_cases h3 : Lib.index (r.drop 1) [42, 47] < 0
          · rw [if_pos h3] at h; simp at h
          · rw [if_neg h3] at h
            have hroom := Lib.index_room (r.drop 1) [42, 47] (by omega)
            simp only [List.length_drop, List.length_cons, List.length_nil] at hroom
            simp only [shift1, Prod.mk.injEq] at h
            obtain ⟨h4, h5⟩ := h
            obtain ⟨j, rfl⟩ : ∃ j, m = j + 1 := ⟨m - 1, by omega⟩
            rw [List.drop_succ_cons]
            exact gapK_end r ((Lib.index (r.drop 1) [42, 47]).toNat + 3) (ln || ((r.drop 1).take (Lib.index (r.drop 1) [42, 47]).toNat).any (on8 endI)) j ln' (by omega) (Prod.ext (by show (gapK _ _ r).1 = j; omega) (by simpa using h5))
        · rw [if_neg h2] at h
          cases h
          rw [List.drop_zero]
          unfold stops
          rw [gapK, if_neg hw, if_neg h1, if_neg h2]
def Good (xs : List UInt8) : Nat → List Tok → Prop
  | _, [] => False
  | fr, t :: r => ∃ (t1 : T1) (g : Nat) (ln tail : Bool), gapK 0 false (xs.drop fr) = (g, ln, true) ∧ oneL ((xs.drop fr).drop g) tail = .ok t1 ∧ t = { tokT (fr + g) t1 with line := ln } ∧ fr + g + t1.len ≤ xs.length ∧ (t1.k = 0 → r = []) ∧ (t1.k ≠ 0 → Good xs (fr + g + t1.len) r)
theorem allF_good (xs : List UInt8) : ∀ (f fr : Nat) (os : List Int) (ts : List Tok) (a : Nat), fr ≤ xs.length → allF xs f fr os = (ts, a, 0) → Good xs fr ts
  | 0, fr, os, ts, a, _, h => by simp [allF] at h
  | f + 1, fr, os, ts, a, hfr, h => by
    rw [allF] at h
    by_cases hE : nextErr (xs.drop fr) (tailO os) = 0
    · rw [if_neg (by simp [hE])] at h
      obtain ⟨t, g, ln, hg1, hg2, hg3, hg4⟩ := next_ok hE
      rw [List.length_drop] at hg4
      rw [hg3] at h
      by_cases h0 : t.k = 0
      · rw [if_pos (by simpa [tokT] using h0)] at h
        cases h
        exact ⟨t, g, ln, tailO os, hg1, hg2, rfl, by omega, fun _ => rfl, fun hn => absurd h0 hn⟩
      · rw [if_neg (by simpa [tokT] using h0)] at h
        simp only [tokT, Int.toNat_natCast] at h
        generalize hr : allF xs f (fr + g + t.len) _ = r at h
        obtain ⟨rt, ra, re⟩ := r
        unfold prep at h
        by_cases hre : re = 0
        · subst hre
          simp only [if_true] at h
          cases h
          exact ⟨t, g, ln, tailO os, hg1, hg2, rfl, by omega, fun hn => absurd hn h0, fun _ => allF_good xs f _ _ _ _ (by omega) hr⟩
        · rw [if_neg hre] at h
          cases h
          exact absurd rfl hre
    · rw [if_pos hE] at h
      simp only [Prod.mk.injEq] at h
      exact absurd h.2.2 hE
theorem allF_err (xs : List UInt8) : ∀ (f fr : Nat) (os : List Int), (allF xs f fr os).2.2 ≠ 0 → (allF xs f fr os).1 = []
  | 0, fr, os, _ => rfl
  | f + 1, fr, os, h => by
    rw [allF] at h ⊢
    split
    · rfl
    · rename_i h1
      rw [if_neg h1] at h
      split
      · rename_i h2
        rw [if_pos h2] at h
        simp at h
      · rename_i h2
        rw [if_neg h2] at h
        unfold prep at h ⊢
        split
        · rename_i h3
          rw [if_pos h3] at h
          exact absurd h3 h
        · rename_i h3
          exact allF_err xs f _ _ h3
theorem allF_len (xs : List UInt8) : ∀ (f fr : Nat) (os : List Int), (allF xs f fr os).1.length ≤ f
  | 0, fr, os => by simp [allF]
  | f + 1, fr, os => by
    rw [allF]
    split
    · simp
    · split
      · simp
      · unfold prep
        have := allF_len xs f (nextTok fr (xs.drop fr) (tailO os)).to.toNat (pushO os (nextTok fr (xs.drop fr) (tailO os)).k (nextTok fr (xs.drop fr) (tailO os)).n (bl (nextTok fr (xs.drop fr) (tailO os)).s) (nextTok fr (xs.drop fr) (tailO os)).op)
        split
        · simp; omega
        · omega
/-- the token's own text, tokenized by itself -/
theorem next_own {xs : List UInt8} {t : T1} {tail : Bool} (hs : stops xs) (ho : oneL xs tail = .ok t) : nextTok 0 (xs.take t.len) (decide (t.k = 6) && decide (t.n = 1)) = ⟨t.k, 0, t.len, t.n, ofL t.s, false, t.op⟩ ∧ nextErr (xs.take t.len) (decide (t.k = 6) && decide (t.n = 1)) = 0 := by
  have h1 := stops_take hs t.len
  have h2 := oneL_take ho
  unfold stops at h1
  unfold nextTok nextErr
  rw [h1]
  simp only [List.drop_zero, h2, if_true]
  refine ⟨?_, rfl⟩
  simp [tokT]
end Go.Proofs.Ytnodfbjbcmkkhaa
