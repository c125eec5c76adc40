/- Tokens that are written out: how long the text is; the plain law for a whole text. No program in sight. -/
import Derived.Test.YtnodfbjbcmkkhaaDoorTa3
set_option maxRecDepth 20000
namespace Go.Proofs.YtnodfbjbcmkkhaaDoor
open Go.RowKit Go.Vcg
theorem qK_olen {q : UInt8} : ∀ {xs : List UInt8} {k n : Nat} {o : List UInt8}, qK q k xs = .ok (o, n) → o.length + 1 ≤ n
  | [], k, n, o, h => by simp [qK] at h
  | b :: r, k + 1, n, o, h => by
    unfold qK skipE at h
    split at h
    · rename_i o' n' hr
      cases h
      have := qK_olen hr
      omega
    · cases h
  | b :: r, 0, n, o, h => by
    unfold qK at h
    split at h
    · cases h; simp
    · split at h
      · cases h
      · split at h
        · unfold consE at h
          split at h
          · rename_i o' n' hr
            cases h
            have := qK_olen hr
            simp only [List.length_cons]; omega
          · cases h
        · split at h
          · cases h
          · unfold consE at h
            split at h
            · rename_i o' n' hr
              cases h
              have := qK_olen hr
              simp only [List.length_cons]; omega
            · cases h
theorem pK_olen : ∀ {xs : List UInt8} {k n : Nat} {o : List UInt8}, pK k xs = .ok (o, n) → o.length + 1 ≤ n
  | [], k, n, o, h => by simp [pK] at h
  | b :: r, k + 1, n, o, h => by
    unfold pK skipE at h
    split at h
    · rename_i o' n' hr
      cases h
      have := pK_olen hr
      omega
    · cases h
  | b :: r, 0, n, o, h => by
    unfold pK at h
    split at h
    · cases h; simp
    · split at h
      · unfold consE at h
        split at h
        · rename_i o' n' hr
          cases h
          have := pK_olen hr
          simp only [List.length_cons]; omega
        · cases h
      · split at h
        · cases h
        · unfold consE at h
          split at h
          · rename_i o' n' hr
            cases h
            have := pK_olen hr
            simp only [List.length_cons]; omega
          · cases h
theorem dec_short : ∀ (k m : Nat), m < 10 ^ (k + 1) → (Lib.decDigits m).length ≤ k + 1
  | 0, m, h => by
    rw [Lib.decDigits, dif_pos (by omega)]; simp
  | k + 1, m, h => by
    rw [Lib.decDigits]
    split
    · simp
    · have := dec_short k (m / 10) (by rw [Nat.pow_succ] at h; omega)
      rw [List.length_append]
      simp; omega
theorem oneL_w {c : UInt8} {r : List UInt8} {tail : Bool} {t : T1} (h : oneL (c :: r) tail = .ok t) : (wL t.k t.n t.s t.op).length ≤ 16 * t.len ∧ t.s.length ≤ t.len ∧ 0 ≤ t.n ∧ t.n ≤ maxIntI := by
  have hpos := (oneL_le h).2.1 (by simp)
  rw [oneL] at h
  split at h
  · obtain rfl := Except.ok.inj h
    have hk : ∀ b : Bool, wL (if b = true then 2 else 1) 0 ((c :: r).take (headN idI (c :: r))) false = (c :: r).take (headN idI (c :: r)) := by
      intro b; unfold wL; rw [if_pos (by split <;> simp)]
    simp only [hk]
    rw [List.length_take]
    refine ⟨by omega, by omega, by omega, by decide⟩
  · split at h
    · split at h
      · cases h
      · rename_i n m hn
        obtain rfl := Except.ok.inj h
        obtain ⟨hn0, hn1⟩ := numL_ok hn
        have hk : wL 3 n [] false = Lib.decDigits n.toNat := by
          unfold wL Lib.itoa
          rw [if_neg (by omega), if_pos rfl, if_neg (by omega)]
        simp only [hk]
        have h16 := dec_short 15 n.toNat (by unfold maxIntI at hn1; omega)
        have hm := hpos.1
        simp only at hm
        exact ⟨by omega, by simp, hn0, hn1⟩
    · split at h
      · split at h
        · cases h
        · rename_i o m hq
          obtain rfl := Except.ok.inj h
          have hk : wL 4 0 o false = 34 :: (codeL [34] o ++ [34]) := by
            unfold wL; rw [if_neg (by omega), if_neg (by omega), if_pos rfl]
          simp only [hk]
          have h1 := qK_olen hq
          have h2 := codeL_len [34] o
          refine ⟨by simp only [List.length_cons, List.length_append, List.length_nil]; omega, by omega, by omega, by decide⟩
      · split at h
        · split at h
          · cases h
          · rename_i o m hq
            obtain rfl := Except.ok.inj h
            generalize decide (r[m - 1]? = some 36) = op
            have h1 := pK_olen hq
            have h2 := codeL_len [96, 36] o
            have h3 : m + 1 ≤ (if r[m - 1]? = some 36 then m + 2 else m + 1) := by split <;> omega
            have hk : (wL 6 (if c = 125 then 1 else 0) o op).length ≤ 4 * o.length + 3 := by
              unfold wL
              rw [if_neg (by omega), if_neg (by omega), if_neg (by omega), if_pos rfl]
              rw [List.length_cons, List.length_append]
              cases op <;> simp <;> omega
            refine ⟨?_, ?_, ?_, ?_⟩
            · show (wL 6 (if c = 125 then 1 else 0) o op).length ≤ _
              simp only
              omega
            · simp only
              omega
            · simp only
              split <;> omega
            · simp only
              split <;> decide
        · split at h
          · cases h
          · obtain rfl := Except.ok.inj h
            have hk : wL 5 0 ((c :: r).take (signL (c :: r))) false = (c :: r).take (signL (c :: r)) := by
              unfold wL; rw [if_pos (.inr (.inr rfl))]
            simp only [hk]
            rw [List.length_take]
            exact ⟨by omega, by omega, by omega, by decide⟩
def TokS (m : Nat) (t : Tok) : Prop := t.s.size ≤ m ∧ 0 ≤ t.n ∧ t.n ≤ maxIntI
theorem sepI_len (i : Nat) (t : Tok) : (sepI i t).length ≤ 1 := by
  unfold sepI
  repeat' split
  all_goals simp
theorem size_bl (s : ByteArray) : s.size = (bl s).length := (bl_len s).symm
theorem all_size (xs : List UInt8) : ∀ (f to : Nat) (os : List Int) (i : Nat) (ts : List Tok) (a : Nat), to ≤ xs.length → allF xs f to os = (ts, a, 0) → (joinI i ts).length ≤ 17 * (xs.length - to) + 1 ∧ (∀ t ∈ ts, TokS xs.length t) ∧ a = 0
  | 0, to, os, i, ts, a, _, h => by simp [allF] at h
  | f + 1, to, os, i, ts, a, hto, h => by
    rw [allF] at h
    split at h
    · rename_i he
      simp only [Prod.mk.injEq] at h
      exact absurd h.2.2 he
    · rename_i he
      obtain ⟨t, g, ln, h1, h2, h3, h4⟩ := next_ok (to := to) (Decidable.of_not_not he)
      rw [h3] at h
      rw [List.length_drop] at h4
      have htn : ((tokT (to + g) t).to).toNat = to + g + t.len := Int.toNat_natCast (to + g + t.len)
      have hsl := sepI_len i { tokT (to + g) t with line := ln }
      split at h
      · rename_i hk
        have hk : t.k = 0 := hk
        simp only [Prod.mk.injEq] at h
        obtain ⟨rfl, rfl, _⟩ := h
        have hnil : (xs.drop to).drop g = [] := by
          by_cases hne : (xs.drop to).drop g = []
          · exact hne
          · exact absurd hk ((oneL_le h2).2.1 hne).2
        rw [hnil, oneL] at h2
        obtain rfl := Except.ok.inj h2
        refine ⟨?_, ?_, rfl⟩
        · have hA : ∀ u : Tok, u.k = 0 → (joinI i [u]).length ≤ 1 := by
            intro u hu
            rw [joinI, joinI, List.append_nil, List.length_append, wL_text, hu]
            have h0 : wL 0 u.n (bl u.s) u.op = [] := rfl
            have := sepI_len i u
            rw [h0]
            simpa using this
          exact Nat.le_trans (hA _ rfl) (by omega)
        · intro u hu
          rw [List.mem_singleton] at hu
          subst hu
          exact ⟨Nat.zero_le _, Int.le_refl _, (by decide : (0 : Int) ≤ maxIntI)⟩
      · rename_i hk
        have hk : ¬ t.k = 0 := hk
        have hne : (xs.drop to).drop g ≠ [] := fun e => hk ((oneL_le h2).2.2 e)
        obtain ⟨c, r, hcr⟩ : ∃ c r, (xs.drop to).drop g = c :: r := by
          cases hx : (xs.drop to).drop g with
          | nil => exact absurd hx hne
          | cons c r => exact ⟨c, r, rfl⟩
        have hlp := ((oneL_le h2).2.1 hne).1
        rw [hcr] at h2
        obtain ⟨w1, w2, w3, w4⟩ := oneL_w h2
        have hpre : ∃ ts2, ts = { tokT (to + g) t with line := ln } :: ts2 ∧ allF xs f (to + g + t.len) (pushO os t.k t.n t.s t.op) = (ts2, a, 0) := by
          have hh : prep [{ tokT (to + g) t with line := ln }] (allF xs f (to + g + t.len) (pushO os t.k t.n t.s t.op)) = (ts, a, 0) := by
            have hb : bl (ofL t.s) = t.s := bl_ofL t.s
            rw [← hb, ← htn]
            exact h
          unfold prep at hh
          split at hh
          · rename_i h0
            refine ⟨_, (congrArg Prod.fst hh).symm, ?_⟩
            have := congrArg Prod.snd hh
            exact Prod.ext rfl this
          · rename_i h0
            exact absurd (congrArg (fun x => x.2.2) hh) h0
        obtain ⟨ts2, rfl, h5⟩ := hpre
        obtain ⟨u1, u2, u3⟩ := all_size xs f (to + g + t.len) _ (i + 1) ts2 a (by omega) h5
        have hw : bl (text1F { tokT (to + g) t with line := ln }) = wL t.k t.n t.s t.op := by
          rw [wL_text]
          show wL t.k t.n (bl (ofL t.s)) t.op = _
          rw [bl_ofL]
        refine ⟨?_, ?_, u3⟩
        · rw [joinI, hw, List.length_append, List.length_append]
          omega
        · intro u hu
          rcases List.mem_cons.1 hu with rfl | hu
          · refine ⟨?_, w3, w4⟩
            show (ofL t.s).size ≤ _
            rw [size_bl, bl_ofL]
            omega
          · exact u2 u hu
theorem joinI_ge : ∀ (ts : List Tok) (i : Nat), ts.length ≤ (joinI (i + 1) ts).length
  | [], i => by simp
  | t :: r, i => by
    have := joinI_ge r (i + 1)
    have h1 : 1 ≤ (sepI (i + 1) t).length := by
      unfold sepI
      rw [if_pos (by omega : 0 < i + 1)]
      split <;> simp
    rw [joinI, List.length_append, List.length_append, List.length_cons]
    omega
theorem als_join : ∀ {ts us : List Tok} (i : Nat), Als ts us → joinI i us = joinI i ts
  | [], [], i, _ => rfl
  | t :: r, u :: v, i, h => by
    have := als_join (i + 1) h.2
    have ha : u = { t with at' := u.at', to := u.to } := h.1
    rw [joinI, joinI, this]
    rw [ha]
    rfl
  | [], _ :: _, i, h => h.elim
  | _ :: _, [], i, h => h.elim
theorem als_len : ∀ {ts us : List Tok}, Als ts us → us.length = ts.length
  | [], [], _ => rfl
  | t :: r, u :: v, h => by simp [als_len h.2]
  | [], _ :: _, h => h.elim
  | _ :: _, [], h => h.elim
theorem als_get : ∀ {ts us : List Tok} (i : Nat) {t u : Tok}, Als ts us → ts[i]? = some t → us[i]? = some u → Al t u
  | [], [], i, t, u, _, ht, _ => by simp at ht
  | t :: r, u :: v, 0, x, y, h, ht, hu => by simp at ht hu; subst ht hu; exact h.1
  | t :: r, u :: v, i + 1, x, y, h, ht, hu => als_get i h.2 (by simpa using ht) (by simpa using hu)
  | [], _ :: _, i, t, u, h, _, _ => h.elim
  | _ :: _, [], i, t, u, h, _, _ => h.elim
/-- the whole text -/
theorem again (xs : List UInt8) (hx : xs.length ≤ 3000) {ts : List Tok} {a : Nat} (h : allL xs = (ts, a, 0)) :
    (joinI 0 ts).length ≤ 65536 ∧ (∀ t ∈ ts, TokS 65536 t) ∧ ts.length ≤ 65536 ∧ ∃ us, allL (joinI 0 ts) = (us, 0, 0) ∧ Als ts us ∧ (∀ t ∈ us, TokS 65536 t) ∧ joinI 0 us = joinI 0 ts := by
  unfold allL at h
  obtain ⟨h1, h2, _⟩ := all_size xs _ 0 [] 0 ts a (Nat.zero_le _) h
  have hts : ts.length ≤ (joinI 0 ts).length + 1 := by
    cases ts with
    | nil => simp
    | cons t r =>
      have := joinI_ge r 0
      rw [joinI, List.length_append, List.length_append, List.length_cons]
      omega
  obtain ⟨us, u1, u2⟩ := again_all xs (joinI 0 ts) _ 0 [] 0 ts a 0 ((joinI 0 ts).length + 2) (Nat.zero_le _) h (by omega) (Nat.zero_le _) rfl
  obtain ⟨_, u3, _⟩ := all_size (joinI 0 ts) _ 0 [] 0 us 0 (Nat.zero_le _) u1
  refine ⟨by omega, fun t ht => ?_, by omega, us, u1, u2, fun t ht => ?_, als_join 0 u2⟩
  · obtain ⟨a1, a2⟩ := h2 t ht
    exact ⟨by omega, a2⟩
  · obtain ⟨a1, a2⟩ := u3 t ht
    exact ⟨by omega, a2⟩
end Go.Proofs.YtnodfbjbcmkkhaaDoor
