/- Tokens that are written out and read again are alike: the plain law. No program in sight. -/
import Derived.Test.YtnodfbjbcmkkhaaDoorTa2
set_option maxRecDepth 20000
namespace Go.Proofs.YtnodfbjbcmkkhaaDoor
open Go.RowKit Go.Vcg
theorem stops_gap {y : List UInt8} (h : stops y) (ln : Bool) : gapK 0 ln y = (0, ln, true) := by
  cases y with
  | nil => rfl
  | cons c y =>
    obtain ⟨h1, h2⟩ := stops_inv h
    rw [gapK, if_neg (by rw [h1]; simp), if_neg (fun h => (h2 h.1).1 h.2), if_neg (fun h => (h2 h.1).2 h.2)]
theorem gap_sep {y : List UInt8} (h : stops y) (i : Nat) (t : Tok) : gapK 0 false (sepI i t ++ y) = ((sepI i t).length, t.line, true) := by
  unfold sepI
  cases hl : t.line
  · rw [if_neg (by simp)]
    split
    · show gapK 0 false (32 :: y) = _
      rw [gapK, if_pos (by decide)]
      show shift1 (gapK 0 false y) = _
      rw [stops_gap h]
      rfl
    · exact stops_gap h false
  · rw [if_pos rfl]
    show gapK 0 false (10 :: y) = _
    rw [gapK, if_pos (by decide)]
    show shift1 (gapK 0 true y) = _
    rw [stops_gap h]
    rfl
theorem sep_join (i : Nat) (ts : List Tok) : sepOk (joinI (i + 1) ts) := by
  cases ts with
  | nil => exact .inl rfl
  | cons t r =>
    rw [joinI]
    unfold sepI
    split
    · exact .inr ⟨_, .inr rfl⟩
    · rw [if_pos (by omega)]
      exact .inr ⟨_, .inl rfl⟩
def Al (t u : Tok) : Prop := u = { t with at' := u.at', to := u.to }
def Als : List Tok → List Tok → Prop
  | [], [] => True
  | t :: r, u :: v => Al t u ∧ Als r v
  | _, _ => False
theorem nextTok_at {k : Nat} {xs : List UInt8} {tail : Bool} {g : Nat} {ln : Bool} {t : T1} (h1 : gapK 0 false xs = (g, ln, true)) (h2 : oneL (xs.drop g) tail = .ok t) : nextTok k xs tail = { tokT (k + g) t with line := ln } ∧ nextErr xs tail = 0 := by
  unfold nextTok nextErr
  rw [h1]
  simp only [if_true]
  rw [h2]
  exact ⟨rfl, rfl⟩
theorem again_all (xs zs : List UInt8) : ∀ (f to : Nat) (os : List Int) (i : Nat) (ts : List Tok) (a to' f' : Nat), to ≤ xs.length → allF xs f to os = (ts, a, 0) → ts.length ≤ f' → to' ≤ zs.length → zs.drop to' = joinI i ts →
    ∃ us, allF zs f' to' os = (us, 0, 0) ∧ Als ts us
  | 0, to, os, i, ts, a, to', f', _, h, _, _, _ => by simp [allF] at h
  | f + 1, to, os, i, ts, a, to', f', hto, h, hf, hto', hd => by
    rw [allF] at h
    split at h
    · rename_i he
      simp only [Prod.mk.injEq] at h
      exact absurd h.2.2 he
    · rename_i he
      obtain ⟨t, g, ln, h1, h2, h3, h4⟩ := next_ok (to := to) (Decidable.of_not_not he)
      have hst := gapK_end (xs.drop to) 0 false g ln (Nat.zero_le _) h1
      rw [h3] at h
      rw [List.length_drop] at h4
      have htn : ((tokT (to + g) t).to).toNat = to + g + t.len := Int.toNat_natCast (to + g + t.len)
      split at h
      · rename_i hk
        have hk : t.k = 0 := hk
        simp only [Prod.mk.injEq] at h
        obtain ⟨rfl, _, _⟩ := h
        have hnil : (xs.drop to).drop g = [] := by
          by_cases hne : (xs.drop to).drop g = []
          · exact hne
          · exact absurd hk ((oneL_le h2).2.1 hne).2
        rw [hnil, oneL] at h2
        obtain rfl := Except.ok.inj h2
        obtain ⟨f'', rfl⟩ : ∃ k, f' = k + 1 := ⟨f' - 1, by simp at hf; omega⟩
        have hj : zs.drop to' = sepI i { tokT (to + g) ⟨0, 0, 0, [], false⟩ with line := ln } ++ [] := by
          rw [hd, joinI, joinI]
          rfl
        have hgap := gap_sep (y := []) rfl i { tokT (to + g) ⟨0, 0, 0, [], false⟩ with line := ln }
        rw [← hj] at hgap
        obtain ⟨n1, n2⟩ := nextTok_at (k := to') (tail := tailO os) (t := ⟨0, 0, 0, [], false⟩) hgap (by rw [hj, List.append_nil, List.drop_length]; rfl)
        rw [allF, if_neg (by rw [n2]; simp), n1]
        exact ⟨_, if_pos rfl, rfl, trivial⟩
      · rename_i hk
        have hk : ¬ t.k = 0 := hk
        have hne : (xs.drop to).drop g ≠ [] := fun e => hk ((oneL_le h2).2.2 e)
        obtain ⟨c, r, hcr⟩ : ∃ c r, (xs.drop to).drop g = c :: r := by
          cases hx : (xs.drop to).drop g with
          | nil => exact absurd hx hne
          | cons c r => exact ⟨c, r, rfl⟩
        rw [hcr] at h2 hst
        have hpre : ∃ ts2, ts = { tokT (to + g) t with line := ln } :: ts2 ∧ allF xs f (to + g + t.len) (pushO os t.k t.n t.s t.op) = (ts2, a, 0) := by
          have hh : prep [{ tokT (to + g) t with line := ln }] (allF xs f (to + g + t.len) (pushO os t.k t.n t.s t.op)) = (ts, a, 0) := by
            have hb : bl (ofL t.s) = t.s := bl_ofL t.s
            rw [← hb, ← htn]
            exact h
          unfold prep at hh
          split at hh
          · rename_i h0
            refine ⟨_, (congrArg Prod.fst hh).symm, ?_⟩
            have := congrArg Prod.snd hh
            exact Prod.ext rfl this
          · rename_i h0
            exact absurd (congrArg (fun x => x.2.2) hh) h0
        obtain ⟨ts2, rfl, h5⟩ := hpre
        obtain ⟨f'', rfl⟩ : ∃ k, f' = k + 1 := ⟨f' - 1, by simp at hf; omega⟩
        have hz := sep_join i ts2
        obtain ⟨o1, o2, o3⟩ := oneL_again h2 hst hz
        have hw : bl (text1F { tokT (to + g) t with line := ln }) = wL t.k t.n t.s t.op := by
          rw [wL_text]
          show wL t.k t.n (bl (ofL t.s)) t.op = _
          rw [bl_ofL]
        rw [joinI, hw] at hd
        generalize wL t.k t.n t.s t.op = w at hd o1 o2 o3
        generalize hsep : sepI i { tokT (to + g) t with line := ln } = sp at hd
        have hgap := gap_sep o2 i { tokT (to + g) t with line := ln }
        rw [hsep, ← hd] at hgap
        obtain ⟨n1, n2⟩ := nextTok_at (k := to') (tail := tailO os) hgap (by rw [hd, List.drop_left]; exact o1)
        have hlen := congrArg List.length hd
        simp only [List.length_drop, List.length_append] at hlen
        have hd2 : zs.drop (to' + sp.length + w.length) = joinI (i + 1) ts2 := by
          rw [← List.drop_drop, ← List.drop_drop, hd, List.drop_left, List.drop_left]
        obtain ⟨us, u1, u2⟩ := again_all xs zs f (to + g + t.len) _ (i + 1) ts2 a (to' + sp.length + w.length) f'' (by omega) h5 (by simp at hf; omega) (by omega) hd2
        refine ⟨{ tokT (to' + sp.length) ⟨t.k, w.length, t.n, t.s, t.op⟩ with line := ln } :: us, ?_, rfl, u2⟩
        rw [allF, if_neg (by rw [n2]; simp), n1]
        refine (if_neg hk).trans ?_
        have hb : bl (ofL t.s) = t.s := bl_ofL t.s
        have hu : ((tokT (to' + sp.length) ⟨t.k, w.length, t.n, t.s, t.op⟩).to).toNat = to' + sp.length + w.length := Int.toNat_natCast (to' + sp.length + w.length)
        show prep _ (allF zs f'' ((tokT (to' + sp.length) ⟨t.k, w.length, t.n, t.s, t.op⟩).to).toNat (pushO os t.k t.n (bl (ofL t.s)) t.op)) = _
        rw [hu, hb, u1]
        rfl
end Go.Proofs.YtnodfbjbcmkkhaaDoor
