/- A token that is written out and read again is the token: one token. No program in sight. -/
import Derived.Test.YtnodfbjbcmkkhaaDoorTa1
import Derived.Lib.IndexAny
set_option maxRecDepth 20000
namespace Go.Proofs.YtnodfbjbcmkkhaaDoor
open Go.RowKit Go.Vcg
def wL (k n : Int) (s : List UInt8) (op : Bool) : List UInt8 :=
  if k = 1 ∨ k = 2 ∨ k = 5 then s
  else if k = 3 then Lib.itoa n
  else if k = 4 then 34 :: (codeL [34] s ++ [34])
  else if k = 6 then (if n = 1 then 125 else 96) :: (codeL [96, 36] s ++ (if op = true then [36, 123] else [96]))
  else []
theorem wL_text (t : Tok) : bl (text1F t) = wL t.k t.n (bl t.s) t.op := by
  unfold text1F wL
  repeat' split
  all_goals first
    | rfl
    | (rw [bl_app, bl_app]; simp [bl]; done)
    | simp [bl]
/-! where no blank begins -/
theorem stops_cons {c : UInt8} {y : List UInt8} (h1 : on8 wsI c = false) (h2 : c = 47 → y.head? ≠ some 47 ∧ y.head? ≠ some 42) : stops (c :: y) := by
  unfold stops
  rw [gapK, if_neg (by rw [h1]; simp), if_neg (fun h => (h2 h.1).1 h.2), if_neg (fun h => (h2 h.1).2 h.2)]
theorem stops_inv {c : UInt8} {y : List UInt8} (h : stops (c :: y)) : on8 wsI c = false ∧ (c = 47 → y.head? ≠ some 47 ∧ y.head? ≠ some 42) := by
  unfold stops at h
  rw [gapK] at h
  split at h
  · simp at h
  · rename_i h1
    split at h
    · simp at h
    · rename_i h2
      split at h
      · split at h <;> simp at h
      · rename_i h3
        exact ⟨by simpa using h1, fun e => ⟨fun hh => h2 ⟨e, hh⟩, fun hh => h3 ⟨e, hh⟩⟩⟩
theorem sep_head {z : List UInt8} (h : sepOk z) : z.head? ≠ some 47 ∧ z.head? ≠ some 42 ∧ z.head? ≠ some 123 := by
  rcases h with rfl | ⟨r, rfl | rfl⟩ <;> simp
theorem digAt_sep (ds z : List UInt8) (h : sepOk z) : digAt (ds ++ z) ds.length = false := by
  unfold digAt
  rw [List.getElem?_append_right (Nat.le_refl _), Nat.sub_self]
  rcases h with rfl | ⟨r, rfl | rfl⟩ <;> rfl
/-! signs -/
theorem contains_mem {tab p : List UInt8} (h : Lib.contains tab p = true) : ∀ b ∈ p, b ∈ tab := by
  unfold Lib.contains at h
  have h := of_decide_eq_true h
  rcases Lib.index_spec tab p with ⟨h1, _⟩ | ⟨i, _, _, h3, _⟩
  · omega
  · intro b hb
    unfold Lib.occAt at h3
    exact List.mem_of_mem_drop ((List.isPrefixOf_iff_prefix.1 h3).subset hb)
theorem signL_at {xs : List UInt8} (h : signL xs ≠ 0) : signAt xs (signL xs) = true ∧ (signL xs = 1 ∨ signL xs = 2 ∨ signL xs = 3) := by
  unfold signL at h ⊢
  split
  · rename_i h3; exact ⟨h3, by omega⟩
  · split
    · rename_i h2; exact ⟨h2, by omega⟩
    · split
      · rename_i h1; exact ⟨h1, by omega⟩
      · simp_all
theorem signAt_long {s z : List UInt8} (hz : sepOk z) {m : Nat} (hm : s.length < m) (h3 : m = 2 ∨ m = 3) : signAt (s ++ z) m = false := by
  rcases hz.cases with rfl | ⟨c, r, rfl, hc⟩
  · unfold signAt
    rw [decide_eq_false (by simp; omega)]; simp
  · have hmem : c ∈ (s ++ c :: r).take m := by
      have : (s ++ c :: r)[s.length]? = some c := by simp
      refine List.mem_of_getElem? (i := s.length) ?_
      rw [List.getElem?_take, if_pos hm, this]
    cases hs : signAt (s ++ c :: r) m with
    | false => rfl
    | true =>
      exfalso
      unfold signAt at hs
      simp only [Bool.and_eq_true, decide_eq_true_eq] at hs
      obtain ⟨⟨⟨_, h32⟩, _⟩, hcon⟩ := hs
      rcases hc with rfl | rfl
      · have := Lib.contains_iff_indexByte ((s ++ 32 :: r).take m) 32
        rw [decide_eq_false (by omega)] at this
        rw [List.contains_iff_mem.2 hmem] at this
        cases this
      · have := contains_mem hcon 10 (by simp only [List.mem_append]; exact .inl (.inr hmem))
        rcases h3 with rfl | rfl
        · exact absurd this (by decide)
        · exact absurd this (by decide)
theorem signL_app {xs z : List UInt8} (h : signL xs ≠ 0) (hz : sepOk z) : signL (xs.take (signL xs) ++ z) = signL xs := by
  obtain ⟨h1, h2⟩ := signL_at h
  have hle := (signL_take h).1
  generalize hn : signL xs = n at h1 h2 hle ⊢
  have hl : (xs.take n).length = n := by rw [List.length_take]; omega
  have hat : signAt (xs.take n ++ z) n = true := by
    unfold signAt at h1 ⊢
    simp only [Bool.and_eq_true, decide_eq_true_eq] at h1 ⊢
    obtain ⟨⟨⟨_, a⟩, _⟩, b⟩ := h1
    have ht : (xs.take n ++ z).take n = xs.take n := List.take_left' hl
    rw [ht]
    have hd := digAt_sep (xs.take n) z hz
    rw [hl] at hd
    refine ⟨⟨⟨by rw [List.length_append]; omega, a⟩, ?_⟩, b⟩
    rw [hd]; simp
  have hlong : ∀ m, n < m → (m = 2 ∨ m = 3) → signAt (xs.take n ++ z) m = false := fun m hm h3 => signAt_long hz (by omega) h3
  unfold signL
  rcases h2 with rfl | rfl | rfl
  · rw [hlong 3 (by omega) (.inr rfl), hlong 2 (by omega) (.inl rfl), hat]; rfl
  · rw [hlong 3 (by omega) (.inr rfl), hat]; rfl
  · rw [hat]; rfl
/-- one token -/
theorem oneL_again {c : UInt8} {r : List UInt8} {tail : Bool} {t : T1} (h : oneL (c :: r) tail = .ok t) (hst : stops (c :: r)) {z : List UInt8} (hz : sepOk z) :
    oneL (wL t.k t.n t.s t.op ++ z) tail = .ok ⟨t.k, (wL t.k t.n t.s t.op).length, t.n, t.s, t.op⟩ ∧ stops (wL t.k t.n t.s t.op ++ z) ∧ wL t.k t.n t.s t.op ≠ [] := by
  obtain ⟨hw, hcm⟩ := stops_inv hst
  rw [oneL] at h
  split at h
  · rename_i h1
    have hid : on8 idI c = true := by show idI _ = true; unfold idI; rw [show ltrI (c.toNat : Int) = true from h1]; rfl
    have hp := headN_pos (r := r) hid
    have happ := headN_app idI z (headN_sep hz) (c :: r)
    generalize hH : headN idI (c :: r) = H at h hp happ
    have hle := headN_le idI (c :: r)
    rw [hH] at hle
    obtain ⟨j, rfl⟩ : ∃ j, H = j + 1 := ⟨H - 1, by omega⟩
    have hlen : ((c :: r).take (j + 1)).length = j + 1 := by rw [List.length_take]; omega
    obtain rfl := Except.ok.inj h
    have hk : wL (if Lib.contains wordsB ([32] ++ (c :: r).take (j + 1) ++ [32]) then 2 else 1) 0 ((c :: r).take (j + 1)) false = (c :: r).take (j + 1) := by
      unfold wL; rw [if_pos (by split <;> simp)]
    simp only [hk]
    refine ⟨?_, ?_, by simp⟩
    · rw [hlen]
      have he : (c :: r).take (j + 1) ++ z = c :: (r.take j ++ z) := rfl
      have ht : ((c :: r).take (j + 1) ++ z).take (j + 1) = (c :: r).take (j + 1) := List.take_left' hlen
      rw [he, oneL, if_pos h1, ← he, happ, ht]
    · exact stops_cons hw (fun e => absurd (e ▸ h1 : on8 ltrI 47 = true) (by decide))
  · rename_i h1
    split at h
    · rename_i h2
      split at h
      · cases h
      · rename_i n m hn
        obtain rfl := Except.ok.inj h
        obtain ⟨hn0, hn1⟩ := numL_ok hn
        have hk : wL 3 n [] false = Lib.decDigits n.toNat := by
          unfold wL Lib.itoa
          rw [if_neg (by omega), if_pos rfl, if_neg (by omega)]
        simp only [hk]
        obtain ⟨d, y, e1, e2, _, _⟩ := dec_head n.toNat
        have hnum := numL_dec n.toNat (by omega) z hz
        rw [show ((n.toNat : Nat) : Int) = n by omega] at hnum
        have e3 : digI (d.toNat : Int) = true := e2
        unfold digI at e3
        have e3 := of_decide_eq_true e3
        have hl : ¬ on8 ltrI d = true := by
          show ¬ ltrI _ = true
          unfold ltrI
          rw [decide_eq_false (by omega), decide_eq_false (by omega), decide_eq_false (by omega), decide_eq_false (by omega)]; simp
        have hws : on8 wsI d = false := by
          show wsI _ = false
          unfold wsI endI
          rw [decide_eq_false (by omega), decide_eq_false (by omega), decide_eq_false (by omega), decide_eq_false (by omega)]; rfl
        rw [e1] at hnum ⊢
        refine ⟨?_, ?_, by simp⟩
        · rw [List.cons_append] at hnum ⊢
          rw [oneL, if_neg hl, if_pos e2, hnum]
        · exact stops_cons hws (fun e => by subst e; exact absurd e2 (by decide))
    · rename_i h2
      split at h
      · rename_i h3
        split at h
        · cases h
        · rename_i o m hq
          obtain rfl := Except.ok.inj h
          have hk : wL 4 0 o false = 34 :: (codeL [34] o ++ [34]) := by
            unfold wL; rw [if_neg (by omega), if_neg (by omega), if_pos rfl]
          simp only [hk]
          have hq := qK_code z o
          have he : 34 :: (codeL [34] o ++ [34]) ++ z = 34 :: (codeL [34] o ++ 34 :: z) := by simp
          rw [he]
          refine ⟨?_, stops_cons (by decide) (fun e => absurd e (by decide)), by simp⟩
          rw [oneL, if_neg (by decide), if_neg (by decide), if_pos (.inl rfl), hq]
          simp
      · rename_i h3
        split at h
        · rename_i h4
          split at h
          · cases h
          · rename_i o m hq
            obtain rfl := Except.ok.inj h
            generalize decide (r[m - 1]? = some 36) = op
            have hk : wL 6 (if c = 125 then 1 else 0) o op = c :: (codeL [96, 36] o ++ (if op = true then [36, 123] else [96])) := by
              unfold wL
              rw [if_neg (by omega), if_neg (by omega), if_neg (by omega), if_pos rfl]
              congr 1
              rcases h4 with rfl | ⟨rfl, _⟩ <;> rfl
            simp only [hk]
            have hc47 : c = 47 → False := fun e => by rcases h4 with h4 | ⟨h4, _⟩ <;> (subst e; exact absurd h4 (by decide))
            refine ⟨?_, stops_cons hw (fun e => (hc47 e).elim), by simp⟩
            cases op
            · have he : c :: (codeL [96, 36] o ++ (if false = true then [36, 123] else [96])) ++ z = c :: (codeL [96, 36] o ++ 96 :: z) := by simp
              rw [he, oneL, if_neg h1, if_neg h2, if_neg h3, if_pos h4, pK_code z 96 (.inr rfl) o]
              simp
            · have he : c :: (codeL [96, 36] o ++ (if true = true then [36, 123] else [96])) ++ z = c :: (codeL [96, 36] o ++ 36 :: (123 :: z)) := by simp
              rw [he, oneL, if_neg h1, if_neg h2, if_neg h3, if_pos h4, pK_code (123 :: z) 36 (.inl ⟨rfl, rfl⟩) o]
              simp
        · rename_i h4
          split at h
          · cases h
          · rename_i h5
            obtain rfl := Except.ok.inj h
            have hk : wL 5 0 ((c :: r).take (signL (c :: r))) false = (c :: r).take (signL (c :: r)) := by
              unfold wL; rw [if_pos (.inr (.inr rfl))]
            simp only [hk]
            have happ := signL_app h5 hz
            obtain ⟨_, hn⟩ := signL_at h5
            have hle := (signL_take h5).1
            generalize signL (c :: r) = n at happ hn hle h5 ⊢
            have hlen : ((c :: r).take n).length = n := by rw [List.length_take]; omega
            obtain ⟨j, rfl⟩ : ∃ j, n = j + 1 := ⟨n - 1, by omega⟩
            have he : (c :: r).take (j + 1) ++ z = c :: (r.take j ++ z) := rfl
            have ht : ((c :: r).take (j + 1) ++ z).take (j + 1) = (c :: r).take (j + 1) := List.take_left' hlen
            refine ⟨?_, ?_, by simp⟩
            · rw [hlen, he, oneL, if_neg h1, if_neg h2, if_neg h3, if_neg h4, ← he, happ, if_neg h5, ht]
            · rw [he]
              refine stops_cons hw (fun e => ?_)
              have := hcm e
              have hs := sep_head hz
              cases j with
              | zero => exact ⟨hs.1, hs.2.1⟩
              | succ j =>
                cases r with
                | nil => exact ⟨by simpa using hs.1, by simpa using hs.2.1⟩
                | cons d r => simpa using this
end Go.Proofs.YtnodfbjbcmkkhaaDoor
