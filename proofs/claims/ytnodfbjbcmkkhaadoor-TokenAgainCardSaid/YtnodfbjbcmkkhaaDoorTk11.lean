/- The lexer of package token: All: its contract. -/
import Derived.Test.YtnodfbjbcmkkhaaDoorTk10
set_option maxRecDepth 20000
namespace Go.Vcg
open Go.RowKit
section
variable {P : Program} {X : Ctx} {Q : Exit → Act → World → Prop} {μ : Mem} {l : Slots} {L : List Bk} {a : Act} {w : World}
/-- the head of a row of the call's own -/
theorem St.rowTake (h : St X μ l L a w) {i : Nat} {g n cap e s : Nat} {xs ys : List Value} (k : Nat) (hi : nthB L i = some (.inr ⟨.slice (some ⟨g, 0, none⟩) n cap, e, s, n, xs⟩)) (hk : k ≤ n) (hy : ys = xs.take (k * s)) :
    St X μ l (updB L i (.inr ⟨.slice (some ⟨g, 0, none⟩) k cap, e, s, k, ys⟩)) a w := by
  refine h.upd (w' := w) hi rfl rfl rfl (Nat.le_refl _) (fun _ _ _ => rfl) ?_ (fun b hb => .inl hb)
  have hown : w.ownsRow 0 e s (.slice (some ⟨g, 0, none⟩) n cap) n xs := h.own _ (nthB_mem hi)
  subst hy
  have hks : k * s ≤ n * s := Nat.mul_le_mul_right _ hk
  refine ⟨by show (xs.take (k * s)).length = k * s; rw [List.length_take, hown.1]; omega, ?_⟩
  rcases hown.2 with ⟨h1, _⟩ | ⟨g', cap', cur, h1, hb0, hh, h3, h4, h5, h6⟩
  · cases h1
  · cases h1
    refine .inr ⟨g, cap, cur, rfl, hb0, hh, (by show k ≤ cap; omega), h4, h5, ?_⟩
    show cur.toList.take (k * s) = xs.take (k * s)
    rw [← h6, List.take_take, Nat.min_eq_left hks]
theorem gq_rowTake {c : Exit} {i : Nat} {g n cap e s : Nat} {xs : List Value} (ys : List Value) (k : Nat) (hi : nthB L i = some (.inr ⟨.slice (some ⟨g, 0, none⟩) n cap, e, s, n, xs⟩)) (hk : k ≤ n) (hy : ys = xs.take (k * s))
    (h : GQ X Q c μ l (updB L i (.inr ⟨.slice (some ⟨g, 0, none⟩) k cap, e, s, k, ys⟩))) : GQ X Q c μ l L := fun a w hs => h a w (hs.rowTake k hi hk hy)
theorem v_len_own {p : Operand} {t e e' : TypeId} {v : Value} {s n : Nat} {xs : List Value} {ty : TypeId} {pos : String} {af : Array Edge} {gd : Option (Nat × Bool)} {ds : Option Nat} (i : Nat) (ht : P.underlying t = some (.slice e)) (hi : nthB L i = some (.inr ⟨v, e', s, n, xs⟩)) (hp : ev l p = some v) :
    Val P μ l L ⟨ds, .call { callee := .builtin .len, args := #[p], argTypes := #[t] }, ty, pos, af, gd⟩ (.int .i64 n) := v_len_row i ht hi hp
theorem ret_m3 {fn : Func} {n : Nat} {r1 r2 r3 : ResultVar} {v1 v2 v3 : Value} {μ0 : Mem} {Post : Mem → Value → Prop} {w : World} (hr : fn.results = #[r1, r2, r3]) (h1 : RV P μ l L r1 v1) (h2 : RV P μ l L r2 v2) (h3 : RV P μ l L r3 v3) (hp : ∀ μ', MLe μ μ' → (∀ x ∈ L, Bk.sh x μ') → Post μ' (.tuple #[v1, v2, v3])) :
    GQ ⟨w, μ0, [], n⟩ (bodyPost P fn (fun e w' => ∃ v μ', e = .returned v ∧ Grow w w' μ0 μ' ∧ Post μ' v)) .ret μ l L := fun a w' hs => by
  obtain ⟨μ', hg, hle, hL⟩ := hs.publish
  exact ⟨hs.defers, _, resultsN (rs := [r1, r2, r3]) (vs := [v1, v2, v3]) hr (rvs_cons h1 (rvs_cons h2 (rvs_cons h3 rvs_nil))) rfl hs.rd, _, μ', rfl, hg, hp μ' hle hL⟩
end
end Go.Vcg
namespace Go.Proofs.YtnodfbjbcmkkhaaDoor
open Go.RowKit Go.Vcg
def tailO (os : List Int) : Bool := match os.getLast? with
  | some x => decide (x = 0)
  | none => false
def pushO (os : List Int) (k n : Int) (s : List UInt8) (op : Bool) : List Int :=
  if k = 6 ∧ n = 0 ∧ op = true then os ++ [0]
  else if k = 6 ∧ n = 1 ∧ op = false then os.dropLast
  else if k = 5 ∧ s = [123] then match os.getLast? with
    | some x => os.dropLast ++ [x + 1]
    | none => os
  else if k = 5 ∧ s = [125] then match os.getLast? with
    | some x => os.dropLast ++ [x - 1]
    | none => os
  else os
def prep (ts : List Tok) (r : List Tok × Nat × Int) : List Tok × Nat × Int := if r.2.2 = 0 then (ts ++ r.1, r.2) else r
theorem prep_nil (r : List Tok × Nat × Int) : prep [] r = r := by simp [prep]
theorem prep_prep (ts us : List Tok) (r : List Tok × Nat × Int) : prep ts (prep us r) = prep (ts ++ us) r := by
  unfold prep
  by_cases h : r.2.2 = 0 <;> simp [h]
def allF (xs : List UInt8) : Nat → Nat → List Int → List Tok × Nat × Int
  | 0, _, _ => ([], 0, 99)
  | f + 1, to, os =>
    if nextErr (xs.drop to) (tailO os) ≠ 0 then ([], to + (gapK 0 false (xs.drop to)).1, nextErr (xs.drop to) (tailO os))
    else if (nextTok to (xs.drop to) (tailO os)).k = 0 then ([nextTok to (xs.drop to) (tailO os)], 0, 0)
    else prep [nextTok to (xs.drop to) (tailO os)] (allF xs f (nextTok to (xs.drop to) (tailO os)).to.toNat (pushO os (nextTok to (xs.drop to) (tailO os)).k (nextTok to (xs.drop to) (tailO os)).n (bl (nextTok to (xs.drop to) (tailO os)).s) (nextTok to (xs.drop to) (tailO os)).op))
def allL (xs : List UInt8) : List Tok × Nat × Int := allF xs (xs.length + 2) 0 []
/-- what a token that was found looks like -/
theorem next_ok {to : Nat} {xs : List UInt8} {tail : Bool} (h : nextErr xs tail = 0) : ∃ t g ln, gapK 0 false xs = (g, ln, true) ∧ oneL (xs.drop g) tail = .ok t ∧ nextTok to xs tail = { tokT (to + g) t with line := ln } ∧ g + t.len ≤ xs.length := by
  unfold nextErr at h
  unfold nextTok
  have hle := gapK_le xs 0 false (by omega)
  generalize gapK 0 false xs = g at h hle ⊢
  obtain ⟨m, ln, ok⟩ := g
  cases ok with
  | false => simp at h
  | true =>
    simp only [if_true] at h ⊢
    rcases ho : oneL (xs.drop m) tail with e | t
    · rw [ho] at h
      exact absurd h (oneL_err ho)
    · refine ⟨t, m, ln, rfl, ho, rfl, ?_⟩
      have := (oneL_le ho).1
      rw [List.length_drop] at this
      simp only at hle
      omega
/-- the kinds of tokens -/
theorem oneL_kind {xs : List UInt8} {tail : Bool} {t : T1} (h : oneL xs tail = .ok t) : 0 ≤ t.k ∧ t.k ≤ 6 ∧ (t.k = 6 → t.n = 0 ∨ (t.n = 1 ∧ tail = true)) := by
  unfold oneL at h
  split at h
  · cases h; simp
  · split at h
    · cases h
      refine ⟨?_, ?_, ?_⟩ <;> (simp only; split <;> omega)
    · split at h
      · split at h
        · cases h
        · cases h; simp
      · split at h
        · split at h
          · cases h
          · cases h; simp
        · split at h
          · rename_i hp
            split at h
            · cases h
            · cases h
              refine ⟨by simp, by simp, fun _ => ?_⟩
              simp only
              split
              · rename_i hc
                right
                refine ⟨rfl, ?_⟩
                rcases hp with hp | hp
                · rw [hp] at hc; exact absurd hc (by decide)
                · exact hp.2
              · left; rfl
          · split at h
            · cases h
            · cases h; simp
def intCells (l : List Int) : List Value := l.map fun i => .int .i64 i
theorem intCells_snoc (l : List Int) (x : Int) : intCells (l ++ [x]) = intCells l ++ [.int .i64 x] := by simp [intCells]
theorem tokCells_snoc (l : List Tok) (t : Tok) : (l ++ [t]).flatMap encTok = l.flatMap encTok ++ encTok t := by simp [List.flatMap_append]
theorem tokCells_len (l : List Tok) : (l.flatMap encTok).length = l.length * 7 := by
  induction l with
  | nil => rfl
  | cons t l ih => simp only [List.flatMap_cons, List.length_append, ih, List.length_cons]; simp; omega
end Go.Proofs.YtnodfbjbcmkkhaaDoor
