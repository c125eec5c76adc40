/- A queue of the call's own: a row that is cut at the front and appended to. -/
import Derived.Test.YtoclmkdfcafhfaaGreatDoorZae
import Derived.Lib.ItoaNum
import Derived.Lib.Join
set_option maxRecDepth 20000
set_option maxHeartbeats 2000000
namespace Go.Vcg
section
open Go.RowKit
inductive Qu (t : TypeId) : Value → Bk → List Value → Prop
  | nil : Qu t (.slice none 0 0) (.inr ⟨.slice none 0 0, t, 1, 0, []⟩) []
  | at (g off k sz : Nat) (xs : List Value) (h : xs.length ≤ k) (hs : off + k ≤ sz) (hm : sz ≤ maxLen) : Qu t (.slice (some ⟨g, off, none⟩) xs.length k) (.inl ⟨g, t, sz, idx off xs⟩) xs
theorem Qu.one {t : TypeId} {v : Value} {x : Bk} {xs : List Value} (h : Qu t v x xs) : v.oneCell' = true := by cases h <;> rfl
theorem Qu.form {t : TypeId} {v : Value} {x : Bk} {xs : List Value} (h : Qu t v x xs) : ∃ A c, v = .slice A xs.length c ∧ xs.length ≤ c := by
  cases h with
  | nil => exact ⟨none, 0, rfl, Nat.le_refl _⟩
  | «at» g off k sz _ h hs hm => exact ⟨_, k, rfl, h⟩
section
variable {P : Program} {X : Ctx} {ops : Array Oper} {Q : Exit → Act → World → Prop} {rest : List Oper} {μ : Mem} {l : aF} {L : List Bk} {a : Act} {w : World} {o : Oper} {d : Nat}
variable {ty : TypeId} {pos : String} {af : Array Edge} {gd : Option (Nat × Bool)} {ds : Option Nat}
theorem zW (off : Nat) (xs : List Value) : lH (idx (off + 1) (xs.drop 1)) (idx off xs) := fun t v h => by
  obtain ⟨h1, h2⟩ := lA _ _ _ _ h
  rw [List.getElem?_drop, show 1 + (t - (off + 1)) = t - off by omega] at h2
  have := pY xs off (t - off) v h2
  rwa [show off + (t - off) = t by omega] at this
theorem RQ : ∀ (L : List Bk), Sel L L
  | [] => Sel.nil _
  | x :: r => rU (.refl x) (RQ r)
theorem rT {x y : Bk} (h : eV y x) : ∀ {L : List Bk} {i : Nat}, cO L i = some x → Sel (dY L i y) L
  | [], _, e => by simp [cO] at e
  | z :: r, 0, e => by
    simp [cO] at e
    subst e
    exact rU h (RQ r)
  | z :: r, i + 1, e => rU (.refl z) (rT h (by simpa [cO] using e))
theorem aBb (A : Addr) : A.add 0 = A := by simp [Addr.add]
theorem wT {t e : TypeId} {i : TypeInfo} (ht : P.underlying t = some (.slice e)) (hi : P.info? e = some i) (h1 : i.size = 1) (g off n k : Nat) (cur : Array Value) (hg : w.heap[g]? = some (.cells cur e (0, 0))) (ad : Addr) (c : Nat) (u : Value) (hu : w.cell? ad = some u) (hone : u.oneCell' = true) (hroom : n + 1 ≤ k) (hfit : off + n + 1 ≤ cur.size) :
    (Builtin.append_ #[t, t] ty #[.slice (some ⟨g, off, none⟩) n k, .slice (some ad) 1 c]).run P w = .ok (.slice (some ⟨g, off, none⟩) (n + 1) k) (w.setRow g (cur.toList.take (off + n) ++ [u] ++ cur.toList.drop (off + n + 1)).toArray) := by
  have hz : ∀ j v, [u][j]? = some v → w.cell? (ad.add j) = some v := fun j v hj => by
    cases j with
    | zero => simp at hj; subst hj; rw [aBb]; exact hu
    | succ j => simp at hj
  have hf := run_firstCells_some (P := P) w i.size 1 ad 1 c [u] (by simp [h1]) hz
  have hst := run_storeCells_at P g (off + n * i.size) e [u] 0 cur w hg (by simp [h1]; omega) (by simpa using hone)
  simp only [Nat.add_zero, List.length_singleton] at hst
  rw [h1, Nat.mul_one] at hst
  rw [h1] at hf
  simp [Builtin.append_, run_underlying ht, sizeOf, typeInfo, hi, Builtin.lenOf, hroom, hf, Addr.add_lit, h1, hst]
theorem GJ {l : List Value} {m : Nat} {u : Value} (h : m < l.length) (j : Nat) : (l.take m ++ [u] ++ l.drop (m + 1))[j]? = if j = m then some u else l[j]? := by
  rw [List.append_assoc]
  by_cases hj : j < m
  · rw [List.getElem?_append_left (by simp; omega), List.getElem?_take, if_pos hj, if_neg (by omega)]
  · rw [List.getElem?_append_right (by simp; omega)]
    have hl : (l.take m).length = m := by simp; omega
    rw [hl]
    by_cases he : j = m
    · subst he; simp
    · rw [if_neg he, List.getElem?_append_right (by simp; omega), List.getElem?_drop]
      congr 1
      simp
      omega
theorem TS {p q : Operand} {t e bytes : TypeId} {z v u : Value} {x : Bk} {xs : List Value} (i : Nat) (hn : Nat.blt d X.n = true) (hw : dH ops l ⟨some d, .call { callee := .builtin .append, args := #[p, q], argTypes := #[t, t] }, ty, pos, af, gd⟩ = some true)
    (ht : P.underlying t = some (.slice e)) (hs : bA P e = some 1) (hz : cH P e = some z) (hzs : z.cells.toList.length = 1) (hby : dF P e = some bytes) (hp : ev l p = some v) (hi : cO L i = some x) (hQ : Qu e v x xs)
    (hsrc : Src μ l L q 1 [u]) (h1 : u.oneCell' = true) (hroom : (xs.length + 1) * bytes ≤ 140737488355328) (hlen : xs.length + 1 ≤ 140737488355328)
    (h : ∀ v' x', Qu e v' x' (xs ++ [u]) → G P X ops Q rest μ ((d, v') :: l) (dY L i x')) :
    G P X ops Q (⟨some d, .call { callee := .builtin .append, args := #[p, q], argTypes := #[t, t] }, ty, pos, af, gd⟩ :: rest) μ l L :=
  qG hw fun a w hs' => by
    obtain ⟨A, c, hq, h0, hc⟩ := hsrc
    have hp' := hs'.eval hp
    have hs0 := hs
    unfold bA at hs
    have hz0 := hz
    have hby0 := hby
    unfold dF at hby
    cases hinf : P.info? e with
    | none => simp [hinf] at hs
    | some inf =>
      simp [hinf, eR] at hs
      simp [hinf, jS] at hby
      rcases A with _ | ad
      · exact absurd (h0 rfl).1 (by omega)
      have hcell : w.cell? ad = some u := by
        have := hc ad rfl a w hs'.rd 0 u rfl
        rwa [aBb] at this
      have grown : ∀ (w' : World) (v' : Value), w'.ownsRow w.heap.size e 1 v' (xs.length + 1) (xs ++ [u]) → w.grownBy w' none → (Builtin.append_ #[t, t] ty #[v, .slice (some ad) 1 c]).run P w = .ok v' w' → (⟨some d, .call { callee := .builtin .append, args := #[p, q], argTypes := #[t, t] }, ty, pos, af, gd⟩ : Oper).wp P a w (wpList P ops Q rest) Q := by
        intro w' v' hown hg hr
        unfold Oper.wp
        rw [dW hp' (hs'.eval hq) hr, Oper.upon_value]
        rcases hown.2 with ⟨_, h3⟩ | ⟨g, cap, cur, rfl, hb, hh, hnc, hcm, hcs, htk⟩
        · omega
        · have hQ' : Qu e (.slice (some ⟨g, 0, none⟩) (xs.length + 1) cap) (.inl ⟨g, e, cap, idx 0 (xs ++ [u])⟩) (xs ++ [u]) := by
            have := Qu.at (t := e) g 0 cap cap (xs ++ [u]) (by simpa using hnc) (by omega) hcm
            simpa using this
          refine h _ _ hQ' _ _ ((hs'.upd hi hg.os hg.tape hg.output hg.size (fun b hb2 _ => hg.block b hb2 (by simp)) (y := .inl ⟨g, e, cap, idx 0 (xs ++ [u])⟩) ⟨cur, hh, by simpa using hcs, fun j v hj => ?_⟩ (fun b hb2 => ?_)).put hn _)
          · obtain ⟨_, h5⟩ := lA _ _ _ _ hj
            rw [Nat.sub_zero, ← htk] at h5
            rw [List.getElem?_take] at h5
            split at h5
            · simpa using h5
            · cases h5
          · cases hb2
            exact .inr hb
      cases hQ with
      | nil =>
        obtain ⟨v', w', r1, r2, r3, r4⟩ := fC (P := P) (ty := ty) (w := w) (t := t) ht hs0 hz0 hzs hby0 (by omega) (v := .slice none 0 0) (n := 0) (xs := []) ⟨by simp, .inl ⟨rfl, rfl⟩⟩ (m := 1) (c := c) (news := [u]) rfl h0 (fun ad e => hc ad e a w hs'.rd) (by simpa using h1) (by simpa using hroom) (by simp)
        refine grown w' v' ⟨r2.1, ?_⟩ r3 r1
        rcases r2.2 with h3 | ⟨g, cap, cur, h3, h4, h5⟩
        · exact .inl h3
        · refine .inr ⟨g, cap, cur, h3, ?_, h5⟩
          rcases r4 with r4 | r4
          · rw [h3] at r4; simp [Value.ownBlock] at r4
          · rw [h3] at r4; simp [Value.ownBlock] at r4; omega
      | «at» g off k sz _ hk hsz hm =>
        obtain ⟨arr, hh, hasz, hlk⟩ := hs'.own _ (bP hi)
        dsimp only at hh hasz hlk
        by_cases hroom2 : xs.length + 1 ≤ k
        · have hr := wT (P := P) (w := w) (ty := ty) ht hinf hs g off xs.length k arr hh ad c u hcell h1 hroom2 (by omega)
          unfold Oper.wp
          rw [dW hp' (hs'.eval hq) hr, Oper.upon_value]
          have hQ' : Qu e (.slice (some ⟨g, off, none⟩) (xs.length + 1) k) (.inl ⟨g, e, sz, idx off (xs ++ [u])⟩) (xs ++ [u]) := by
            have := Qu.at (t := e) g off k sz (xs ++ [u]) (by simpa using hroom2) hsz hm
            simpa using this
          refine h _ _ hQ' _ _ ((hs'.setRow (x := ⟨g, e, sz, idx off xs⟩) hi ?_ ?_).put hn _)
          · simp [hasz]; omega
          · intro j v hj
            obtain ⟨h3, h4⟩ := lA _ _ _ _ hj
            rw [List.getElem?_toArray, GJ (by simp [hasz]; omega)]
            split
            · rename_i he
              rw [he, show off + xs.length - off = xs.length by omega] at h4
              simpa using h4
            · rename_i he
              have h5 : j - off < xs.length := by
                have := (List.getElem?_eq_some_iff.1 h4).1
                simp at this
                omega
              rw [List.getElem?_append_left h5] at h4
              have h6 := pY xs off (j - off) v h4
              rw [show off + (j - off) = j by omega] at h6
              have := hlk j v h6
              simpa using this
        · have holds : ∀ (j : Nat) (y : Value), xs[j]? = some y → w.cell? ((⟨g, off, none⟩ : Addr).add j) = some y := fun j y hj => by
            rw [Addr.add_lit]
            exact hs'.rd.cell (bP hi) (pY xs off j y hj)
          obtain ⟨v', w', r1, r2, r3⟩ := run_append_arg_grows (P := P) w t ty e inf z 1 bytes ht hinf (by unfold cH at hz0; simpa [hinf] using hz0) hs hby (by simpa using hzs) (by omega) ⟨g, off, none⟩ xs.length k xs (by simp) holds ad 1 c [u] rfl (fun j v hj => hc ad rfl a w hs'.rd j v hj) (by omega) (by simp only [maxLen]; omega) hroom
          exact grown w' v' r2 r3 r1
theorem AQ {p q : Operand} {t e bytes : TypeId} {z v u : Value} {x : Bk} {xs : List Value} (i : Nat) (hn : Nat.blt d X.n = true := by exact rfl) (hw : dH ops l ⟨some d, .call { callee := .builtin .append, args := #[p, q], argTypes := #[t, t] }, ty, pos, af, gd⟩ = some true := by exact rfl)
    (ht : P.underlying t = some (.slice e) := by exact rfl) (hs : bA P e = some 1 := by exact rfl) (hz : cH P e = some z := by exact rfl) (hzs : z.cells.toList.length = 1 := by exact rfl) (hby : dF P e = some bytes := by exact rfl) (hp : ev l p = some v := by exact rfl) (hi : cO L i = some x := by exact rfl) (hQ : Qu e v x xs)
    (S : Src μ l L q 1 [u] := by (with_reducible apply eZ); exact rfl; (repeat with_reducible exact bG); exact rfl) (O : u.oneCell' = true := by exact rfl) (B : xs.length ≤ 1000000) (hb : Nat.ble bytes 1000 = true := by exact rfl)
    (k : ∀ A c x', Qu e (.slice A (xs ++ [u]).length c) x' (xs ++ [u]) → G P X ops Q rest μ ((d, .slice A (xs ++ [u]).length c) :: l) (dY L i x')) :
    G P X ops Q (⟨some d, .call { callee := .builtin .append, args := #[p, q], argTypes := #[t, t] }, ty, pos, af, gd⟩ :: rest) μ l L :=
  TS i hn hw ht hs hz hzs hby hp hi hQ S O (by
    have h1 : bytes ≤ 1000 := by simpa using hb
    have h2 := Nat.mul_le_mul (show xs.length + 1 ≤ 1000001 by omega) h1
    omega) (by omega) fun v' x' hQ2 => by
    obtain ⟨A, c, rfl, hl⟩ := hQ2.form
    exact k A c x' hQ2
end
end
section
open Go.RowKit
section
variable {t : TypeId} {v u : Value} {x : Bk} {xs : List Value}
theorem Qu.pop (h : Qu t v x (u :: xs)) : ∃ A c x', eV x' x ∧ Qu t (.slice A xs.length c) x' xs ∧ ∀ {P : Program} {μ : Mem} {l : aF} {L : List Bk} {ds : Option Nat} {ty : TypeId} {pos : String} {af : Array Edge} {gd : Option (Nat × Bool)} {p q : Operand} {t' e : TypeId}, P.underlying t' = some (.slice e) → bA P e = some 1 → ev l p = some v → ev l q = some (.int .i64 1) → Val P μ l L ⟨ds, .slice t' p (some q) none none, ty, pos, af, gd⟩ (.slice A xs.length c) := by
  cases h with
  | «at» g off k sz _ hk hs hm =>
    simp only [List.length_cons] at hk
    by_cases hk1 : k = 1
    · have hx0 : xs = [] := List.eq_nil_of_length_eq_zero (by omega)
      subst hx0
      subst hk1
      refine ⟨some ⟨g, off, none⟩, 0, .inl ⟨g, t, sz, idx off []⟩, .cells dZ, Qu.at g off 0 sz [] (by simp) (by omega) hm, ?_⟩
      intro P μ l L ds ty pos af gd p q t' e h1 h2 h3 h4
      exact nK 1 h1 h2 h3 h4 rfl (by simp)
    · refine ⟨some ⟨g, off + 1, none⟩, k - 1, .inl ⟨g, t, sz, idx (off + 1) xs⟩, .cells (zW off (u :: xs)), Qu.at g (off + 1) (k - 1) sz xs (by omega) (by omega) hm, ?_⟩
      intro P μ l L ds ty pos af gd p q t' e h1 h2 h3 h4
      have hv := nK (P := P) (μ := μ) (L := L) (ds := ds) (ty := ty) (pos := pos) (af := af) (gd := gd) 1 h1 h2 h3 h4 rfl (by simp)
      rw [if_neg hk1] at hv
      have e1 : ((some ⟨g, off, none⟩ : Option Addr).map fun x => x.add (1 * 1)) = some ⟨g, off + 1, none⟩ := by simp [Addr.add_lit]
      rw [e1] at hv
      simpa using hv
theorem Qu.cut (h : Qu t v x xs) : ∃ A c x', eV x' x ∧ Qu t (.slice A 0 c) x' [] ∧ ∀ {P : Program} {μ : Mem} {l : aF} {L : List Bk} {ds : Option Nat} {ty : TypeId} {pos : String} {af : Array Edge} {gd : Option (Nat × Bool)} {p q : Operand} {t' e : TypeId}, P.underlying t' = some (.slice e) → bA P e = some 1 → ev l p = some v → ev l q = some (.int .i64 0) → Val P μ l L ⟨ds, .slice t' p none (some q) none, ty, pos, af, gd⟩ (.slice A 0 c) := by
  cases h with
  | nil =>
    refine ⟨none, 0, .inr ⟨.slice none 0 0, t, 1, 0, []⟩, .refl _, Qu.nil, ?_⟩
    intro P μ l L ds ty pos af gd p q t' e h1 h2 h3 h4
    exact vV 0 h1 h2 h3 h4 rfl (by simp)
  | «at» g off k sz _ hk hs hm =>
    refine ⟨some ⟨g, off, none⟩, k, .inl ⟨g, t, sz, idx off []⟩, .cells dZ, Qu.at g off k sz [] (by simp) hs hm, ?_⟩
    intro P μ l L ds ty pos af gd p q t' e h1 h2 h3 h4
    exact vV 0 h1 h2 h3 h4 rfl (by omega)
theorem Qu.hd (h : Qu t v x (u :: xs)) : ∃ g off c, v = .slice (some ⟨g, off, none⟩) (xs.length + 1) c ∧ ∀ {P : Program} {μ : Mem} {l : aF} {L : List Bk} {ds : Option Nat} {ty : TypeId} {pos : String} {af : Array Edge} {gd : Option (Nat × Bool)} {p : Operand} {t' : TypeId} (i : Nat), eU P t' = some false → cO L i = some x → ev l p = some (.pointer (some (Addr.add ⟨g, off, none⟩ (0 * 1)))) → Val P μ l L ⟨ds, .load t' p, ty, pos, af, gd⟩ u := by
  cases h with
  | «at» g off k sz _ hk hs hm =>
    refine ⟨g, off, k, by simp, ?_⟩
    intro P μ l L ds ty pos af gd p t' i h1 h2 h3
    rw [Nat.zero_mul, aBb] at h3
    exact vX (y := ⟨g, t, sz, idx off (u :: xs)⟩) i h1 h2 h3 (by simp [idx, lk])
end
section
variable {P : Program} {X : Ctx} {Q : Exit → Act → World → Prop} {μ : Mem} {l : aF} {L : List Bk} {rest : List Oper} {ops : Array Oper}
theorem aHg {x x' : Bk} (i : Nat) (hi : cO L i = some x) (hle : eV x' x) (h : G P X ops Q rest μ l (dY L i x')) : G P X ops Q rest μ l L := fun a w hs => h a w (hs.sel (fun _ _ h => h) (rT hle hi))
theorem aGn {e : Exit} {x x' : Bk} (i : Nat) (hi : cO L i = some x) (hle : eV x' x) (h : GQ X Q e μ l (dY L i x')) : GQ X Q e μ l L := fun a w hs => h a w (hs.sel (fun _ _ h => h) (rT hle hi))
end
end
end Go.Vcg
namespace Go.Proofs.YtoclmkdfcafhfaaGreatDoor
section
open Go.RowKit Go.Vcg
inductive T where
  | mk (op at' n m : Int) (s : ByteArray) (kids : List T)
namespace T
def op : T → Int | mk o _ _ _ _ _ => o
def at' : T → Int | mk _ a _ _ _ _ => a
def n : T → Int | mk _ _ n _ _ _ => n
def m : T → Int | mk _ _ _ m _ _ => m
def s : T → ByteArray | mk _ _ _ _ s _ => s
def kids : T → List T | mk _ _ _ _ _ k => k
def zero : T := mk 0 0 0 0 ⟨#[]⟩ []
def size : T → Nat | mk _ _ _ _ _ ks => 1 + (ks.attach.map fun ⟨k, _⟩ => k.size).sum
theorem size_eq (t : T) : t.size = 1 + (t.kids.map size).sum := by
  cases t with
  | mk o a n m s ks => rw [size]; simp [kids]
theorem aBr {l : List Nat} {x : Nat} (h : x ∈ l) : x ≤ l.sum := by
  induction l with
  | nil => cases h
  | cons y l ih =>
    rcases List.mem_cons.1 h with rfl | h
    · simp
    · have := ih h
      simp; omega
theorem oK {t k : T} {i : Nat} (h : t.kids[i]? = some k) : k.size < t.size := by
  rw [size_eq t]
  have := aBr (List.mem_map.2 ⟨k, List.mem_of_getElem? h, rfl⟩ : k.size ∈ t.kids.map size)
  omega
end T
abbrev aR (t : T) (v : Value) : List Value := [.int .i64 t.op, .int .i64 t.at', .int .i64 t.n, .int .i64 t.m, .string t.s, v]
abbrev qO (p : T × Value) : List Value := aR p.1 p.2
inductive KR (μ : Mem) : List T → Value → Prop
  | mk (ks : List T) (A : Option Addr) (c : Nat) (vs : Nat → Value) (hcap : ks.length ≤ c) (hcell : ∀ i t, ks[i]? = some t → ∃ a, A = some a ∧ gI μ (a.add (i * 6)) (aR t (vs i)))
      (hone : ∀ i t, ks[i]? = some t → (vs i).oneCell' = true) (hsub : ∀ i t, ks[i]? = some t → KR μ t.kids (vs i)) : KR μ ks (.slice A ks.length c)
theorem KR.mono {μ μ' : Mem} (hle : MLe μ μ') {ks : List T} {v : Value} (h : KR μ ks v) : KR μ' ks v := by
  induction h with
  | mk ks A c vs hcap hcell hone hsub ih =>
    refine .mk ks A c vs hcap (fun i t hi => ?_) hone ih
    obtain ⟨a, e, hc⟩ := hcell i t hi
    exact ⟨a, e, hc.mono hle⟩
theorem KR.form {μ : Mem} {ks : List T} {v : Value} (h : KR μ ks v) : ∃ (A : Option Addr) (c : Nat), v = .slice A ks.length c ∧ ks.length ≤ c ∧ ∀ (i : Nat) (t : T), ks[i]? = some t → ∃ a u, A = some a ∧ gI μ (a.add (i * 6)) (aR t u) ∧ u.oneCell' = true ∧ KR μ t.kids u := by
  cases h with
  | mk _ A c vs hcap hcell hone hsub =>
    refine ⟨A, c, rfl, hcap, fun i t hi => ?_⟩
    obtain ⟨a, e, hc⟩ := hcell i t hi
    exact ⟨a, _, e, hc, hone i t hi, hsub i t hi⟩
theorem KR.one {μ : Mem} {ks : List T} {v : Value} (h : KR μ ks v) : v.oneCell' = true := by cases h; rfl
def TV (μ : Mem) (t : T) (v : Value) : Prop := ∃ u, v = .agg (aR t u).toArray ∧ KR μ t.kids u
theorem KR.sl {μ : Mem} {ks : List T} {v : Value} (h : KR μ ks v) : ∃ (A : Option Addr) (c : Nat) (ps : List (T × Value)), v = .slice A ks.length c ∧ ks.length ≤ c ∧ ps.map (·.1) = ks ∧ Sl qO 6 μ A ks.length ps ∧ ∀ p ∈ ps, KR μ p.1.kids p.2 := by
  cases h with
  | mk _ A c vs hcap hcell hone hsub =>
    have hg : ∀ (i : Nat) (p : T × Value), (ks.zipIdx.map fun x => (x.1, vs x.2))[i]? = some p → ks[i]? = some p.1 ∧ p.2 = vs i := fun i p hp => by
      rw [List.getElem?_map, List.getElem?_zipIdx] at hp
      cases hk : ks[i]? with
      | none => simp [hk] at hp
      | some t => simp [hk] at hp; subst hp; exact ⟨rfl, rfl⟩
    refine ⟨A, c, ks.zipIdx.map fun x => (x.1, vs x.2), rfl, hcap, ?_, ⟨by simp, fun hp => ?_⟩, fun p hp => ?_⟩
    · rw [List.map_map]
      exact List.zipIdx_map_fst 0 ks
    · obtain ⟨a, e, _⟩ := hcell 0 _ (List.getElem?_eq_getElem hp)
      refine ⟨a, e, fun i p hx => ?_⟩
      obtain ⟨h1, h2⟩ := hg i p hx
      obtain ⟨a', e', hc⟩ := hcell i _ h1
      rw [e] at e'; cases e'
      show gI μ _ (aR p.1 p.2)
      rw [h2]; exact hc
    · obtain ⟨i, hi⟩ := List.mem_iff_getElem?.1 hp
      obtain ⟨h1, h2⟩ := hg i p hi
      rw [h2]; exact hsub i _ h1
end
section
open Go.RowKit Go.Vcg
attribute [local irreducible] G GC GQ GA bO Calls IntKind.wrap Int.decLt Int.decLe
structure It where
  op : Int
  at' : Int
  n : Int
  m : Int
  s : ByteArray
  k : Int
end
section
open Go.RowKit Go.Vcg
attribute [local irreducible] G GC GQ GA bO Calls IntKind.wrap Int.decLt Int.decLe
def Kids (μ : Mem) (ps : List (T × Value)) : Prop := ∀ p ∈ ps, KR μ p.1.kids p.2
theorem KR.JM {μ : Mem} {A : Option Addr} {n c : Nat} {ps : List (T × Value)} (h : Sl qO 6 μ A n ps) (hc : n ≤ c) (hk : Kids μ ps) : KR μ (ps.map (·.1)) (.slice A n c) := by
  have hn := h.1
  subst hn
  have : KR μ (ps.map (·.1)) (.slice A (ps.map (·.1)).length c) := by
    refine .mk _ A c (fun i => match ps[i]? with | some p => p.2 | none => undef) (by simpa using hc) (fun i t hi => ?_) (fun i t hi => ?_) (fun i t hi => ?_)
    all_goals
      rw [List.getElem?_map] at hi
      cases hp : ps[i]? with
      | none => simp [hp] at hi
      | some p =>
        simp [hp] at hi
        subst hi
        first
          | (obtain ⟨a, e, ha⟩ := h.2 (by have := (List.getElem?_eq_some_iff.1 hp).1; omega); exact ⟨a, e, ha i p hp⟩)
          | exact (hk p (List.mem_of_getElem? hp)).one
          | exact hk p (List.mem_of_getElem? hp)
  simpa using this
end
section
open Go.RowKit Go.Vcg
inductive gU (q : It → Prop) : T → Prop
  | node {op at' n m : Int} {s : ByteArray} {kids : List T} (h : ∃ k, q ⟨op, at', n, m, s, k⟩) (hk : ∀ t ∈ kids, gU q t) : gU q (.mk op at' n m s kids)
attribute [local irreducible] G GC GQ GA bO Calls IntKind.wrap Int.decLt Int.decLe
end
end Go.Proofs.YtoclmkdfcafhfaaGreatDoor
namespace Go.Proofs.YtoclmkdfcafhfaaGreatDoor.Iq
open Go.Vcg
def inI (n lo hi : Int) : Bool := decide (lo ≤ n) && decide (n ≤ hi)
def isE (op : Int) : Bool := decide (100 ≤ op) && (decide (op < 148) && (decide (op ≠ 121) && (decide (op ≠ 122) && decide (op ≠ 124))))
def isS (op : Int) : Bool := decide (160 ≤ op) && decide (op < 173)
def nE (sign : UInt8) (op : Int) : Bool :=
  if sign = 115 then isS op else if sign = 112 then decide (op = 121) || decide (op = 122) else if sign = 97 then isE op || decide (op = 124) else if sign = 98 then isE op || isS op else isE op
def fX : List UInt8 → List Int → Bool
  | [], l => l.isEmpty
  | [c], l => match l with
    | [] => false
    | x :: l' => nE c x && l'.isEmpty
  | c :: d :: r, l => if d = 42 then (l.take (l.length - r.length)).all (nE c) && fX r (l.drop (l.length - r.length)) else match l with
    | [] => false
    | x :: l' => nE c x && fX (d :: r) l'
def vT : List UInt8 → List UInt8 → List (List UInt8)
  | [], acc => [acc]
  | c :: r, acc => if c = 32 then acc :: vT r [] else vT r (acc ++ [c])
def cR (c : UInt8) : Bool := (decide (97 ≤ c.toNat) && decide (c.toNat ≤ 122)) || ((decide (65 ≤ c.toNat) && decide (c.toNat ≤ 90)) || (decide (c.toNat = 95) || decide (c.toNat = 36)))
def gD (c : UInt8) : Bool := cR c || (decide (48 ≤ c.toNat) && decide (c.toNat ≤ 57))
def oB : List UInt8 → Bool
  | [] => false
  | c :: r => cR c && r.all gD
def unW : List (List UInt8) := vT [45, 32, 43, 32, 33, 32, 126, 32, 118, 111, 105, 100] []
def rM : List (List UInt8) := vT [124, 32, 94, 32, 38, 32, 61, 61, 32, 33, 61, 32, 61, 61, 61, 32, 33, 61, 61, 32, 60, 32, 62, 32, 60, 61, 32, 62, 61, 32, 105, 110, 115, 116, 97, 110, 99, 101, 111, 102, 32, 105, 110, 32, 60, 60, 32, 62, 62, 32, 43, 32, 45, 32, 42, 32, 47, 32, 37] []
def rF : List (List UInt8) := vT [38, 38, 32, 124, 124, 32, 63, 63] []
def cT (op : Int) (s : List UInt8) : Bool :=
  if op = 105 then decide (s.length ≤ 65536) else if op = 111 ∨ op = 112 ∨ op = 113 ∨ op = 114 then oB s else if op = 132 then unW.contains s else if op = 133 then rM.contains s else if op = 134 then rF.contains s else s.isEmpty
def cG (op m : Int) : Bool := if op = 109 ∨ op = 110 then true else if op = 129 then inI m 0 1 else if op = 163 then inI m 0 4096 else decide (m = 0)
def bB (op n loc funcs : Int) : Bool :=
  if op = 102 ∨ op = 126 ∨ op = 127 ∨ op = 144 ∨ op = 114 then inI n 0 1 else if op = 103 then inI n (-9007199254740992) 9007199254740992 else if op = 107 ∨ op = 108 ∨ op = 169 then inI n 0 (loc - 1)
  else if op = 109 ∨ op = 110 ∨ op = 165 ∨ op = 166 then true else if op = 117 then inI n (-1) 1024 else if op = 118 then inI n 0 1024 else if op = 119 then inI n 1 (funcs - 1) else if op = 121 then inI n 0 2
  else if op = 163 ∨ op = 164 ∨ op = 170 then inI n 0 4096 else decide (n = 0)
def eW (op m : Int) (kids : List Int) : Bool :=
  if op = 129 then !(decide (m = 1) && (decide (kids.length < 2) || decide (kids[1]? = some 124))) && decide ((kids.length : Int) - 1 - m ≤ 1024)
  else if op = 131 then decide ((kids.length : Int) - 1 ≤ 1024) else if op = 130 then decide ((kids.length : Int) - 2 ≤ 1024) else true
structure PlP where
  (slots breaks agains : List Int) (inSc : Bool)
structure CkS where
  (met : List Bool) (slots : List (List Int)) (next : List Int)
abbrev Fns := List (Int × Int)
def kindOf (fs : Fns) (f : Int) : Int := (fs.getD f.toNat (0, 0)).1
def fN (fs : Fns) (f : Int) : Int := (fs.getD f.toNat (0, 0)).2
def KZ (k : Int) : Bool := decide (k / 4 % 2 = 1)
def cA (fs : Fns) (f : Int) (op n m : Int) (p : PlP) (c : CkS) : CkS × Bool :=
  if op = 109 ∨ op = 110 then (c, inI n 0 ((p.slots.length : Int) - 1) && inI m 0 (p.slots.getD n.toNat 0 - 1))
  else if op = 119 then
    let c' : CkS := if c.met.getD n.toNat false = true then c else ⟨c.met.set n.toNat true, c.slots.set n.toNat p.slots, c.next ++ [n]⟩
    (c', decide (c'.slots.getD n.toNat [] = p.slots))
  else if op = 137 ∨ op = 138 then (c, KZ (kindOf fs f))
  else if op = 165 then (c, p.breaks.contains n) else if op = 166 then (c, p.agains.contains n) else if op = 171 then (c, p.inSc) else (c, true)
section
variable (row : Int → List UInt8 × List UInt8) (fs : Fns)
def eO (t : T) (f : Int) (deep : Int) : Bool :=
  decide (deep ≤ 2048) && (!(row t.op).1.isEmpty && (fX (row t.op).2 (t.kids.map T.op) && (cT t.op t.s.data.toList && (cG t.op t.m && (bB t.op t.n (fN fs f) fs.length && eW t.op t.m (t.kids.map T.op))))))
def inside (op n : Int) (p : PlP) : PlP := if op = 164 then { p with breaks := p.breaks ++ [n] } else if op = 170 then { p with slots := n :: p.slots, inSc := true } else p
def dN (op n m : Int) (p : PlP) (i : Nat) : PlP := if op = 163 ∧ i = 1 then { p with breaks := p.breaks ++ [n], agains := p.agains ++ [m] } else p
mutual
def dI (f : Int) (t : T) (p : PlP) (deep : Int) (c : CkS) : CkS × Bool := match t with
  | .mk op at' n m s kids =>
    if eO row fs (.mk op at' n m s kids) f deep = true then
      let r := cA fs f op n m p c
      if r.2 = true then gP f op n m (inside op n p) deep kids 0 r.1 else (r.1, false)
    else (c, false)
def gP (f : Int) (op n m : Int) (p : PlP) (deep : Int) (kids : List T) (i : Nat) (c : CkS) : CkS × Bool := match kids with
  | [] => (c, true)
  | k :: r =>
    let q := dI f k (dN op n m p i) (deep + 1) c
    if q.2 = true then gP f op n m p deep r (i + 1) q.1 else (q.1, false)
end
def gT (bodies : List T) : Nat → CkS → CkS × Bool
  | 0, c => (c, c.next.isEmpty)
  | g + 1, c => match c.next with
    | [] => (c, true)
    | f :: r =>
      let body := bodies.getD f.toNat (.mk 0 0 0 0 ⟨#[]⟩ [])
      if isS body.op = true then
        let q := dI row fs f body ⟨c.slots.getD f.toNat [], [], [], false⟩ 1 { c with next := r }
        if q.2 = true then gT bodies g q.1 else (q.1, false)
      else ({ c with next := r }, false)
def nD (bodies : List T) (f : Nat) (c : CkS) : CkS × Bool := gT row fs bodies (bodies.length + 1) { c with met := c.met.set f true, next := [(f : Int)] }
def uZ (bodies : List T) : List Nat → CkS → Bool
  | [], _ => true
  | f :: r, c => if c.met.getD f false = true then uZ bodies r c else
    let q := nD row fs bodies f c
    if q.2 = true then uZ bodies r q.1 else false
end
end Go.Proofs.YtoclmkdfcafhfaaGreatDoor.Iq
namespace Go.Proofs.YtoclmkdfcafhfaaGreatDoor.Ou
section
open Go
def byS (s : ByteArray) : List UInt8 := s.data.toList
theorem GU {s t : ByteArray} (h : byS s = byS t) : s = t := by
  cases s; cases t
  simp only [byS, Array.toList_inj] at h
  rw [h]
structure aDd where
  (kind n : Int) (s : ByteArray)
structure EvP where
  (kind : Int) (key : aDd) (s : ByteArray)
structure aG2 where
  (e at_ fin : Int) (text : ByteArray) (out : List ByteArray) (log : List EvP) (steps made : Int)
def iO : List UInt8 := [48, 49, 50, 51, 52, 53, 54, 55, 56, 57, 97, 98, 99, 100, 101, 102]
def q1 (c : UInt8) : List UInt8 :=
  if c = 10 then [92, 110] else if c = 9 then [92, 116] else if c = 13 then [92, 114] else if c = 0 then [92, 48]
  else if c = 34 ∨ c = 92 then [92, c] else if c.toNat < 32 ∨ 126 < c.toNat then [92, 120, iO.getD (c.toNat / 16) 0, iO.getD (c.toNat % 16) 0] else [c]
def dO (l : List UInt8) : List UInt8 := 34 :: (l.flatMap q1 ++ [34])
def aHp : List (Int × List UInt8) := [(0, [111, 107]), (1, [97, 114, 103]), (2, [114, 97, 110, 103, 101]), (3, [110, 111, 110, 101]), (4, [116, 119, 105, 99, 101]), (5, [102, 117, 108, 108]), (6, [115, 116, 97, 116, 101]), (7, [102, 111, 114, 109]), (8, [101, 110, 100]), (9, [108, 111, 110, 103]), (10, [100, 101, 101, 112]), (20, [99, 104, 97, 114]), (21, [101, 115, 99, 97, 112, 101]), (22, [116, 111, 107, 101, 110]), (23, [115, 121, 110, 116, 97, 120]), (24, [116, 97, 114, 103, 101, 116]), (30, [97, 103, 97, 105, 110]), (31, [108, 97, 98, 101, 108]), (32, [98, 114, 101, 97, 107]), (33, [114, 101, 116, 117, 114, 110]), (34, [121, 105, 101, 108, 100]), (35, [115, 116, 114, 105, 99, 116]), (36, [99, 111, 110, 115, 116]), (40, [111, 112]), (41, [114, 101, 103]), (42, [106, 117, 109, 112]), (43, [112, 111, 111, 108]), (44, [103, 117, 97, 114, 100]), (50, [114, 101, 102]), (51, [107, 105, 110, 100])]
def aHr : List (Int × List UInt8) := [(0, [110, 111, 114, 109, 97, 108]), (1, [116, 104, 114, 111, 119]), (6, [115, 116, 111, 112])]
def evT : List (List UInt8) := [[112, 114, 105, 110, 116], [103, 101, 116], [115, 101, 116], [104, 97, 115], [100, 101, 108, 101, 116, 101], [100, 101, 102, 105, 110, 101], [107, 101, 121, 115], [99, 97, 108, 108], [110, 101, 119], [116, 104, 114, 111, 119], [121, 105, 101, 108, 100], [106, 111, 98], [102, 105, 110, 97, 108]]
def aEb : List (Int × List UInt8) → Int → List UInt8
  | [], _ => []
  | (k, v) :: r, n => if n = k then v else aEb r n
def aHq (e : Int) : List UInt8 := aEb aHp e
def aHs (e : Int) : List UInt8 := aEb aHr e
def evB (k : Int) : List UInt8 := evT.getD (k - 1).toNat []
def inB (n : Int) : Prop := 0 ≤ n ∧ n ≤ 9007199254740992
def aHd (k : aDd) : List UInt8 := if k.kind = 0 then [105, 110, 100, 101, 120, 32] ++ Lib.itoa k.n else if k.kind = 1 then [116, 101, 120, 116, 32] ++ dO (byS k.s) else [115, 121, 109, 98, 111, 108, 32] ++ Lib.itoa k.n
def aFf (e : EvP) : List UInt8 := [101, 118, 101, 110, 116, 32] ++ (evB e.kind ++ 32 :: (aHd e.key ++ 32 :: dO (byS e.s)))
def aB9 (s : ByteArray) : List UInt8 := [111, 117, 116, 32] ++ dO (byS s)
def aE2 (o : aG2) : List (List UInt8) :=
  if o.e ≠ 0 then [[101, 114, 114, 111, 114, 32] ++ (aHq o.e ++ 32 :: Lib.itoa o.at_)]
  else ([101, 110, 100, 115, 32] ++ (aHs o.fin ++ 32 :: dO (byS o.text))) :: ([115, 116, 101, 112, 115, 32] ++ Lib.itoa o.steps) :: ([109, 97, 100, 101, 32] ++ Lib.itoa o.made) :: (o.out.map aB9 ++ o.log.map aFf)
def cT (o : aG2) : List UInt8 := (aE2 o).flatMap (· ++ [10])
def Fr (c : UInt8) (l : List UInt8) : Prop := c ∉ l
theorem TW {c x : UInt8} {b : List UInt8} (hx : c ≠ x) (hb : Fr c b) : Fr c (x :: b) := fun h => (List.mem_cons.1 h).elim hx hb
theorem TZ {c : UInt8} : ∀ {x y u v : List UInt8}, Fr c x → Fr c y → x ++ c :: u = y ++ c :: v → x = y ∧ u = v
  | [], [], u, v, _, _, h => ⟨rfl, (List.cons.inj h).2⟩
  | [], b :: y, u, v, _, hy, h => absurd (List.mem_cons.2 (.inl (List.cons.inj h).1)) hy
  | a :: x, [], u, v, hx, _, h => absurd (List.mem_cons.2 (.inl (List.cons.inj h).1.symm)) hx
  | a :: x, b :: y, u, v, hx, hy, h => by
    obtain ⟨h1, h2⟩ := List.cons.inj h
    obtain ⟨h3, h4⟩ := TZ (fun hh => hx (List.mem_cons_of_mem _ hh)) (fun hh => hy (List.mem_cons_of_mem _ hh)) h2
    exact ⟨by rw [h1, h3], h4⟩
theorem GR : ∀ (n : Nat), ∀ c ∈ Lib.decDigits n, 48 ≤ c.toNat ∧ c.toNat ≤ 57 := by
  intro n
  induction n using Nat.strongRecOn with
  | _ n ih =>
    rw [Lib.decDigits]
    intro c hc
    have hd : ∀ d, d < 10 → (UInt8.ofNat (48 + d)).toNat = 48 + d := fun d hd => by
      rw [UInt8.toNat_ofNat']
      omega
    by_cases h : n < 10
    · rw [dif_pos h, List.mem_singleton] at hc
      rw [hc, hd _ h]
      omega
    · rw [dif_neg h, List.mem_append, List.mem_singleton] at hc
      rcases hc with hc | hc
      · exact ih (n / 10) (by omega) c hc
      · rw [hc, hd _ (by omega)]
        omega
theorem ZY (n : Int) : ∀ c ∈ Lib.itoa n, c.toNat = 45 ∨ 48 ≤ c.toNat ∧ c.toNat ≤ 57 := by
  intro c hc
  unfold Lib.itoa at hc
  split at hc
  · rcases List.mem_cons.1 hc with rfl | hc
    · exact .inl rfl
    · exact .inr (GR _ _ hc)
  · exact .inr (GR _ _ hc)
theorem aCr (n : Int) {c : UInt8} (h : c.toNat < 45) : Fr c (Lib.itoa n) := fun hc => by
  have := ZY n c hc
  omega
def zF (l : List UInt8) : Nat := l.foldl (fun a c => 10 * a + (c.toNat - 48)) 0
theorem aAx : ∀ n : Nat, zF (Lib.decDigits n) = n := by
  intro n
  induction n using Nat.strongRecOn with
  | _ n ih =>
    rw [Lib.decDigits]
    have hd : ∀ d, d < 10 → (UInt8.ofNat (48 + d)).toNat = 48 + d := fun d hd => by
      rw [UInt8.toNat_ofNat']
      omega
    by_cases h : n < 10
    · rw [dif_pos h]
      simp only [zF, List.foldl_cons, List.foldl_nil]
      rw [hd _ h]
      omega
    · rw [dif_neg h]
      have := ih (n / 10) (by omega)
      unfold zF at this ⊢
      rw [List.foldl_append, this]
      simp only [List.foldl_cons, List.foldl_nil]
      rw [hd _ (by omega)]
      omega
end
section
open Go
def ofB (l : List UInt8) : ByteArray := ⟨l.toArray⟩
theorem dG (l : List UInt8) : byS (ofB l) = l := by simp [byS, ofB]
theorem vK (s : ByteArray) : ofB (byS s) = s := GU (dG _)
def aO (c : UInt8) : List UInt8 → Option (List UInt8 × List UInt8)
  | [] => none
  | x :: r => if x = c then some ([], r) else (aO c r).map fun p => (x :: p.1, p.2)
theorem cD {c : UInt8} : ∀ {l a b : List UInt8}, aO c l = some (a, b) → l = a ++ c :: b ∧ Fr c a
  | [], a, b, h => by cases h
  | x :: r, a, b, h => by
    unfold aO at h
    split at h
    · rename_i hx
      cases h
      rw [hx]
      exact ⟨rfl, List.not_mem_nil⟩
    · rename_i hx
      cases hc : aO c r with
      | none => rw [hc] at h; cases h
      | some p =>
        obtain ⟨p1, p2⟩ := p
        rw [hc] at h
        cases h
        obtain ⟨h1, h2⟩ := cD hc
        exact ⟨by rw [h1]; rfl, TW (fun e => hx e.symm) h2⟩
theorem zJ {c : UInt8} : ∀ {a b : List UInt8}, Fr c a → aO c (a ++ c :: b) = some (a, b)
  | [], b, _ => by rw [List.nil_append, aO, if_pos rfl]
  | x :: a, b, h => by
    rw [List.cons_append, aO, if_neg (fun e => h (by rw [e]; exact List.mem_cons_self ..)), zJ (fun hh => h (List.mem_cons_of_mem _ hh))]
    rfl
theorem tY {c : UInt8} : ∀ {l : List UInt8}, aO c l = none → Fr c l
  | [], _ => List.not_mem_nil
  | x :: r, h => by
    unfold aO at h
    split at h
    · cases h
    · rename_i hx
      cases hc : aO c r with
      | none => exact TW (fun e => hx e.symm) (tY hc)
      | some p => rw [hc] at h; cases h
def rD (l : List UInt8) : Option Int := if ((zF l : Nat) : Int) ≤ 9007199254740992 ∧ Lib.itoa (zF l) = l then some (zF l) else none
theorem iL {l : List UInt8} {n : Int} (h : rD l = some n) : inB n ∧ Lib.itoa n = l := by
  unfold rD at h
  split at h
  · rename_i hc
    cases h
    exact ⟨⟨by omega, hc.1⟩, hc.2⟩
  · cases h
theorem CK {n : Int} (h : inB n) : rD (Lib.itoa n) = some n := by
  have hd : ((zF (Lib.itoa n) : Nat) : Int) = n := by
    unfold Lib.itoa
    rw [if_neg (by have := h.1; omega), aAx]
    have := h.1
    omega
  unfold rD
  rw [hd, if_pos ⟨h.2, rfl⟩]
def pC (c : UInt8) : Option Nat := if 48 ≤ c.toNat ∧ c.toNat ≤ 57 then some (c.toNat - 48) else if 97 ≤ c.toNat ∧ c.toNat ≤ 102 then some (c.toNat - 87) else if 65 ≤ c.toNat ∧ c.toNat ≤ 70 then some (c.toNat - 55) else none
def rH : List UInt8 → Except Int (UInt8 × List UInt8)
  | [] => .error 8
  | a :: r => match pC a with
    | none => .error 21
    | some x => match r with
      | [] => .error 8
      | b :: r => match pC b with
        | none => .error 21
        | some y => .ok (UInt8.ofNat (16 * x + y), r)
def sS : List UInt8 → Except Int (UInt8 × List UInt8)
  | [] => .error 8
  | c :: r => if c = 110 then .ok (10, r) else if c = 116 then .ok (9, r) else if c = 114 then .ok (13, r) else if c = 48 then .ok (0, r)
    else if c = 92 ∨ c = 39 ∨ c = 34 ∨ c = 96 ∨ c = 36 then .ok (c, r) else if c = 120 then rH r else .error 21
def oE (c : UInt8) (r : List UInt8) : Except Int (UInt8 × List UInt8) := if c = 92 then sS r else .ok (c, r)
def oF (q : UInt8) : Nat → List UInt8 → List UInt8 → Except Int (List UInt8 × List UInt8)
  | 0, _, _ => .error 8
  | _ + 1, [], _ => .error 8
  | f + 1, c :: r, out => if c = q then .ok (out, r) else if c = 10 ∨ c = 13 then .error 22 else match oE c r with
    | .error e => .error e
    | .ok (b, r') => if 65536 < out.length + 1 then .error 9 else oF q f r' (out ++ [b])
def eQ (l : List UInt8) : Except Int (List UInt8 × List UInt8) := match l with
  | [] => .error 1
  | q :: r => if q = 34 ∨ q = 39 then oF q (r.length + 1) r [] else .error 1
theorem aCa (c : UInt8) (r : List UInt8) : ∃ x y, q1 c ++ r = x :: y ∧ x ≠ 34 ∧ x ≠ 10 ∧ x ≠ 13 ∧ oE x y = .ok (c, r) ∧ r.length ≤ y.length := by
  have hh : ∀ d, d < 16 → pC (iO.getD d 0) = some d := by decide +kernel
  unfold q1
  split
  · rename_i h; subst h; exact ⟨92, 110 :: r, rfl, by decide, by decide, by decide, rfl, by simp⟩
  split
  · rename_i h; subst h; exact ⟨92, 116 :: r, rfl, by decide, by decide, by decide, rfl, by simp⟩
  split
  · rename_i h; subst h; exact ⟨92, 114 :: r, rfl, by decide, by decide, by decide, rfl, by simp⟩
  split
  · rename_i h; subst h; exact ⟨92, 48 :: r, rfl, by decide, by decide, by decide, rfl, by simp⟩
  split
  · rename_i h
    refine ⟨92, c :: r, rfl, by decide, by decide, by decide, ?_, by simp⟩
    rcases h with h | h <;> subst h <;> rfl
  split
  · have := c.toNat_lt
    refine ⟨92, 120 :: iO.getD (c.toNat / 16) 0 :: iO.getD (c.toNat % 16) 0 :: r, rfl, by decide, by decide, by decide, ?_, by simp; omega⟩
    show rH (iO.getD (c.toNat / 16) 0 :: iO.getD (c.toNat % 16) 0 :: r) = _
    unfold rH
    dsimp only
    rw [hh _ (by omega)]
    dsimp only
    rw [hh _ (by omega)]
    dsimp only
    congr 2
    rw [← UInt8.toNat_inj, UInt8.toNat_ofNat']
    omega
  · rename_i h1 h2 h3 h4 h5 h6
    rw [not_or] at h5
    exact ⟨c, r, rfl, h5.1, h1, h3, by unfold oE; rw [if_neg h5.2], Nat.le_refl _⟩
theorem yL : ∀ (t u out : List UInt8) (f : Nat), (t.flatMap q1 ++ 34 :: u).length < f → out.length + t.length ≤ 65536 → oF 34 f (t.flatMap q1 ++ 34 :: u) out = .ok (out ++ t, u)
  | [], u, out, f, hf, _ => by
    cases f with
    | zero => omega
    | succ f => rw [List.flatMap_nil, List.nil_append, oF, if_pos rfl, List.append_nil]
  | c :: t, u, out, f, hf, hl => by
    cases f with
    | zero => omega
    | succ f =>
      obtain ⟨x, y, h1, h2, h3, h4, h5, h6⟩ := aCa c (t.flatMap q1 ++ 34 :: u)
      rw [List.length_cons] at hl
      rw [List.flatMap_cons, List.append_assoc, h1] at hf ⊢
      rw [List.length_cons] at hf
      rw [oF, if_neg h2, if_neg (by rintro (h | h); exact h3 h; exact h4 h), h5]
      dsimp only
      rw [if_neg (by omega), yL t u (out ++ [c]) f (by omega) (by simp; omega), List.append_assoc]
      rfl
theorem IM (t u : List UInt8) (h : t.length ≤ 65536) : eQ (dO t ++ u) = .ok (t, u) := by
  unfold dO
  rw [List.cons_append, List.append_assoc]
  unfold eQ
  dsimp only
  rw [if_pos (.inl rfl)]
  exact (yL t u [] _ (by simp) (by simpa using h))
theorem yM {q : UInt8} : ∀ (f : Nat) (l out t u : List UInt8), out.length ≤ 65536 → oF q f l out = .ok (t, u) → t.length ≤ 65536
  | 0, _, _, _, _, _, h => by cases h
  | _ + 1, [], _, _, _, _, h => by cases h
  | f + 1, c :: r, out, t, u, ho, h => by
    unfold oF at h
    split at h
    · cases h; exact ho
    split at h
    · cases h
    split at h
    · cases h
    · split at h
      · cases h
      · exact yM f _ _ t u (by simp; omega) h
def nP (l : List UInt8) : Option (List UInt8 × List UInt8) := match eQ l with
  | .error _ => none
  | .ok (t, u) => if dO t ++ u = l then some (t, u) else none
theorem sC {l t u : List UInt8} (h : nP l = some (t, u)) : dO t ++ u = l ∧ t.length ≤ 65536 := by
  unfold nP at h
  split at h
  · cases h
  · rename_i t' u' hr
    split at h
    · rename_i hq
      cases h
      refine ⟨hq, ?_⟩
      unfold eQ at hr
      split at hr
      · cases hr
      · split at hr
        · exact yM _ _ _ _ _ (by simp) hr
        · cases hr
    · cases h
def cE (l : List UInt8) : Option (List UInt8) := match nP l with
  | some (t, []) => some t
  | _ => none
theorem yP {l t : List UInt8} (h : cE l = some t) : l = dO t := by
  unfold cE at h
  split at h
  · rename_i t' hq
    cases h
    rw [← (sC hq).1, List.append_nil]
  · cases h
section
variable (R : aDd → Bool)
def Shaped : Prop := ∀ k : aDd, R k = true → (k.kind = 0 ∧ k.s = ⟨#[]⟩ ∨ k.kind = 1 ∧ k.n = 0 ∨ k.kind = 2 ∧ k.s = ⟨#[]⟩)
variable {R}
theorem DP {s l u : List UInt8} (h : aO 10 s = some (l, u)) : s.count 10 = u.count 10 + 1 := by
  obtain ⟨h1, h2⟩ := cD h
  rw [h1, List.count_append, List.count_eq_zero.2 h2]
  simp
end
end
end Go.Proofs.YtoclmkdfcafhfaaGreatDoor.Ou
namespace Go.Proofs.YtoclmkdfcafhfaaGreatDoor.Iq
section
open Go Go.Proofs.YtoclmkdfcafhfaaGreatDoor.Ou
def cU (w : List UInt8) : Option Int := match rD w with
  | some n => some n
  | none => if w.head? = some 45 then match rD w.tail with
      | some n => if n = 0 then none else some (-n)
      | none => none
    else none
theorem iK {w : List UInt8} {n : Int} (h : cU w = some n) : (-9007199254740992 ≤ n ∧ n ≤ 9007199254740992) ∧ Lib.itoa n = w := by
  unfold cU at h
  split at h
  · rename_i m hm
    cases h
    obtain ⟨h1, h2⟩ := iL hm
    exact ⟨⟨by have := h1.1; omega, h1.2⟩, h2⟩
  · split at h
    · rename_i hh
      split at h
      · rename_i m hm
        obtain ⟨h1, h2⟩ := iL hm
        split at h
        · cases h
        · rename_i h0
          cases h
          have h3 := h1.1
          have h4 := h1.2
          refine ⟨⟨by omega, by omega⟩, ?_⟩
          unfold Lib.itoa at h2 ⊢
          rw [if_neg (by omega)] at h2
          rw [if_pos (by omega), show (-m).natAbs = m.toNat by omega, h2]
          cases w with
          | nil => cases hh
          | cons c r =>
            cases hh
            rfl
      · cases h
    · cases h
theorem aAz (n : Nat) : (Lib.decDigits n).head? ≠ some 45 := fun h => by
  have := GR n 45 (List.mem_of_mem_head? h)
  have h2 : (45 : UInt8).toNat = 45 := rfl
  omega
theorem VW {n : Int} (h : -9007199254740992 ≤ n ∧ n ≤ 9007199254740992) : cU (Lib.itoa n) = some n := by
  unfold cU
  by_cases h0 : 0 ≤ n
  · rw [CK ⟨h0, h.2⟩]
  · have e : Lib.itoa n = 45 :: Lib.itoa (-n) := by
      unfold Lib.itoa
      rw [if_pos (by omega), if_neg (by omega), show n.natAbs = (-n).toNat by omega]
    have hn : rD (45 :: Lib.itoa (-n)) = none := by
      cases hb : rD (45 :: Lib.itoa (-n)) with
      | none => rfl
      | some m =>
        obtain ⟨h1, h2⟩ := iL hb
        exfalso
        unfold Lib.itoa at h2
        rw [if_neg (by have := h1.1; omega)] at h2
        exact aAz m.toNat (by rw [h2]; rfl)
    rw [e, hn]
    dsimp only
    rw [if_pos (show (45 :: Lib.itoa (-n)).head? = some 45 from rfl), List.tail_cons, CK ⟨by omega, by omega⟩]
    dsimp only
    rw [if_neg (by omega), Int.neg_neg]
section
variable (row : Int → List UInt8 × List UInt8) (aP : List UInt8 → Option Int)
def mX (l : List UInt8) : Option (Int × Int × Int × Nat × List UInt8) := match aO 32 l with
  | none => none
  | some (w0, r0) => match aO 32 r0 with
    | none => none
    | some (w1, r1) => match aO 32 r1 with
      | none => none
      | some (w2, r2) => match aO 32 r2 with
        | none => none
        | some (w3, r3) => match aP w0, cU w1, cU w2, rD w3, cE r3 with
          | some op, some n, some m, some k, some s => if k ≤ 1048576 then some (op, n, m, k.toNat, s) else none
          | _, _, _, _, _ => none
def CR (op n m : Int) (k : Nat) (s : List UInt8) : List UInt8 := (row op).1 ++ 32 :: (Lib.itoa n ++ 32 :: (Lib.itoa m ++ 32 :: (Lib.itoa k ++ 32 :: dO s)))
mutual
def kM : T → List UInt8
  | .mk op _ n m s kids => CR row op n m kids.length (byS s) ++ 10 :: lR kids
def lR : List T → List UInt8
  | [] => []
  | k :: r => kM k ++ lR r
end
abbrev RdR (α : Type) := Except (Int × Int) (α × List UInt8 × Int)
mutual
def cN : Nat → Int → Int → List UInt8 → RdR T
  | 0, _, k, _ => .error (k, 0)
  | f + 1, deep, k, s => match aO 10 s with
    | none => .error (k + 1, 8)
    | some (l, r) => match mX aP l with
      | none => .error (k + 1, 7)
      | some (op, n, m, c, t) => if 2048 < deep then .error (k + 1, 10) else match iN f deep c (k + 1) r with
        | .error e => .error e
        | .ok (ks, r', k') => .ok (.mk op 0 n m (ofB t) ks, r', k')
def iN : Nat → Int → Nat → Int → List UInt8 → RdR (List T)
  | 0, _, _, k, _ => .error (k, 0)
  | _ + 1, _, 0, k, s => .ok ([], s, k)
  | f + 1, deep, c + 1, k, s => match cN f (deep + 1) k s with
    | .error e => .error e
    | .ok (t, r, k') => match iN f deep c k' r with
      | .error e => .error e
      | .ok (ts, r', k'') => .ok (t :: ts, r', k'')
end
def UF : Prop := (∀ w op, aP w = some op → (row op).1 = w) ∧ (∀ op, (row op).1 ≠ [] → aP (row op).1 = some op) ∧ ∀ op, Fr 32 (row op).1 ∧ Fr 10 (row op).1
variable {row aP}
theorem PN (hR : UF row aP) {l : List UInt8} {op n m : Int} {k : Nat} {s : List UInt8} (h : mX aP l = some (op, n, m, k, s)) :
    l = CR row op n m k s ∧ (-9007199254740992 ≤ n ∧ n ≤ 9007199254740992) ∧ (-9007199254740992 ≤ m ∧ m ≤ 9007199254740992) ∧ k ≤ 1048576 := by
  unfold mX at h
  split at h
  · cases h
  rename_i w0 r0 h0
  split at h
  · cases h
  rename_i w1 r1 h1
  split at h
  · cases h
  rename_i w2 r2 h2
  split at h
  · cases h
  rename_i w3 r3 h3
  split at h
  · rename_i op' n' m' k' s' e0 e1 e2 e3 e4
    split at h
    · rename_i hk
      simp only [Option.some.injEq, Prod.mk.injEq] at h
      obtain ⟨rfl, rfl, rfl, rfl, rfl⟩ := h
      obtain ⟨a1, a2⟩ := iK e1
      obtain ⟨b1, b2⟩ := iK e2
      obtain ⟨c1, c2⟩ := iL e3
      have d := yP e4
      refine ⟨?_, a1, b1, by omega⟩
      unfold CR
      rw [hR.1 _ _ e0, a2, b2, show ((k'.toNat : Nat) : Int) = k' by have := c1.1; omega, c2, ← d, (cD h0).1, (cD h1).1, (cD h2).1, (cD h3).1]
    · cases h
  · cases h
theorem WK (n : Int) : Fr 32 (Lib.itoa n) := aCr n (by decide)
theorem CD (hR : UF row aP) : ∀ f : Nat, (∀ (deep k : Int) (s : List UInt8) (t : T) (r : List UInt8) (k' : Int), cN aP f deep k s = .ok (t, r, k') → s = kM row t ++ r) ∧
    ∀ (deep : Int) (c : Nat) (k : Int) (s : List UInt8) (ts : List T) (r : List UInt8) (k' : Int), iN aP f deep c k s = .ok (ts, r, k') → s = lR row ts ++ r ∧ ts.length = c := by
  intro f
  induction f with
  | zero => exact ⟨fun _ _ _ _ _ _ h => by simp [cN] at h, fun _ _ _ _ _ _ _ h => by simp [iN] at h⟩
  | succ f ih =>
    refine ⟨fun deep k s t r k' h => ?_, fun deep c k s ts r k' h => ?_⟩
    · unfold cN at h
      split at h
      · cases h
      rename_i l r1 hc
      split at h
      · cases h
      rename_i op n m c u hl
      split at h
      · cases h
      split at h
      · cases h
      rename_i ks r2 k2 hk
      cases h
      obtain ⟨e1, e2⟩ := ih.2 _ _ _ _ _ _ _ hk
      obtain ⟨e3, _⟩ := PN hR hl
      rw [(cD hc).1, e3]
      unfold kM
      rw [dG, e2, List.append_assoc, List.cons_append, ← e1]
    · cases c with
      | zero =>
        unfold iN at h
        cases h
        exact ⟨by simp [lR], rfl⟩
      | succ c =>
        unfold iN at h
        split at h
        · cases h
        rename_i t r1 k1 hn
        split at h
        · cases h
        rename_i ts' r2 k2 hk
        cases h
        have e1 := ih.1 _ _ _ _ _ _ hn
        obtain ⟨e2, e3⟩ := ih.2 _ _ _ _ _ _ _ hk
        refine ⟨?_, by rw [List.length_cons, e3]⟩
        rw [e1]
        simp only [lR]
        rw [List.append_assoc, ← e2]
end
end
section
open Go Go.Proofs.YtoclmkdfcafhfaaGreatDoor.Ou
mutual
def strip : T → T
  | .mk op _ n m s kids => .mk op 0 n m s (stripL kids)
def stripL : List T → List T
  | [] => []
  | k :: r => strip k :: stripL r
end
mutual
def nf : T → Nat
  | .mk _ _ _ _ _ kids => 1 + kf kids
def kf : List T → Nat
  | [] => 1
  | k :: r => 1 + nf k + kf r
end
section
variable (row : Int → List UInt8 × List UInt8) (aP : List UInt8 → Option Int)
mutual
def OkT (deep : Int) : T → Prop
  | .mk op _ n m s kids => (row op).1 ≠ [] ∧ (-9007199254740992 ≤ n ∧ n ≤ 9007199254740992) ∧ (-9007199254740992 ≤ m ∧ m ≤ 9007199254740992) ∧ kids.length ≤ 1048576 ∧ s.size ≤ 65536 ∧ deep ≤ 2048 ∧ OkL deep kids
def OkL (deep : Int) : List T → Prop
  | [] => True
  | k :: r => OkT (deep + 1) k ∧ OkL deep r
end
variable {row aP}
end
structure FnP where
  (name : ByteArray) (kind len loc : Int) (body : T)
def pre (p l : List UInt8) : Option (List UInt8) := if p <+: l then some (l.drop p.length) else none
theorem FL (p l : List UInt8) : pre p (p ++ l) = some l := by
  unfold pre
  rw [if_pos (List.prefix_append p l), List.drop_left]
theorem pre_some {p l r : List UInt8} (h : pre p l = some r) : l = p ++ r := by
  unfold pre at h
  split at h
  · rename_i hp
    cases h
    obtain ⟨t, rfl⟩ := hp
    rw [List.drop_left]
  · cases h
def iX : List UInt8 := [102, 117, 110, 99, 32]
def jU : List UInt8 := [117, 110, 105, 116, 32]
def bI (l : List UInt8) : Nat := l.length - (l.reverse.takeWhile (fun c => decide (c ≠ 34))).length
def gH (l : List UInt8) : Option (List UInt8 × Int × Int × Int) := match pre iX l with
  | none => none
  | some rest => match cE (rest.take (bI rest)), pre [32] (rest.drop (bI rest)) with
    | some name, some r0 => match aO 32 r0 with
      | none => none
      | some (w1, r1) => match aO 32 r1 with
        | none => none
        | some (w2, w3) => match cU w1, cU w2, cU w3 with
          | some a, some b, some c => some (name, a, b, c)
          | _, _, _ => none
    | _, _ => none
def aDs (a b c : Int) : List UInt8 := Lib.itoa a ++ 32 :: (Lib.itoa b ++ 32 :: Lib.itoa c)
def TU (name : List UInt8) (a b c : Int) : List UInt8 := iX ++ (dO name ++ 32 :: aDs a b c)
theorem PZ {l name : List UInt8} {a b c : Int} (h : gH l = some (name, a, b, c)) : l = TU name a b c := by
  unfold gH at h
  split at h
  · cases h
  rename_i rest hp
  split at h
  · rename_i nm r0 e1 e2
    split at h
    · cases h
    rename_i w1 r1 c1
    split at h
    · cases h
    rename_i w2 w3 c2
    split at h
    · rename_i a' b' c' n1 n2 n3
      cases h
      unfold TU aDs
      rw [(iK n1).2, (iK n2).2, (iK n3).2, pre_some hp]
      have h1 := yP e1
      have h2 := pre_some e2
      have h3 := List.take_append_drop (bI rest) rest
      rw [h1, h2, (cD c1).1, (cD c2).1] at h3
      rw [← h3]
      rfl
    · cases h
  · cases h
end
end Go.Proofs.YtoclmkdfcafhfaaGreatDoor.Iq
