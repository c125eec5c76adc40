/- A queue of the call's own: a row that is cut at the front and appended to. -/
import Derived.Test.YtoclmkdfcafhfaaGreatDoorQag
set_option maxRecDepth 20000
set_option maxHeartbeats 2000000
namespace Go.Vcg
section
open Go.RowKit
inductive Qu (t : TypeId) : Value → Bk → List Value → Prop
  | nil : Qu t (.slice none 0 0) (.inr ⟨.slice none 0 0, t, 1, 0, []⟩) []
  | at (g off k sz : Nat) (xs : List Value) (h : xs.length ≤ k) (hs : off + k ≤ sz) (hm : sz ≤ maxLen) : Qu t (.slice (some ⟨g, off, none⟩) xs.length k) (.inl ⟨g, t, sz, idx off xs⟩) xs
theorem Qu.one {t : TypeId} {v : Value} {x : Bk} {xs : List Value} (h : Qu t v x xs) : v.oneCell' = true := by cases h <;> rfl
theorem Qu.form {t : TypeId} {v : Value} {x : Bk} {xs : List Value} (h : Qu t v x xs) : ∃ A c, v = .slice A xs.length c ∧ xs.length ≤ c := by
  cases h with
  | nil => exact ⟨none, 0, rfl, Nat.le_refl _⟩
  | «at» g off k sz _ h hs hm => exact ⟨_, k, rfl, h⟩
section
variable {P : Program} {X : Ctx} {ops : Array Oper} {Q : Exit → Act → World → Prop} {rest : List Oper} {μ : Mem} {l : Slots} {L : List Bk} {a : Act} {w : World} {o : Oper} {d : Nat}
variable {ty : TypeId} {pos : String} {af : Array Edge} {gd : Option (Nat × Bool)} {ds : Option Nat}
theorem subS_idx_drop (off : Nat) (xs : List Value) : SubS (idx (off + 1) (xs.drop 1)) (idx off xs) := fun t v h => by
  obtain ⟨h1, h2⟩ := lk_idx _ _ _ _ h
  rw [List.getElem?_drop, show 1 + (t - (off + 1)) = t - off by omega] at h2
  have := lk_idx_of xs off (t - off) v h2
  rwa [show off + (t - off) = t by omega] at this
theorem sel_rfl : ∀ (L : List Bk), Sel L L
  | [] => Sel.nil _
  | x :: r => sel_0 (.refl x) (sel_rfl r)
theorem sel_updB {x y : Bk} (h : BkLe y x) : ∀ {L : List Bk} {i : Nat}, nthB L i = some x → Sel (updB L i y) L
  | [], _, e => by simp [nthB] at e
  | z :: r, 0, e => by
    simp [nthB] at e
    subst e
    exact sel_0 h (sel_rfl r)
  | z :: r, i + 1, e => sel_0 (.refl z) (sel_updB h (by simpa [nthB] using e))
theorem add_z (A : Addr) : A.add 0 = A := by simp [Addr.add]
theorem run_append_off {t e : TypeId} {i : TypeInfo} (ht : P.underlying t = some (.slice e)) (hi : P.info? e = some i) (h1 : i.size = 1) (g off n k : Nat) (cur : Array Value) (hg : w.heap[g]? = some (.cells cur e (0, 0))) (ad : Addr) (c : Nat) (u : Value) (hu : w.cell? ad = some u) (hone : u.oneCell' = true) (hroom : n + 1 ≤ k) (hfit : off + n + 1 ≤ cur.size) :
    (Builtin.append_ #[t, t] ty #[.slice (some ⟨g, off, none⟩) n k, .slice (some ad) 1 c]).run P w = .ok (.slice (some ⟨g, off, none⟩) (n + 1) k) (w.setRow g (cur.toList.take (off + n) ++ [u] ++ cur.toList.drop (off + n + 1)).toArray) := by
  have hz : ∀ j v, [u][j]? = some v → w.cell? (ad.add j) = some v := fun j v hj => by
    cases j with
    | zero => simp at hj; subst hj; rw [add_z]; exact hu
    | succ j => simp at hj
  have hf := run_firstCells_some (P := P) w i.size 1 ad 1 c [u] (by simp [h1]) hz
  have hst := run_storeCells_at P g (off + n * i.size) e [u] 0 cur w hg (by simp [h1]; omega) (by simpa using hone)
  simp only [Nat.add_zero, List.length_singleton] at hst
  rw [h1, Nat.mul_one] at hst
  rw [h1] at hf
  simp [Builtin.append_, run_underlying ht, sizeOf, typeInfo, hi, Builtin.lenOf, hroom, hf, Addr.add_lit, h1, hst]
theorem getElem_app3 {l : List Value} {m : Nat} {u : Value} (h : m < l.length) (j : Nat) : (l.take m ++ [u] ++ l.drop (m + 1))[j]? = if j = m then some u else l[j]? := by
  rw [List.append_assoc]
  by_cases hj : j < m
  · rw [List.getElem?_append_left (by simp; omega), List.getElem?_take, if_pos hj, if_neg (by omega)]
  · rw [List.getElem?_append_right (by simp; omega)]
    have hl : (l.take m).length = m := by simp; omega
    rw [hl]
    by_cases he : j = m
    · subst he; simp
    · rw [if_neg he, List.getElem?_append_right (by simp; omega), List.getElem?_drop]
      congr 1
      simp
      omega
theorem g_quapp {p q : Operand} {t e bytes : TypeId} {z v u : Value} {x : Bk} {xs : List Value} (i : Nat) (hn : Nat.blt d X.n = true) (hw : wants ops l ⟨some d, .call { callee := .builtin .append, args := #[p, q], argTypes := #[t, t] }, ty, pos, af, gd⟩ = some true)
    (ht : P.underlying t = some (.slice e)) (hs : sizeT P e = some 1) (hz : zeroT P e = some z) (hzs : z.cells.toList.length = 1) (hby : bytesT P e = some bytes) (hp : ev l p = some v) (hi : nthB L i = some x) (hQ : Qu e v x xs)
    (hsrc : Src μ l L q 1 [u]) (h1 : u.oneCell' = true) (hroom : (xs.length + 1) * bytes ≤ 140737488355328) (hlen : xs.length + 1 ≤ 140737488355328)
    (h : ∀ v' x', Qu e v' x' (xs ++ [u]) → G P X ops Q rest μ ((d, v') :: l) (updB L i x')) :
    G P X ops Q (⟨some d, .call { callee := .builtin .append, args := #[p, q], argTypes := #[t, t] }, ty, pos, af, gd⟩ :: rest) μ l L :=
  g_wp hw fun a w hs' => by
    obtain ⟨A, c, hq, h0, hc⟩ := hsrc
    have hp' := hs'.eval hp
    have hs0 := hs
    unfold sizeT at hs
    have hz0 := hz
    have hby0 := hby
    unfold bytesT at hby
    cases hinf : P.info? e with
    | none => simp [hinf] at hs
    | some inf =>
      simp [hinf, nat16_eq] at hs
      simp [hinf, natB_eq] at hby
      rcases A with _ | ad
      · exact absurd (h0 rfl).1 (by omega)
      have hcell : w.cell? ad = some u := by
        have := hc ad rfl a w hs'.rd 0 u rfl
        rwa [add_z] at this
      have grown : ∀ (w' : World) (v' : Value), w'.ownsRow w.heap.size e 1 v' (xs.length + 1) (xs ++ [u]) → w.grownBy w' none → (Builtin.append_ #[t, t] ty #[v, .slice (some ad) 1 c]).run P w = .ok v' w' → (⟨some d, .call { callee := .builtin .append, args := #[p, q], argTypes := #[t, t] }, ty, pos, af, gd⟩ : Oper).wp P a w (wpList P ops Q rest) Q := by
        intro w' v' hown hg hr
        unfold Oper.wp
        rw [run_append_call hp' (hs'.eval hq) hr, Oper.upon_value]
        rcases hown.2 with ⟨_, h3⟩ | ⟨g, cap, cur, rfl, hb, hh, hnc, hcm, hcs, htk⟩
        · omega
        · have hQ' : Qu e (.slice (some ⟨g, 0, none⟩) (xs.length + 1) cap) (.inl ⟨g, e, cap, idx 0 (xs ++ [u])⟩) (xs ++ [u]) := by
            have := Qu.at (t := e) g 0 cap cap (xs ++ [u]) (by simpa using hnc) (by omega) hcm
            simpa using this
          refine h _ _ hQ' _ _ ((hs'.upd hi hg.os hg.tape hg.output hg.size (fun b hb2 _ => hg.block b hb2 (by simp)) (y := .inl ⟨g, e, cap, idx 0 (xs ++ [u])⟩) ⟨cur, hh, by simpa using hcs, fun j v hj => ?_⟩ (fun b hb2 => ?_)).put hn _)
          · obtain ⟨_, h5⟩ := lk_idx _ _ _ _ hj
            rw [Nat.sub_zero, ← htk] at h5
            rw [List.getElem?_take] at h5
            split at h5
            · simpa using h5
            · cases h5
          · cases hb2
            exact .inr hb
      cases hQ with
      | nil =>
        obtain ⟨v', w', r1, r2, r3, r4⟩ := run_append_row (P := P) (ty := ty) (w := w) (t := t) ht hs0 hz0 hzs hby0 (by omega) (v := .slice none 0 0) (n := 0) (xs := []) ⟨by simp, .inl ⟨rfl, rfl⟩⟩ (m := 1) (c := c) (news := [u]) rfl h0 (fun ad e => hc ad e a w hs'.rd) (by simpa using h1) (by simpa using hroom) (by simp)
        refine grown w' v' ⟨r2.1, ?_⟩ r3 r1
        rcases r2.2 with h3 | ⟨g, cap, cur, h3, h4, h5⟩
        · exact .inl h3
        · refine .inr ⟨g, cap, cur, h3, ?_, h5⟩
          rcases r4 with r4 | r4
          · rw [h3] at r4; simp [Value.ownBlock] at r4
          · rw [h3] at r4; simp [Value.ownBlock] at r4; omega
      | «at» g off k sz _ hk hsz hm =>
        obtain ⟨arr, hh, hasz, hlk⟩ := hs'.own _ (nthB_mem hi)
        dsimp only at hh hasz hlk
        by_cases hroom2 : xs.length + 1 ≤ k
        · have hr := run_append_off (P := P) (w := w) (ty := ty) ht hinf hs g off xs.length k arr hh ad c u hcell h1 hroom2 (by omega)
          unfold Oper.wp
          rw [run_append_call hp' (hs'.eval hq) hr, Oper.upon_value]
          have hQ' : Qu e (.slice (some ⟨g, off, none⟩) (xs.length + 1) k) (.inl ⟨g, e, sz, idx off (xs ++ [u])⟩) (xs ++ [u]) := by
            have := Qu.at (t := e) g off k sz (xs ++ [u]) (by simpa using hroom2) hsz hm
            simpa using this
          refine h _ _ hQ' _ _ ((hs'.setRow (x := ⟨g, e, sz, idx off xs⟩) hi ?_ ?_).put hn _)
          · simp [hasz]; omega
          · intro j v hj
            obtain ⟨h3, h4⟩ := lk_idx _ _ _ _ hj
            rw [List.getElem?_toArray, getElem_app3 (by simp [hasz]; omega)]
            split
            · rename_i he
              rw [he, show off + xs.length - off = xs.length by omega] at h4
              simpa using h4
            · rename_i he
              have h5 : j - off < xs.length := by
                have := (List.getElem?_eq_some_iff.1 h4).1
                simp at this
                omega
              rw [List.getElem?_append_left h5] at h4
              have h6 := lk_idx_of xs off (j - off) v h4
              rw [show off + (j - off) = j by omega] at h6
              have := hlk j v h6
              simpa using this
        · have holds : ∀ (j : Nat) (y : Value), xs[j]? = some y → w.cell? ((⟨g, off, none⟩ : Addr).add j) = some y := fun j y hj => by
            rw [Addr.add_lit]
            exact hs'.rd.cell (nthB_mem hi) (lk_idx_of xs off j y hj)
          obtain ⟨v', w', r1, r2, r3⟩ := run_append_arg_grows (P := P) w t ty e inf z 1 bytes ht hinf (by unfold zeroT at hz0; simpa [hinf] using hz0) hs hby (by simpa using hzs) (by omega) ⟨g, off, none⟩ xs.length k xs (by simp) holds ad 1 c [u] rfl (fun j v hj => hc ad rfl a w hs'.rd j v hj) (by omega) (by simp only [maxLen]; omega) hroom
          exact grown w' v' r2 r3 r1
theorem AQ {p q : Operand} {t e bytes : TypeId} {z v u : Value} {x : Bk} {xs : List Value} (i : Nat) (hn : Nat.blt d X.n = true := by exact rfl) (hw : wants ops l ⟨some d, .call { callee := .builtin .append, args := #[p, q], argTypes := #[t, t] }, ty, pos, af, gd⟩ = some true := by exact rfl)
    (ht : P.underlying t = some (.slice e) := by exact rfl) (hs : sizeT P e = some 1 := by exact rfl) (hz : zeroT P e = some z := by exact rfl) (hzs : z.cells.toList.length = 1 := by exact rfl) (hby : bytesT P e = some bytes := by exact rfl) (hp : ev l p = some v := by exact rfl) (hi : nthB L i = some x := by exact rfl) (hQ : Qu e v x xs)
    (S : Src μ l L q 1 [u] := by (with_reducible apply src_in); exact rfl; (repeat first | with_reducible exact inb_hd | with_reducible apply inb_tl); exact rfl) (O : u.oneCell' = true := by exact rfl) (B : xs.length ≤ 1000000) (hb : Nat.ble bytes 1000 = true := by exact rfl)
    (k : ∀ A c x', Qu e (.slice A (xs ++ [u]).length c) x' (xs ++ [u]) → G P X ops Q rest μ ((d, .slice A (xs ++ [u]).length c) :: l) (updB L i x')) :
    G P X ops Q (⟨some d, .call { callee := .builtin .append, args := #[p, q], argTypes := #[t, t] }, ty, pos, af, gd⟩ :: rest) μ l L :=
  g_quapp i hn hw ht hs hz hzs hby hp hi hQ S O (by
    have h1 : bytes ≤ 1000 := by simpa using hb
    have h2 := Nat.mul_le_mul (show xs.length + 1 ≤ 1000001 by omega) h1
    omega) (by omega) fun v' x' hQ2 => by
    obtain ⟨A, c, rfl, hl⟩ := hQ2.form
    exact k A c x' hQ2
end
end
section
open Go.RowKit
section
variable {t : TypeId} {v u : Value} {x : Bk} {xs : List Value}
theorem Qu.pop (h : Qu t v x (u :: xs)) : ∃ A c x', BkLe x' x ∧ Qu t (.slice A xs.length c) x' xs ∧ ∀ {P : Program} {μ : Mem} {l : Slots} {L : List Bk} {ds : Option Nat} {ty : TypeId} {pos : String} {af : Array Edge} {gd : Option (Nat × Bool)} {p q : Operand} {t' e : TypeId}, P.underlying t' = some (.slice e) → sizeT P e = some 1 → ev l p = some v → ev l q = some (.int .i64 1) → Val P μ l L ⟨ds, .slice t' p (some q) none none, ty, pos, af, gd⟩ (.slice A xs.length c) := by
  cases h with
  | «at» g off k sz _ hk hs hm =>
    simp only [List.length_cons] at hk
    by_cases hk1 : k = 1
    · have hx0 : xs = [] := List.eq_nil_of_length_eq_zero (by omega)
      subst hx0
      subst hk1
      refine ⟨some ⟨g, off, none⟩, 0, .inl ⟨g, t, sz, idx off []⟩, .cells subS_nil, Qu.at g off 0 sz [] (by simp) (by omega) hm, ?_⟩
      intro P μ l L ds ty pos af gd p q t' e h1 h2 h3 h4
      exact v_slice_lo 1 h1 h2 h3 h4 rfl (by simp)
    · refine ⟨some ⟨g, off + 1, none⟩, k - 1, .inl ⟨g, t, sz, idx (off + 1) xs⟩, .cells (subS_idx_drop off (u :: xs)), Qu.at g (off + 1) (k - 1) sz xs (by omega) (by omega) hm, ?_⟩
      intro P μ l L ds ty pos af gd p q t' e h1 h2 h3 h4
      have hv := v_slice_lo (P := P) (μ := μ) (L := L) (ds := ds) (ty := ty) (pos := pos) (af := af) (gd := gd) 1 h1 h2 h3 h4 rfl (by simp)
      rw [if_neg hk1] at hv
      have e1 : ((some ⟨g, off, none⟩ : Option Addr).map fun x => x.add (1 * 1)) = some ⟨g, off + 1, none⟩ := by simp [Addr.add_lit]
      rw [e1] at hv
      simpa using hv
theorem Qu.cut (h : Qu t v x xs) : ∃ A c x', BkLe x' x ∧ Qu t (.slice A 0 c) x' [] ∧ ∀ {P : Program} {μ : Mem} {l : Slots} {L : List Bk} {ds : Option Nat} {ty : TypeId} {pos : String} {af : Array Edge} {gd : Option (Nat × Bool)} {p q : Operand} {t' e : TypeId}, P.underlying t' = some (.slice e) → sizeT P e = some 1 → ev l p = some v → ev l q = some (.int .i64 0) → Val P μ l L ⟨ds, .slice t' p none (some q) none, ty, pos, af, gd⟩ (.slice A 0 c) := by
  cases h with
  | nil =>
    refine ⟨none, 0, .inr ⟨.slice none 0 0, t, 1, 0, []⟩, .refl _, Qu.nil, ?_⟩
    intro P μ l L ds ty pos af gd p q t' e h1 h2 h3 h4
    exact v_slice_hi 0 h1 h2 h3 h4 rfl (by simp)
  | «at» g off k sz _ hk hs hm =>
    refine ⟨some ⟨g, off, none⟩, k, .inl ⟨g, t, sz, idx off []⟩, .cells subS_nil, Qu.at g off k sz [] (by simp) hs hm, ?_⟩
    intro P μ l L ds ty pos af gd p q t' e h1 h2 h3 h4
    exact v_slice_hi 0 h1 h2 h3 h4 rfl (by omega)
theorem Qu.hd (h : Qu t v x (u :: xs)) : ∃ g off c, v = .slice (some ⟨g, off, none⟩) (xs.length + 1) c ∧ ∀ {P : Program} {μ : Mem} {l : Slots} {L : List Bk} {ds : Option Nat} {ty : TypeId} {pos : String} {af : Array Edge} {gd : Option (Nat × Bool)} {p : Operand} {t' : TypeId} (i : Nat), aggOf P t' = some false → nthB L i = some x → ev l p = some (.pointer (some (Addr.add ⟨g, off, none⟩ (0 * 1)))) → Val P μ l L ⟨ds, .load t' p, ty, pos, af, gd⟩ u := by
  cases h with
  | «at» g off k sz _ hk hs hm =>
    refine ⟨g, off, k, by simp, ?_⟩
    intro P μ l L ds ty pos af gd p t' i h1 h2 h3
    rw [Nat.zero_mul, add_z] at h3
    exact v_load_own (y := ⟨g, t, sz, idx off (u :: xs)⟩) i h1 h2 h3 (by simp [idx, lk])
end
section
variable {P : Program} {X : Ctx} {Q : Exit → Act → World → Prop} {μ : Mem} {l : Slots} {L : List Bk} {rest : List Oper} {ops : Array Oper}
theorem g_le {x x' : Bk} (i : Nat) (hi : nthB L i = some x) (hle : BkLe x' x) (h : G P X ops Q rest μ l (updB L i x')) : G P X ops Q rest μ l L := fun a w hs => h a w (hs.sel (fun _ _ h => h) (sel_updB hle hi))
theorem gq_le {e : Exit} {x x' : Bk} (i : Nat) (hi : nthB L i = some x) (hle : BkLe x' x) (h : GQ X Q e μ l (updB L i x')) : GQ X Q e μ l L := fun a w hs => h a w (hs.sel (fun _ _ h => h) (sel_updB hle hi))
end
end
end Go.Vcg
namespace Go.Proofs.YtoclmkdfcafhfaaGreatDoor
section
open Go.RowKit Go.Vcg
inductive T where
  | mk (op at' n m : Int) (s : ByteArray) (kids : List T)
namespace T
def op : T → Int | mk o _ _ _ _ _ => o
def at' : T → Int | mk _ a _ _ _ _ => a
def n : T → Int | mk _ _ n _ _ _ => n
def m : T → Int | mk _ _ _ m _ _ => m
def s : T → ByteArray | mk _ _ _ _ s _ => s
def kids : T → List T | mk _ _ _ _ _ k => k
def zero : T := mk 0 0 0 0 ⟨#[]⟩ []
def size : T → Nat | mk _ _ _ _ _ ks => 1 + (ks.attach.map fun ⟨k, _⟩ => k.size).sum
theorem size_eq (t : T) : t.size = 1 + (t.kids.map size).sum := by
  cases t with
  | mk o a n m s ks => rw [size]; simp [kids]
theorem sum_mem {l : List Nat} {x : Nat} (h : x ∈ l) : x ≤ l.sum := by
  induction l with
  | nil => cases h
  | cons y l ih =>
    rcases List.mem_cons.1 h with rfl | h
    · simp
    · have := ih h
      simp; omega
theorem size_kid {t k : T} {i : Nat} (h : t.kids[i]? = some k) : k.size < t.size := by
  rw [size_eq t]
  have := sum_mem (List.mem_map.2 ⟨k, List.mem_of_getElem? h, rfl⟩ : k.size ∈ t.kids.map size)
  omega
end T
abbrev encT (t : T) (v : Value) : List Value := [.int .i64 t.op, .int .i64 t.at', .int .i64 t.n, .int .i64 t.m, .string t.s, v]
abbrev encTV (p : T × Value) : List Value := encT p.1 p.2
inductive KR (μ : Mem) : List T → Value → Prop
  | mk (ks : List T) (A : Option Addr) (c : Nat) (vs : Nat → Value) (hcap : ks.length ≤ c) (hcell : ∀ i t, ks[i]? = some t → ∃ a, A = some a ∧ MCells μ (a.add (i * 6)) (encT t (vs i)))
      (hone : ∀ i t, ks[i]? = some t → (vs i).oneCell' = true) (hsub : ∀ i t, ks[i]? = some t → KR μ t.kids (vs i)) : KR μ ks (.slice A ks.length c)
theorem KR.mono {μ μ' : Mem} (hle : MLe μ μ') {ks : List T} {v : Value} (h : KR μ ks v) : KR μ' ks v := by
  induction h with
  | mk ks A c vs hcap hcell hone hsub ih =>
    refine .mk ks A c vs hcap (fun i t hi => ?_) hone ih
    obtain ⟨a, e, hc⟩ := hcell i t hi
    exact ⟨a, e, hc.mono hle⟩
theorem KR.nil (μ : Mem) (A : Option Addr) (c : Nat) : KR μ [] (.slice A 0 c) := .mk [] A c (fun _ => undef) (Nat.zero_le _) (fun i t h => by simp at h) (fun i t h => by simp at h) (fun i t h => by simp at h)
theorem KR.form {μ : Mem} {ks : List T} {v : Value} (h : KR μ ks v) : ∃ (A : Option Addr) (c : Nat), v = .slice A ks.length c ∧ ks.length ≤ c ∧ ∀ (i : Nat) (t : T), ks[i]? = some t → ∃ a u, A = some a ∧ MCells μ (a.add (i * 6)) (encT t u) ∧ u.oneCell' = true ∧ KR μ t.kids u := by
  cases h with
  | mk _ A c vs hcap hcell hone hsub =>
    refine ⟨A, c, rfl, hcap, fun i t hi => ?_⟩
    obtain ⟨a, e, hc⟩ := hcell i t hi
    exact ⟨a, _, e, hc, hone i t hi, hsub i t hi⟩
theorem KR.one {μ : Mem} {ks : List T} {v : Value} (h : KR μ ks v) : v.oneCell' = true := by cases h; rfl
def TV (μ : Mem) (t : T) (v : Value) : Prop := ∃ u, v = .agg (encT t u).toArray ∧ KR μ t.kids u
theorem TV.mono {μ μ' : Mem} {t : T} {v : Value} (h : TV μ t v) (hle : MLe μ μ') : TV μ' t v := by
  obtain ⟨u, e, h⟩ := h
  exact ⟨u, e, h.mono hle⟩
theorem KR.sl {μ : Mem} {ks : List T} {v : Value} (h : KR μ ks v) : ∃ (A : Option Addr) (c : Nat) (ps : List (T × Value)), v = .slice A ks.length c ∧ ks.length ≤ c ∧ ps.map (·.1) = ks ∧ Sl encTV 6 μ A ks.length ps ∧ ∀ p ∈ ps, KR μ p.1.kids p.2 := by
  cases h with
  | mk _ A c vs hcap hcell hone hsub =>
    have hg : ∀ (i : Nat) (p : T × Value), (ks.zipIdx.map fun x => (x.1, vs x.2))[i]? = some p → ks[i]? = some p.1 ∧ p.2 = vs i := fun i p hp => by
      rw [List.getElem?_map, List.getElem?_zipIdx] at hp
      cases hk : ks[i]? with
      | none => simp [hk] at hp
      | some t => simp [hk] at hp; subst hp; exact ⟨rfl, rfl⟩
    refine ⟨A, c, ks.zipIdx.map fun x => (x.1, vs x.2), rfl, hcap, ?_, ⟨by simp, fun hp => ?_⟩, fun p hp => ?_⟩
    · rw [List.map_map]
      exact List.zipIdx_map_fst 0 ks
    · obtain ⟨a, e, _⟩ := hcell 0 _ (List.getElem?_eq_getElem hp)
      refine ⟨a, e, fun i p hx => ?_⟩
      obtain ⟨h1, h2⟩ := hg i p hx
      obtain ⟨a', e', hc⟩ := hcell i _ h1
      rw [e] at e'; cases e'
      show MCells μ _ (encT p.1 p.2)
      rw [h2]; exact hc
    · obtain ⟨i, hi⟩ := List.mem_iff_getElem?.1 hp
      obtain ⟨h1, h2⟩ := hg i p hi
      rw [h2]; exact hsub i _ h1
end
section
open Go.RowKit Go.Vcg
attribute [local irreducible] G GC GQ GA GAop Calls IntKind.wrap Int.decLt Int.decLe
structure It where
  op : Int
  at' : Int
  n : Int
  m : Int
  s : ByteArray
  k : Int
abbrev encIt (x : It) : List Value := [.int .i64 x.op, .int .i64 x.at', .int .i64 x.n, .int .i64 x.m, .string x.s, .int .i64 x.k]
end
section
open Go.RowKit Go.Vcg
attribute [local irreducible] G GC GQ GA GAop Calls IntKind.wrap Int.decLt Int.decLe
theorem encTV_len (p : T × Value) : (encTV p).length = 6 := rfl
def sizes (ps : List (T × Value)) : Nat := (ps.map fun p => p.1.size).sum
def Kids (μ : Mem) (ps : List (T × Value)) : Prop := ∀ p ∈ ps, KR μ p.1.kids p.2
theorem Kids.mono {μ μ' : Mem} {ps : List (T × Value)} (h : Kids μ ps) (hle : MLe μ μ') : Kids μ' ps := fun p hp => (h p hp).mono hle
theorem Kids.one {μ : Mem} {ps : List (T × Value)} (h : Kids μ ps) : ∀ u ∈ ps.flatMap encTV, u.oneCell' = true := by
  intro u hu
  obtain ⟨p, hp, hu⟩ := List.mem_flatMap.1 hu
  simp at hu
  rcases hu with rfl | rfl | rfl | rfl | rfl | rfl
  all_goals first | rfl | exact (h p hp).one
theorem KR.of_pairs {μ : Mem} {A : Option Addr} {n c : Nat} {ps : List (T × Value)} (h : Sl encTV 6 μ A n ps) (hc : n ≤ c) (hk : Kids μ ps) : KR μ (ps.map (·.1)) (.slice A n c) := by
  have hn := h.1
  subst hn
  have : KR μ (ps.map (·.1)) (.slice A (ps.map (·.1)).length c) := by
    refine .mk _ A c (fun i => match ps[i]? with | some p => p.2 | none => undef) (by simpa using hc) (fun i t hi => ?_) (fun i t hi => ?_) (fun i t hi => ?_)
    all_goals
      rw [List.getElem?_map] at hi
      cases hp : ps[i]? with
      | none => simp [hp] at hi
      | some p =>
        simp [hp] at hi
        subst hi
        first
          | (obtain ⟨a, e, ha⟩ := h.2 (by have := (List.getElem?_eq_some_iff.1 hp).1; omega); exact ⟨a, e, ha i p hp⟩)
          | exact (hk p (List.mem_of_getElem? hp)).one
          | exact hk p (List.mem_of_getElem? hp)
  simpa using this
theorem sizes_append (a b : List (T × Value)) : sizes (a ++ b) = sizes a + sizes b := by simp [sizes]
theorem size_mk (o a n m : Int) (s : ByteArray) (ps : List (T × Value)) (v : Value) : sizes [(T.mk o a n m s (ps.map (·.1)), v)] = 1 + sizes ps := by
  have h := T.size_eq (T.mk o a n m s (ps.map (·.1)))
  simp only [sizes, List.map_cons, List.map_nil, List.sum_cons, List.sum_nil, h, T.kids, List.map_map]
  rfl
end
section
open Go.RowKit Go.Vcg
inductive AllT (q : It → Prop) : T → Prop
  | node {op at' n m : Int} {s : ByteArray} {kids : List T} (h : ∃ k, q ⟨op, at', n, m, s, k⟩) (hk : ∀ t ∈ kids, AllT q t) : AllT q (.mk op at' n m s kids)
def wsum (g : ByteArray → Nat) : T → Nat | .mk _ _ _ _ s ks => g s + (ks.attach.map fun ⟨k, _⟩ => wsum g k).sum
theorem wsum_eq (g : ByteArray → Nat) (t : T) : wsum g t = g t.s + (t.kids.map (wsum g)).sum := by
  cases t with
  | mk o a n m s ks => rw [wsum]; simp [T.kids, T.s]
def wsumP (g : ByteArray → Nat) (ps : List (T × Value)) : Nat := (ps.map fun p => wsum g p.1).sum
theorem wsumP_append (g : ByteArray → Nat) (a b : List (T × Value)) : wsumP g (a ++ b) = wsumP g a + wsumP g b := by simp [wsumP]
theorem wsum_mk (g : ByteArray → Nat) (o a n m : Int) (s : ByteArray) (ps : List (T × Value)) (v : Value) : wsumP g [(T.mk o a n m s (ps.map (·.1)), v)] = g s + wsumP g ps := by
  have h := wsum_eq g (T.mk o a n m s (ps.map (·.1)))
  simp only [wsumP, List.map_cons, List.map_nil, List.sum_cons, List.sum_nil, h, T.kids, T.s, List.map_map]
  rfl
attribute [local irreducible] G GC GQ GA GAop Calls IntKind.wrap Int.decLt Int.decLe
theorem buildQ_spec (q : It → Prop) (gw : ByteArray → Nat) (hq0 : q ⟨0, 0, 0, 0, ⟨#[]⟩, 0⟩) (w : World) (μ : Mem) (hμ : MOk μ w) (A : Option Addr) (n c : Nat) (ts : List It) (hc : Sl encIt 6 μ A n ts) (hn : n ≤ 400) (hq : ∀ y ∈ ts, q y) :
    Calls Tryz.prog 38 #[.slice A n c] w fun e w' => ∃ v μ', e = .returned v ∧ Grow w w' μ μ' ∧ (∃ t, TV μ' t v ∧ t.size ≤ 401 ∧ AllT q t ∧ wsum gw t ≤ gw ⟨#[]⟩ + (ts.map fun y => gw y.s).sum) := by
  refine call_intro Tryz.func38 rfl Tryz.ntmps38 (by simp) hμ ?_
  repeat' (first | refine KK ?_ | refine NB fun b => ?_ | (refine KB ?_ ?_ <;> intro hp) | refine KG ?_ | fail)
  refine gc_loop (ι := Nat × List (T × Value) × Mem × Value) (fun i => i.1 ≤ n ∧ MLe μ i.2.2.1 ∧ Kids i.2.2.1 i.2.1 ∧ sizes i.2.1 ≤ i.1 ∧ i.2.1.length ≤ i.1 ∧ (∀ p ∈ i.2.1, AllT q p.1) ∧ wsumP gw i.2.1 ≤ ((ts.take i.1).map fun y => gw y.s).sum) (fun i => n - i.1) (fun i => i.2.2.1) (fun i => [(4, .int .i64 i.1), (3, i.2.2.2), (2, .pointer (some ⟨b, 0, none⟩)), (0, .slice A n c)]) (fun i => [.inr ⟨i.2.2.2, 42, 6, i.2.1.length, i.2.1.flatMap encTV⟩, .inl ⟨b, 42, 6, _⟩]) (0, [], μ, .slice none 0 0) ⟨by simp, MLe.refl _, fun p hp => (by cases hp), by simp [sizes], by simp, fun p hp => (by cases hp), by simp [wsumP]⟩ (fun a w hs => (hs.nilRow 42 6).sub PU (by repeat first | exact List.Sublist.refl _ | exact List.nil_sublist _ | refine List.Sublist.cons _ ?_)) ?_
  rintro ⟨k, ps, μ1, v⟩ ⟨hk, hle, hkids, hsz, hlen, hall0, hws⟩
  dsimp only at hk hle hkids hsz hlen hall0 hws ⊢
  refine gc_rowOk 0 rfl ?_
  rintro A1 c1 rfl hok
  by_cases hlt : k < n
  · obtain ⟨ad, y, rfl, hy, hm0⟩ := hc.get hlt
    have hm := hm0.mono hle
    obtain ⟨kk, hkk, hcase⟩ : ∃ kk : Nat, kk ≤ ps.length ∧ ((y.k < 0 ∧ kk = 0) ∨ (y.k = (kk : Int)) ∨ (y.k > ps.length ∧ kk = ps.length)) := by
      by_cases h0 : y.k < 0
      · exact ⟨0, by omega, .inl ⟨h0, rfl⟩⟩
      · by_cases h1 : y.k > ps.length
        · exact ⟨ps.length, by omega, .inr (.inr ⟨h1, rfl⟩)⟩
        · exact ⟨y.k.toNat, by omega, .inr (.inl (by omega))⟩
    have hone := hkids.one
    have hd := flat_drops encTV_len ps (ps.length - kk)
    have hdl := flat_length encTV_len (ps.drop (ps.length - kk))
    have hdk : Kids μ1 (ps.drop (ps.length - kk)) := fun p hp => hkids p (List.mem_of_mem_drop hp)
    have hdo := hdk.one
    rw [List.length_drop] at hdl
    have hdl2 : (List.drop ((ps.length - kk) * 6) (ps.flatMap encTV)).length = (ps.length - (ps.length - kk)) * 6 := by rw [hd]; exact hdl
    have hdo2 : ∀ u ∈ List.drop ((ps.length - kk) * 6) (ps.flatMap encTV), u.oneCell' = true := by rw [hd]; exact hdo
    rcases hcase with hcase | hcase | hcase
    all_goals
      repeat' (first | ((with_reducible apply g_row0 6)) | refine KO ?_ | (first | ((with_reducible apply g_ap); exact rfl; exact rfl; exact rfl; (repeat first | with_reducible exact rowup_hd | with_reducible apply rowup_tl); (iterate 6 exact rfl); (first | ((with_reducible apply src_row_drop 2 (k := ps.length - kk)); exact hok; omega; exact rfl; exact rfl) | ((with_reducible apply src_in); exact rfl; (repeat first | with_reducible exact inb_hd | with_reducible apply inb_tl); exact rfl)); (first | exact rfl | omega | simp); (first | assumption | (exact ones_mem (by (repeat first | with_reducible exact ones_nil | ((with_reducible apply ones_cons); (first | exact rfl | assumption))))) | simp [Value.oneCell']); omega; omega; intro v) | ((with_reducible apply g_append0); (iterate 9 exact rfl); (first | ((with_reducible apply src_row_drop 2 (k := ps.length - kk)); exact hok; omega; exact rfl; exact rfl) | ((with_reducible apply src_in); exact rfl; (repeat first | with_reducible exact inb_hd | with_reducible apply inb_tl); exact rfl)); (first | exact rfl | omega | simp); (first | assumption | (exact ones_mem (by (repeat first | with_reducible exact ones_nil | ((with_reducible apply ones_cons); (first | exact rfl | assumption))))) | simp [Value.oneCell']); omega; omega; intro v)) | (refine KV (b := by first | exact U1 k | exact U4 hm | ((with_reducible apply v_slice_lo (ps.length - kk)); exact rfl; exact rfl; exact rfl; exact rfl; omega; omega)) (c := ?_)) | refine KI ?_ | refine NB fun b => ?_ | (refine KB ?_ ?_ <;> intro hp) | refine KG ?_ | fail)
    all_goals simp only [Nat.zero_add, List.nil_append, hd]
    all_goals refine gc_share_0 rfl ?_
    all_goals intro μ2 hle2 hsh2
    all_goals obtain ⟨A2, c2, rfl, hS2⟩ := row_sl (enc := encTV) (xs := ps.drop (ps.length - kk)) hsh2 (by simp) (by simp) rfl
    all_goals have hcap2 := Bk.cap hsh2
    all_goals have hkr := KR.of_pairs hS2 hcap2 (hdk.mono hle2)
    all_goals refine gc_cut 1 (ps.length - kk) rfl hok (by omega) ?_
    all_goals dsimp only [updB]
    all_goals
      refine gc_draw 21 _ (by kernel_rfl) rfl (List.Sublist.cons_cons _ (List.nil_sublist _)) ?_
      all_goals refine DD 0 ?_
      all_goals refine DD 1 ?_
      all_goals (first | refine D1 2 ?_ | (refine DV (k := 2) (b := by first | ((with_reducible apply v_slice_hi (ps.length - kk)); exact rfl; exact rfl; exact rfl; exact rfl; omega; (focus (have := hok.cap; omega; done)))) (c := ?_)) | refine DD 2 ?_ | fail)
      all_goals refine DD 3 ?_
      all_goals (first | refine D1 4 ?_ | (refine DV (k := 4) (b := by first | ((with_reducible apply v_slice_hi (ps.length - kk)); exact rfl; exact rfl; exact rfl; exact rfl; omega; (focus (have := hok.cap; omega; done)))) (c := ?_)) | refine DD 4 ?_ | fail)
      all_goals (first | refine D1 5 ?_ | (refine DV (k := 5) (b := by first | ((with_reducible apply v_slice_hi (ps.length - kk)); exact rfl; exact rfl; exact rfl; exact rfl; omega; (focus (have := hok.cap; omega; done)))) (c := ?_)) | refine DD 5 ?_ | fail)
      all_goals (first | refine D1 6 ?_ | (refine DV (k := 6) (b := by first | ((with_reducible apply v_slice_hi (ps.length - kk)); exact rfl; exact rfl; exact rfl; exact rfl; omega; (focus (have := hok.cap; omega; done)))) (c := ?_)) | refine DD 6 ?_ | fail)
      all_goals (first | refine D1 7 ?_ | (refine DV (k := 7) (b := by first | ((with_reducible apply v_slice_hi (ps.length - kk)); exact rfl; exact rfl; exact rfl; exact rfl; omega; (focus (have := hok.cap; omega; done)))) (c := ?_)) | (refine D3 7 (DW (b := by first | ((with_reducible apply v_slice_hi (ps.length - kk)); exact rfl; exact rfl; exact rfl; exact rfl; omega; (focus (have := hok.cap; omega; done)))) (c := ?_))) | refine DD 7 ?_ | fail)
      all_goals (first | refine D1 8 ?_ | (refine DV (k := 8) (b := by first | ((with_reducible apply v_slice_hi (ps.length - kk)); exact rfl; exact rfl; exact rfl; exact rfl; omega; (focus (have := hok.cap; omega; done)))) (c := ?_)) | refine DD 8 ?_ | fail)
      all_goals (first | refine D1 9 ?_ | (refine DV (k := 9) (b := by first | ((with_reducible apply v_slice_hi (ps.length - kk)); exact rfl; exact rfl; exact rfl; exact rfl; omega; (focus (have := hok.cap; omega; done)))) (c := ?_)) | (refine D3 9 (DW (b := by first | ((with_reducible apply v_slice_hi (ps.length - kk)); exact rfl; exact rfl; exact rfl; exact rfl; omega; (focus (have := hok.cap; omega; done)))) (c := ?_))) | refine DD 9 ?_ | fail)
      all_goals (first | refine D1 10 ?_ | (refine DV (k := 10) (b := by first | ((with_reducible apply v_slice_hi (ps.length - kk)); exact rfl; exact rfl; exact rfl; exact rfl; omega; (focus (have := hok.cap; omega; done)))) (c := ?_)) | refine DD 10 ?_ | fail)
      all_goals (first | refine D1 11 ?_ | (refine DV (k := 11) (b := by first | ((with_reducible apply v_slice_hi (ps.length - kk)); exact rfl; exact rfl; exact rfl; exact rfl; omega; (focus (have := hok.cap; omega; done)))) (c := ?_)) | (refine D3 11 (DW (b := by first | ((with_reducible apply v_slice_hi (ps.length - kk)); exact rfl; exact rfl; exact rfl; exact rfl; omega; (focus (have := hok.cap; omega; done)))) (c := ?_))) | refine DD 11 ?_ | fail)
      all_goals (first | refine D1 12 ?_ | (refine DV (k := 12) (b := by first | ((with_reducible apply v_slice_hi (ps.length - kk)); exact rfl; exact rfl; exact rfl; exact rfl; omega; (focus (have := hok.cap; omega; done)))) (c := ?_)) | refine DD 12 ?_ | fail)
      all_goals (first | refine D1 13 ?_ | (refine DV (k := 13) (b := by first | ((with_reducible apply v_slice_hi (ps.length - kk)); exact rfl; exact rfl; exact rfl; exact rfl; omega; (focus (have := hok.cap; omega; done)))) (c := ?_)) | (refine D3 13 (DW (b := by first | ((with_reducible apply v_slice_hi (ps.length - kk)); exact rfl; exact rfl; exact rfl; exact rfl; omega; (focus (have := hok.cap; omega; done)))) (c := ?_))) | refine DD 13 ?_ | fail)
      all_goals (first | refine D1 14 ?_ | (refine DV (k := 14) (b := by first | ((with_reducible apply v_slice_hi (ps.length - kk)); exact rfl; exact rfl; exact rfl; exact rfl; omega; (focus (have := hok.cap; omega; done)))) (c := ?_)) | refine DD 14 ?_ | fail)
      all_goals (first | refine D1 15 ?_ | (refine DV (k := 15) (b := by first | ((with_reducible apply v_slice_hi (ps.length - kk)); exact rfl; exact rfl; exact rfl; exact rfl; omega; (focus (have := hok.cap; omega; done)))) (c := ?_)) | (refine D3 15 (DW (b := by first | ((with_reducible apply v_slice_hi (ps.length - kk)); exact rfl; exact rfl; exact rfl; exact rfl; omega; (focus (have := hok.cap; omega; done)))) (c := ?_))) | refine DD 15 ?_ | fail)
      all_goals refine DD 16 ?_
      all_goals refine DD 17 ?_
      all_goals (first | (refine D3 18 ?_; refine D5 ?_; refine NB fun b => ?_; refine D9 ?_))
      all_goals (first | (refine D3 19 ?_; refine D5 ?_; (first | ((with_reducible apply g_ap); exact rfl; exact rfl; exact rfl; (repeat first | with_reducible exact rowup_hd | with_reducible apply rowup_tl); (iterate 6 exact rfl); (first | ((with_reducible apply src_in); exact rfl; (repeat first | with_reducible exact inb_hd | with_reducible apply inb_tl); exact rfl)); (first | exact rfl | omega | simp); (first | assumption | (exact ones_mem (by (repeat first | with_reducible exact ones_nil | ((with_reducible apply ones_cons); (first | exact rfl | assumption))))) | simp [Value.oneCell']); omega; omega; intro v) | ((with_reducible apply g_append0); (iterate 9 exact rfl); (first | ((with_reducible apply src_in); exact rfl; (repeat first | with_reducible exact inb_hd | with_reducible apply inb_tl); exact rfl)); (first | exact rfl | omega | simp); (first | assumption | (exact ones_mem (by (repeat first | with_reducible exact ones_nil | ((with_reducible apply ones_cons); (first | exact rfl | assumption))))) | simp [Value.oneCell']); omega; omega; intro v)); refine D9 ?_))
      all_goals refine DD 20 ?_
      all_goals refine D8 ?_
    all_goals repeat' (first | refine KK ?_ | refine NB fun b => ?_ | (refine KB ?_ ?_ <;> intro hp) | refine KG ?_ | fail)
    all_goals
      refine gq_back (k + 1, ps.take (ps.length - kk) ++ [(T.mk y.op y.at' y.n y.m y.s ((ps.drop (ps.length - kk)).map (·.1)), .slice A2 (ps.length - (ps.length - kk)) c2)], μ2, v) ⟨by dsimp only; omega, hle.trans hle2, ?_, ?_, ?_, ?_, ?_⟩ (by dsimp only; omega) rfl PU ?_
      · intro p hp
        rcases List.mem_append.1 hp with hp | hp
        · exact (hkids p (List.mem_of_mem_take hp)).mono hle2
        · cases List.mem_singleton.1 hp
          exact hkr
      · dsimp only
        rw [sizes_append, size_mk]
        have : sizes ps = sizes (ps.take (ps.length - kk)) + sizes (ps.drop (ps.length - kk)) := by rw [← sizes_append, List.take_append_drop]
        omega
      · simp; omega
      · intro p hp
        rcases List.mem_append.1 hp with hp | hp
        · exact hall0 p (List.mem_of_mem_take hp)
        · cases List.mem_singleton.1 hp
          refine AllT.node ⟨y.k, by cases y; exact hq _ (List.mem_of_getElem? hy)⟩ (fun t ht => ?_)
          obtain ⟨p2, hp2, rfl⟩ := List.mem_map.1 ht
          exact hall0 p2 (List.mem_of_mem_drop hp2)
      · dsimp only
        rw [wsumP_append, wsum_mk, List.take_add_one, hy, List.map_append, List.sum_append]
        have : wsumP gw ps = wsumP gw (ps.take (ps.length - kk)) + wsumP gw (ps.drop (ps.length - kk)) := by rw [← wsumP_append, List.take_append_drop]
        simp only [Option.toList_some, List.map_cons, List.map_nil, List.sum_cons, List.sum_nil, Nat.add_zero]
        omega
      · dsimp only
        rw [flat_takes encTV_len, show (ps.take (ps.length - kk) ++ [(T.mk y.op y.at' y.n y.m y.s ((ps.drop (ps.length - kk)).map (·.1)), Value.slice A2 (ps.length - (ps.length - kk)) c2)]).length = ps.length - kk + 1 by simp, List.flatMap_append]
        exact (by repeat first | exact List.Sublist.refl _ | exact List.nil_sublist _ | refine List.Sublist.cons_cons _ ?_ | refine List.Sublist.cons _ ?_)
  · by_cases hps : ps.length = 0
    · repeat' (first | refine KK ?_ | refine NB fun b => ?_ | (refine KB ?_ ?_ <;> intro hp) | refine KG ?_ | fail)
      exact ret_m1 rfl (rv_agg 1 rfl rfl rfl rfl rfl (by repeat first | exact lc_nil | refine lc_cons rfl ?_)) (fun μ' hle' hL => ⟨T.zero, ⟨_, rfl, KR.nil _ _ _⟩, by rw [T.size_eq]; simp [T.zero, T.kids], AllT.node ⟨0, hq0⟩ (fun t ht => by cases ht), by rw [wsum_eq]; simp [T.zero, T.kids, T.s]⟩)
    · obtain ⟨p, hp⟩ : ∃ p, ps[ps.length - 1]? = some p := ⟨ps[ps.length - 1], List.getElem?_eq_getElem (by omega)⟩
      have hcell := flat_get encTV_len hp
      rcases hok.form with ⟨rfl, h0, _⟩ | ⟨g, rfl⟩
      · exact absurd h0 hps
      have hkp := hkids p (List.mem_of_getElem? hp)
      have hone := hkp.one
      have hall : (encTV p).all (·.oneCell') = true := by simp only [List.all_cons, List.all_nil, Bool.and_true, Bool.and_eq_true]; exact ⟨rfl, rfl, rfl, rfl, rfl, hone⟩
      repeat' (first | ((with_reducible apply g_storeS_1); exact rfl; exact rfl; exact rfl; exact rfl; exact rfl; exact hall; exact rfl; (repeat first | with_reducible exact pc_nil | with_reducible apply pc_cons)) | refine KO ?_ | (refine KV (b := by first | exact U1 (ps.length - 1) | ((with_reducible apply v_load_rows 0 (vs := encTV p)); exact rfl; exact rfl; exact rfl; exact rfl; exact rfl; exact hcell)) (c := ?_)) | refine KI ?_ | refine NB fun b => ?_ | (refine KB ?_ ?_ <;> intro hp) | refine KG ?_ | fail)
      refine ret_m1 rfl (rv_agg 1 rfl rfl rfl rfl rfl (by repeat first | exact lc_nil | refine lc_cons rfl ?_)) (fun μ' hle' hL => ⟨p.1, ⟨p.2, rfl, hkp.mono hle'⟩, ?_, hall0 p (List.mem_of_getElem? hp), ?_⟩)
      rotate_left
      · have h2 := T.sum_mem (List.mem_map.2 ⟨p, List.mem_of_getElem? hp, rfl⟩ : wsum gw p.1 ∈ ps.map fun p => wsum gw p.1)
        have e2 : (ps.map fun p => wsum gw p.1).sum = wsumP gw ps := rfl
        have h3 : k = n := by omega
        rw [List.take_of_length_le (by rw [hc.1]; omega)] at hws
        omega
      have := T.sum_mem (List.mem_map.2 ⟨p, List.mem_of_getElem? hp, rfl⟩ : p.1.size ∈ ps.map fun p => p.1.size)
      have e : (ps.map fun p => p.1.size).sum = sizes ps := rfl
      omega
end
end Go.Proofs.YtoclmkdfcafhfaaGreatDoor
namespace Go.Proofs.YtoclmkdfcafhfaaGreatDoor.Iq
open Go.Vcg
def inI (n lo hi : Int) : Bool := decide (lo ≤ n) && decide (n ≤ hi)
def isE (op : Int) : Bool := decide (100 ≤ op) && (decide (op < 148) && (decide (op ≠ 121) && (decide (op ≠ 122) && decide (op ≠ 124))))
def isS (op : Int) : Bool := decide (160 ≤ op) && decide (op < 173)
def fitB (sign : UInt8) (op : Int) : Bool :=
  if sign = 115 then isS op else if sign = 112 then decide (op = 121) || decide (op = 122) else if sign = 97 then isE op || decide (op = 124) else if sign = 98 then isE op || isS op else isE op
def kidsB : List UInt8 → List Int → Bool
  | [], l => l.isEmpty
  | [c], l => match l with
    | [] => false
    | x :: l' => fitB c x && l'.isEmpty
  | c :: d :: r, l => if d = 42 then (l.take (l.length - r.length)).all (fitB c) && kidsB r (l.drop (l.length - r.length)) else match l with
    | [] => false
    | x :: l' => fitB c x && kidsB (d :: r) l'
def wordsB : List UInt8 → List UInt8 → List (List UInt8)
  | [], acc => [acc]
  | c :: r, acc => if c = 32 then acc :: wordsB r [] else wordsB r (acc ++ [c])
def idStart (c : UInt8) : Bool := (decide (97 ≤ c.toNat) && decide (c.toNat ≤ 122)) || ((decide (65 ≤ c.toNat) && decide (c.toNat ≤ 90)) || (decide (c.toNat = 95) || decide (c.toNat = 36)))
def idPart (c : UInt8) : Bool := idStart c || (decide (48 ≤ c.toNat) && decide (c.toNat ≤ 57))
def formB : List UInt8 → Bool
  | [] => false
  | c :: r => idStart c && r.all idPart
def unW : List (List UInt8) := wordsB [45, 32, 43, 32, 33, 32, 126, 32, 118, 111, 105, 100] []
def binW : List (List UInt8) := wordsB [124, 32, 94, 32, 38, 32, 61, 61, 32, 33, 61, 32, 61, 61, 61, 32, 33, 61, 61, 32, 60, 32, 62, 32, 60, 61, 32, 62, 61, 32, 105, 110, 115, 116, 97, 110, 99, 101, 111, 102, 32, 105, 110, 32, 60, 60, 32, 62, 62, 32, 43, 32, 45, 32, 42, 32, 47, 32, 37] []
def logW : List (List UInt8) := wordsB [38, 38, 32, 124, 124, 32, 63, 63] []
def textB (op : Int) (s : List UInt8) : Bool :=
  if op = 105 then decide (s.length ≤ 65536) else if op = 111 ∨ op = 112 ∨ op = 113 ∨ op = 114 then formB s else if op = 132 then unW.contains s else if op = 133 then binW.contains s else if op = 134 then logW.contains s else s.isEmpty
def moreB (op m : Int) : Bool := if op = 109 ∨ op = 110 then true else if op = 129 then inI m 0 1 else if op = 163 then inI m 0 4096 else decide (m = 0)
def numbB (op n loc funcs : Int) : Bool :=
  if op = 102 ∨ op = 126 ∨ op = 127 ∨ op = 144 ∨ op = 114 then inI n 0 1 else if op = 103 then inI n (-9007199254740992) 9007199254740992 else if op = 107 ∨ op = 108 ∨ op = 169 then inI n 0 (loc - 1)
  else if op = 109 ∨ op = 110 ∨ op = 165 ∨ op = 166 then true else if op = 117 then inI n (-1) 1024 else if op = 118 then inI n 0 1024 else if op = 119 then inI n 1 (funcs - 1) else if op = 121 then inI n 0 2
  else if op = 163 ∨ op = 164 ∨ op = 170 then inI n 0 4096 else decide (n = 0)
def argsB (op m : Int) (kids : List Int) : Bool :=
  if op = 129 then !(decide (m = 1) && (decide (kids.length < 2) || decide (kids[1]? = some 124))) && decide ((kids.length : Int) - 1 - m ≤ 1024)
  else if op = 131 then decide ((kids.length : Int) - 1 ≤ 1024) else if op = 130 then decide ((kids.length : Int) - 2 ≤ 1024) else true
structure PlP where
  (slots breaks agains : List Int) (inSc : Bool)
structure CkS where
  (met : List Bool) (slots : List (List Int)) (next : List Int)
abbrev Fns := List (Int × Int)
def kindOf (fs : Fns) (f : Int) : Int := (fs.getD f.toNat (0, 0)).1
def locOf (fs : Fns) (f : Int) : Int := (fs.getD f.toNat (0, 0)).2
def genB (k : Int) : Bool := decide (k / 4 % 2 = 1)
def standsF (fs : Fns) (f : Int) (op n m : Int) (p : PlP) (c : CkS) : CkS × Bool :=
  if op = 109 ∨ op = 110 then (c, inI n 0 ((p.slots.length : Int) - 1) && inI m 0 (p.slots.getD n.toNat 0 - 1))
  else if op = 119 then
    let c' : CkS := if c.met.getD n.toNat false = true then c else ⟨c.met.set n.toNat true, c.slots.set n.toNat p.slots, c.next ++ [n]⟩
    (c', decide (c'.slots.getD n.toNat [] = p.slots))
  else if op = 137 ∨ op = 138 then (c, genB (kindOf fs f))
  else if op = 165 then (c, p.breaks.contains n) else if op = 166 then (c, p.agains.contains n) else if op = 171 then (c, p.inSc) else (c, true)
section
variable (row : Int → List UInt8 × List UInt8) (fs : Fns)
def shapeB (t : T) (f : Int) (deep : Int) : Bool :=
  decide (deep ≤ 2048) && (!(row t.op).1.isEmpty && (kidsB (row t.op).2 (t.kids.map T.op) && (textB t.op t.s.data.toList && (moreB t.op t.m && (numbB t.op t.n (locOf fs f) fs.length && argsB t.op t.m (t.kids.map T.op))))))
def inside (op n : Int) (p : PlP) : PlP := if op = 164 then { p with breaks := p.breaks ++ [n] } else if op = 170 then { p with slots := n :: p.slots, inSc := true } else p
def atKid (op n m : Int) (p : PlP) (i : Nat) : PlP := if op = 163 ∧ i = 1 then { p with breaks := p.breaks ++ [n], agains := p.agains ++ [m] } else p
mutual
def nodeF (f : Int) (t : T) (p : PlP) (deep : Int) (c : CkS) : CkS × Bool := match t with
  | .mk op at' n m s kids =>
    if shapeB row fs (.mk op at' n m s kids) f deep = true then
      let r := standsF fs f op n m p c
      if r.2 = true then kidsF f op n m (inside op n p) deep kids 0 r.1 else (r.1, false)
    else (c, false)
def kidsF (f : Int) (op n m : Int) (p : PlP) (deep : Int) (kids : List T) (i : Nat) (c : CkS) : CkS × Bool := match kids with
  | [] => (c, true)
  | k :: r =>
    let q := nodeF f k (atKid op n m p i) (deep + 1) c
    if q.2 = true then kidsF f op n m p deep r (i + 1) q.1 else (q.1, false)
end
def queueF (bodies : List T) : Nat → CkS → CkS × Bool
  | 0, c => (c, c.next.isEmpty)
  | g + 1, c => match c.next with
    | [] => (c, true)
    | f :: r =>
      let body := bodies.getD f.toNat (.mk 0 0 0 0 ⟨#[]⟩ [])
      if isS body.op = true then
        let q := nodeF row fs f body ⟨c.slots.getD f.toNat [], [], [], false⟩ 1 { c with next := r }
        if q.2 = true then queueF bodies g q.1 else (q.1, false)
      else ({ c with next := r }, false)
def fromF (bodies : List T) (f : Nat) (c : CkS) : CkS × Bool := queueF row fs bodies (bodies.length + 1) { c with met := c.met.set f true, next := [(f : Int)] }
def allF (bodies : List T) : List Nat → CkS → Bool
  | [], _ => true
  | f :: r, c => if c.met.getD f false = true then allF bodies r c else
    let q := fromF row fs bodies f c
    if q.2 = true then allF bodies r q.1 else false
end
def callsF : T → Int
  | .mk op _ _ _ _ kids => (if op = 129 ∨ op = 130 ∨ op = 131 then 1 else 0) + (kids.map callsF).sum
end Go.Proofs.YtoclmkdfcafhfaaGreatDoor.Iq
