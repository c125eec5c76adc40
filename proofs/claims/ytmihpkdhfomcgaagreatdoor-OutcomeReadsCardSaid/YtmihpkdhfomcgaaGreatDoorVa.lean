/- Rules for slices that a call appends to, over the symbolic state of YtmihpkdhfomcgaaGreatDoorVc. No statement of the seat is proved here. -/
import Derived.Test.YtmihpkdhfomcgaaGreatDoorVd
set_option maxRecDepth 20000
namespace Go.Vcg
open Go.RowKit
section
variable {P : Program} {X : Ctx} {ops : Array Oper} {Q : Exit → Act → World → Prop} {rest : List Oper} {μ : Mem} {l : Slots} {L : List Bk} {a : Act} {w : World} {o : Oper}
variable {d : Nat} {ty : TypeId} {pos : String} {af : Array Edge} {gd : Option (Nat × Bool)}

/-- a number of bytes handed on as a numeral -/
def natB {α : Type} (x : Nat) (k : Nat → α) : α := match x with
  | 0 => k 0 | 1 => k 1 | 2 => k 2 | 4 => k 4 | 8 => k 8 | 16 => k 16 | 24 => k 24 | 32 => k 32 | 40 => k 40 | 48 => k 48 | 56 => k 56 | 64 => k 64 | 72 => k 72 | 80 => k 80 | 88 => k 88 | 96 => k 96 | 104 => k 104 | 112 => k 112 | 120 => k 120 | 128 => k 128 | n => k n
theorem natB_eq {α : Type} (x : Nat) (k : Nat → α) : natB x k = k x := by
  unfold natB; split <;> rfl
def bytesT (P : Program) (t : TypeId) : Option Nat := match P.info? t with | some i => natB i.bytes some | none => none

/-- What is appended: the cells 'news' lie at the source's address. -/
def Src (μ : Mem) (l : Slots) (L : List Bk) (x : Operand) (m : Nat) (news : List Value) : Prop :=
  ∃ A c, ev l x = some (.slice A m c) ∧ (A = none → m = 0 ∧ news = []) ∧ ∀ ad, A = some ad → ∀ a w, Rd μ l L a w → ∀ j u, news[j]? = some u → w.cell? (ad.add j) = some u

theorem St.put_row (h : St X μ l L a w) {v' : Value} {w' : World} {e : TypeId} {s n : Nat} {xs : List Value} (hr : w'.ownsRow 0 e s v' n xs) (hg : w.grownBy w' none) (hb : ∀ b, v'.ownBlock = some b → w.heap.size ≤ b) :
    St X μ l (.inr ⟨v', e, s, n, xs⟩ :: L) a w' := by
  have hbel : Below w.heap.size w w' := ⟨hg.os, hg.tape, hg.output, hg.size, fun b hb => hg.block b hb (by simp)⟩
  have h1 := h.drop_world hbel
  have hp : ∀ b, w.heap.size ≤ b → μ b = none := fun b hb => by
    cases hm : μ b with
    | none => rfl
    | some o =>
      have := (Array.getElem?_eq_some_iff.1 (h.mem _ _ hm)).1
      omega
  refine ⟨h1.size, h1.defers, h1.slots, h1.keep, h1.mem, h1.from0, h1.fresh, fun x hx => ?_, fun x hx b hb' => ?_, fun x hx b hb' => ?_, List.pairwise_cons.2 ⟨fun y hy b hb1 hb2 => ?_, h1.diff⟩⟩
  · rcases List.mem_cons.1 hx with rfl | hx
    · exact hr
    · exact h1.own x hx
  · rcases List.mem_cons.1 hx with rfl | hx
    · exact hp b (hb b hb')
    · exact h1.priv x hx b hb'
  · rcases List.mem_cons.1 hx with rfl | hx
    · exact .inr (Nat.le_trans h.keep.size (hb b hb'))
    · exact h1.new x hx b hb'
  · have := hb b hb1
    have := Bk.lt (h.own y hy) hb2
    omega

theorem run_append_row {t e : TypeId} {s bytes : Nat} {z : Value} (ht : P.underlying t = some (.slice e)) (hs : sizeT P e = some s) (hz : zeroT P e = some z) (hzs : z.cells.toList.length = s) (hby : bytesT P e = some bytes) (hpos : 0 < s)
    {v : Value} {n : Nat} {xs : List Value} (hown : w.ownsRow 0 e s v n xs) {A : Option Addr} {m c : Nat} {news : List Value} (hl : news.length = m * s) (h0 : A = none → m = 0 ∧ news = []) (hc : ∀ ad, A = some ad → ∀ j u, news[j]? = some u → w.cell? (ad.add j) = some u)
    (h1 : ∀ u ∈ news, u.oneCell' = true) (hroom : (n + m) * bytes ≤ 140737488355328) (hlen : n + m ≤ 140737488355328) :
    ∃ v' w', (Builtin.append_ #[t, t] ty #[v, .slice A m c]).run P w = .ok v' w' ∧ w'.ownsRow 0 e s v' (n + m) (xs ++ news) ∧ w.grownBy w' v.ownBlock ∧ (v'.ownBlock = v.ownBlock ∨ v'.ownBlock = some w.heap.size) := by
  unfold sizeT at hs
  unfold zeroT at hz
  unfold bytesT at hby
  cases hi : P.info? e with
  | none => simp [hi] at hs
  | some i =>
    simp [hi, nat16_eq] at hs
    simp [hi] at hz
    simp [hi, natB_eq] at hby
    rcases A with _ | ad
    · obtain ⟨rfl, rfl⟩ := h0 rfl
      have hrun : (Builtin.append_ #[t, t] ty #[v, .slice none 0 c]).run P w = .ok v w := by
        rcases hown.2 with ⟨rfl, rfl⟩ | ⟨g, cap, cur, rfl, _, _, hnc, _⟩
        · simp [Builtin.append_, run_underlying ht, sizeOf, typeInfo, hi, Builtin.lenOf, Builtin.firstCells]
        · simp [Builtin.append_, run_underlying ht, sizeOf, typeInfo, hi, Builtin.lenOf, Builtin.firstCells, hnc, storeCells]
      exact ⟨v, w, hrun, by simpa using hown, World.grownBy.refl w _, .inl rfl⟩
    · obtain ⟨v', w', r1, r2, r3, _, r5⟩ := run_append_own_at (P := P) w 0 t ty e i z s bytes ht hi hz hs hby (by simpa using hzs) hpos v n xs hown ad m c news hl (hc ad rfl) h1 (by simp only [maxLen]; omega) hroom (Nat.zero_le _)
      exact ⟨v', w', r1, r2, r3, r5⟩

theorem run_append_call {p q : Operand} {t : TypeId} {v x v' : Value} {w' : World} {ρ : Operand → Value} {ds : Option Nat} (hp : ρ p = v) (hq : ρ q = x) (hr : (Builtin.append_ #[t, t] ty #[v, x]).run P w = .ok v' w') :
    (execOp ρ ⟨ds, .call { callee := .builtin .append, args := #[p, q], argTypes := #[t, t] }, ty, pos, af, gd⟩).run P w = .ok (.value v') w' := by
  simp only [execOp, resolve, invoke, builtin, Sem.run_bind, Sem.run_pure, Result.andThen_ok, List.map_toArray, List.map_cons, List.map_nil, hp, hq, hr]

/-- append to nothing: a row begins. -/
theorem g_append0 {p q : Operand} {t e : TypeId} {s bytes m : Nat} {z : Value} {news : List Value} (hn : Nat.blt d X.n = true) (hw : wants ops l ⟨some d, .call { callee := .builtin .append, args := #[p, q], argTypes := #[t, t] }, ty, pos, af, gd⟩ = some true)
    (ht : P.underlying t = some (.slice e)) (hs : sizeT P e = some s) (hz : zeroT P e = some z) (hzs : z.cells.toList.length = s) (hby : bytesT P e = some bytes) (hpos : Nat.blt 0 s = true) (hp : ev l p = some (.slice none 0 0))
    (hsrc : Src μ l L q m news) (hl : news.length = m * s) (h1 : ∀ u ∈ news, u.oneCell' = true) (hroom : m * bytes ≤ 140737488355328) (hlen : m ≤ 140737488355328)
    (h : ∀ v, G P X ops Q rest μ ((d, v) :: l) (.inr ⟨v, e, s, m, news⟩ :: L)) :
    G P X ops Q (⟨some d, .call { callee := .builtin .append, args := #[p, q], argTypes := #[t, t] }, ty, pos, af, gd⟩ :: rest) μ l L :=
  g_wp hw fun a w hs' => by
    obtain ⟨A, c, hq, h0, hc⟩ := hsrc
    obtain ⟨v', w', r1, r2, r3, r4⟩ := run_append_row (P := P) (ty := ty) (w := w) (t := t) ht hs hz hzs hby (by simpa using hpos) (v := .slice none 0 0) (n := 0) (xs := []) ⟨by simp, .inl ⟨rfl, rfl⟩⟩ (c := c) hl h0 (fun ad e => hc ad e a w hs'.rd) h1 (by simpa using hroom) (by simpa using hlen)
    unfold Oper.wp
    rw [run_append_call (hs'.eval hp) (hs'.eval hq) r1, Oper.upon_value]
    refine h v' _ _ (St.put (hs'.put_row (by simpa using r2) r3 (fun b hb => ?_)) hn _)
    rcases r4 with r4 | r4
    · rw [r4] at hb; simp [Value.ownBlock] at hb
    · rw [r4] at hb; cases hb; exact Nat.le_refl _

/-- append to a row of the call's own. -/
theorem g_append_at {p q : Operand} {t : TypeId} {s bytes m : Nat} {z : Value} {news : List Value} {r : Rw} (i : Nat) (hn : Nat.blt d X.n = true) (hw : wants ops l ⟨some d, .call { callee := .builtin .append, args := #[p, q], argTypes := #[t, t] }, ty, pos, af, gd⟩ = some true)
    (hi : nthB L i = some (.inr r)) (ht : P.underlying t = some (.slice r.e)) (hs : sizeT P r.e = some s) (hrs : r.s = s) (hz : zeroT P r.e = some z) (hzs : z.cells.toList.length = s) (hby : bytesT P r.e = some bytes) (hpos : Nat.blt 0 s = true) (hp : ev l p = some r.v)
    (hsrc : Src μ l L q m news) (hl : news.length = m * s) (h1 : ∀ u ∈ news, u.oneCell' = true) (hroom : (r.n + m) * bytes ≤ 140737488355328) (hlen : r.n + m ≤ 140737488355328)
    (h : ∀ v, G P X ops Q rest μ ((d, v) :: l) (updB L i (.inr ⟨v, r.e, r.s, r.n + m, r.xs ++ news⟩))) :
    G P X ops Q (⟨some d, .call { callee := .builtin .append, args := #[p, q], argTypes := #[t, t] }, ty, pos, af, gd⟩ :: rest) μ l L :=
  g_wp hw fun a w hs' => by
    obtain ⟨A, c, hq, h0, hc⟩ := hsrc
    have hown : w.ownsRow 0 r.e r.s r.v r.n r.xs := hs'.own _ (nthB_mem hi)
    rw [hrs] at hown
    obtain ⟨v', w', r1, r2, r3, r4⟩ := run_append_row (P := P) (ty := ty) (w := w) (t := t) ht hs hz hzs hby (by simpa using hpos) hown (c := c) hl h0 (fun ad e => hc ad e a w hs'.rd) h1 hroom hlen
    unfold Oper.wp
    rw [run_append_call (hs'.eval hp) (hs'.eval hq) r1, Oper.upon_value]
    refine h v' _ _ (St.put (hs'.upd hi r3.os r3.tape r3.output r3.size (fun b hb hne => r3.block b hb (fun e => hne e.symm)) (y := .inr ⟨v', r.e, r.s, r.n + m, r.xs ++ news⟩) (by rw [← hrs] at r2; exact r2) (fun b hb => ?_)) hn _)
    rcases r4 with r4 | r4
    · exact .inl (r4.symm.trans hb)
    · have : v'.ownBlock = some b := hb
      rw [r4] at this; cases this; exact .inr (Nat.le_refl _)

/-- the source is a slice literal of the call's own -/
theorem src_own {q : Operand} {y : Blk} {m c : Nat} {news : List Value} (i : Nat) (hi : nthB L i = some (.inl y)) (hq : ev l q = some (.slice (some ⟨y.b, 0, none⟩) m c)) (hc : LC y.cs 0 y.sz news) : Src μ l L q m news :=
  ⟨_, _, hq, (fun h => by cases h), fun ad e a w hr j u hu => by
    cases e
    rw [add_lit]
    exact hr.cell (nthB_mem hi) (hc.get j u hu)⟩
theorem v_len_row {p : Operand} {t e : TypeId} {ds : Option Nat} {r : Rw} (i : Nat) (ht : P.underlying t = some (.slice e)) (hi : nthB L i = some (.inr r)) (hp : ev l p = some r.v) :
    Val P μ l L ⟨ds, .call { callee := .builtin .len, args := #[p], argTypes := #[t] }, ty, pos, af, gd⟩ (.int .i64 r.n) := fun a w hs => by
  have e0 := hs.eval hp
  have hown : w.ownsRow 0 r.e r.s r.v r.n r.xs := hs.own _ (nthB_mem hi)
  obtain ⟨A, c, hv⟩ : ∃ A c, r.v = .slice A r.n c := by
    rcases hown.2 with ⟨h1, h2⟩ | ⟨g, cap, cur, h1, _⟩
    · exact ⟨none, 0, by rw [h1, h2]⟩
    · exact ⟨_, _, h1⟩
  rw [hv] at e0
  generalize a.eval = ρ at e0
  simp [execOp, e0, resolve, invoke, builtin, Builtin.len_, run_underlying ht, goInt]
/-- A row that is given away reads as a slice. -/
theorem Rw.sl {α : Type} {enc : α → List Value} {r : Rw} {xs : List α} (h : Bk.sh (.inr r) μ) (hn : xs.length = r.n) (he : ∀ x ∈ xs, (enc x).length = r.s) (hx : r.xs = xs.flatMap enc) : ∃ A c, r.v = .slice A r.n c ∧ Sl enc r.s μ A r.n xs ∧ c ≤ maxLen := by
  rcases h.2 with ⟨h1, h2⟩ | ⟨g, cap, cur, h1, h2, h3, h4, h5, h6⟩
  · exact ⟨none, 0, by rw [h1, h2], ⟨hn, fun h => by omega⟩, by simp⟩
  · refine ⟨_, _, h1, ⟨hn, fun _ => ⟨_, rfl, fun i x hi => ?_⟩⟩, h4⟩
    rw [hx] at h6
    have key : ∀ (xs : List α) (i : Nat) (x : α), (∀ x ∈ xs, (enc x).length = r.s) → xs[i]? = some x → ∀ j v, (enc x)[j]? = some v → (xs.flatMap enc)[i * r.s + j]? = some v := by
      intro xs
      induction xs with
      | nil => intro i x _ h; simp at h
      | cons y xs ih =>
        intro i x he hi j v hj
        have hy := he y (by simp)
        cases i with
        | zero =>
          simp at hi; subst hi
          simp only [List.flatMap_cons, Nat.zero_mul, Nat.zero_add]
          rw [List.getElem?_append_left (List.getElem?_eq_some_iff.1 hj).1]; exact hj
        | succ i =>
          simp only [List.flatMap_cons]
          rw [List.getElem?_append_right (by rw [hy, Nat.add_mul]; omega), hy, show (i + 1) * r.s + j - r.s = i * r.s + j by rw [Nat.add_mul]; omega]
          exact ih i x (fun z hz => he z (by simp [hz])) (by simpa using hi) j v hj
    intro j v hj
    have hk := key xs i x he hi j v hj
    rw [add_add', add_lit]
    refine ⟨cur, r.e, (0, 0), h2, rfl, ?_⟩
    rw [← h6, List.getElem?_take] at hk
    split at hk
    · simpa using hk
    · cases hk
/-- A nil slice is a row without elements. -/
theorem St.nilRow (h : St X μ l L a w) (e s : TypeId) : St X μ l (.inr ⟨.slice none 0 0, e, s, 0, []⟩ :: L) a w :=
  h.put_row ⟨by simp, .inl ⟨rfl, rfl⟩⟩ (World.grownBy.refl w _) (fun b hb => by simp [Value.ownBlock] at hb)

/-- A slice literal of the call's own becomes a row. -/
theorem St.blkRow {b t n s : Nat} {cs : Slots} {xs : List Value} (h : St X μ l (.inl ⟨b, t, n * s, cs⟩ :: L) a w) (hc : LC cs 0 (n * s) xs) (hn : n ≤ maxLen) : St X μ l (.inr ⟨.slice (some ⟨b, 0, none⟩) n n, t, s, n, xs⟩ :: L) a w := by
  obtain ⟨arr, h1, h2, h3⟩ := h.own _ (List.Mem.head _)
  have h1' : w.heap[b]? = some (.cells arr t (0, 0)) := h1
  have h2' : arr.size = n * s := h2
  have hrow : w.ownsRow 0 t s (.slice (some ⟨b, 0, none⟩) n n) n xs := by
    refine ⟨hc.len, .inr ⟨b, n, arr, rfl, Nat.zero_le _, h1', Nat.le_refl _, hn, h2', ?_⟩⟩
    apply List.ext_getElem?
    intro i
    rw [List.getElem?_take]
    by_cases hi : i < n * s
    · have hlt : i < xs.length := by rw [hc.len]; exact hi
      have hx : xs[i]? = some xs[i] := List.getElem?_eq_getElem hlt
      have := h3 i _ (by simpa using hc.get i _ hx)
      rw [if_pos hi, hx]; simpa using this
    · rw [if_neg hi, List.getElem?_eq_none (by rw [hc.len]; omega)]
  have := h.upd (i := 0) (x := .inl ⟨b, t, n * s, cs⟩) (y := .inr ⟨.slice (some ⟨b, 0, none⟩) n n, t, s, n, xs⟩) rfl rfl rfl rfl (Nat.le_refl _) (fun _ _ _ => rfl) hrow (fun b' hb' => .inl hb')
  exact this

/-- The value of a row that has elements. -/
theorem St.rowForm (h : St X μ l L a w) {i : Nat} {r : Rw} (hi : nthB L i = some (.inr r)) (hn : 0 < r.n) : ∃ g cap, r.v = .slice (some ⟨g, 0, none⟩) r.n cap ∧ r.n ≤ cap := by
  have hown : w.ownsRow 0 r.e r.s r.v r.n r.xs := h.own _ (nthB_mem hi)
  rcases hown.2 with ⟨_, h2⟩ | ⟨g, cap, cur, h1, _, _, h4, _⟩
  · omega
  · exact ⟨g, cap, h1, h4⟩
theorem g_rowForm {v : Value} {e s n : Nat} {ys : List Value} (i : Nat) (hi : nthB L i = some (.inr ⟨v, e, s, n, ys⟩)) (hn : 0 < n) (h : ∀ g cap, v = .slice (some ⟨g, 0, none⟩) n cap → n ≤ cap → G P X ops Q rest μ l L) : G P X ops Q rest μ l L := fun a w hs => by
  obtain ⟨g, cap, h1, h2⟩ := hs.rowForm hi hn
  exact h g cap h1 h2 a w hs

theorem St.rowSlice (h : St X μ l L a w) {i : Nat} {r : Rw} (hi : nthB L i = some (.inr r)) : ∃ A c, r.v = .slice A r.n c := by
  have hown : w.ownsRow 0 r.e r.s r.v r.n r.xs := h.own _ (nthB_mem hi)
  rcases hown.2 with ⟨h1, h2⟩ | ⟨g, cap, cur, h1, _⟩
  · exact ⟨none, 0, by rw [h1, h2]⟩
  · exact ⟨_, _, h1⟩
/-- The value of a row, as a slice. -/
theorem g_rowSlice {v : Value} {e s n : Nat} {ys : List Value} (i : Nat) (hi : nthB L i = some (.inr ⟨v, e, s, n, ys⟩)) (h : ∀ A c, v = .slice A n c → G P X ops Q rest μ l L) : G P X ops Q rest μ l L := fun a w hs => by
  obtain ⟨A, c, h1⟩ := hs.rowSlice hi
  exact h A c h1 a w hs
theorem row_sl {α : Type} {enc : α → List Value} {v : Value} {e s n : Nat} {ys : List Value} {xs : List α} (h : Bk.sh (.inr ⟨v, e, s, n, ys⟩) μ) (hn : xs.length = n) (he : ∀ x ∈ xs, (enc x).length = s) (hx : ys = xs.flatMap enc) : ∃ A c, v = .slice A n c ∧ Sl enc s μ A n xs := by
  obtain ⟨A, c, h1, h2, _⟩ := Rw.sl (enc := enc) h hn he hx
  exact ⟨A, c, h1, h2⟩
/-- A row that is handed on, read. -/
theorem sl_of_row {α : Type} {enc : α → List Value} {A : Option Addr} {n c e s : Nat} {ys : List Value} {xs : List α} (h : Bk.sh (.inr ⟨.slice A n c, e, s, n, ys⟩) μ) (hn : xs.length = n) (he : ∀ x ∈ xs, (enc x).length = s) (hx : ys = xs.flatMap enc) : Sl enc s μ A n xs := by
  obtain ⟨A', c', h1, h2, _⟩ := Rw.sl (enc := enc) h hn he hx
  cases h1
  exact h2

theorem Rd.rowCell (h : Rd μ l L a w) {g n cap off : Nat} {e s : TypeId} {xs : List Value} {v : Value} (hm : .inr ⟨.slice (some ⟨g, 0, none⟩) n cap, e, s, n, xs⟩ ∈ L) (hv : xs[off]? = some v) : w.cell? ⟨g, off, none⟩ = some v := by
  have hown : w.ownsRow 0 e s (.slice (some ⟨g, 0, none⟩) n cap) n xs := h.own _ hm
  rcases hown.2 with ⟨h1, _⟩ | ⟨g', cap', cur, h1, _, h2, _, _, _, h6⟩
  · cases h1
  · cases h1
    rw [← h6, List.getElem?_take] at hv
    split at hv
    · simpa [World.cell?, h2] using hv
    · cases hv
end
section drawn
variable {P : Program} {X : Ctx} {ops : Array Oper} {Q : Exit → Act → World → Prop} {μ μr : Mem} {l : Slots} {L : List Bk} {a : Act} {w : World} {o : Oper} {d fuel i : Nat} {listed : Array Bool}
variable {ty : TypeId} {pos : String} {af : Array Edge} {gd : Option (Nat × Bool)}

end drawn
end Go.Vcg
