/- Rules for a statement whose order Go leaves open, over the symbolic state of YtocidaibmadekaaGreatDoorVc. No statement of the seat is proved here. -/
import Derived.Test.YtocidaibmadekaaGreatDoorQaa
set_option maxRecDepth 20000
namespace Go.Vcg
open Go.RowKit
def Sm (μ : Mem) (L : List Bk) (w : World) : Prop := MOk μ w ∧ ∀ x ∈ L, Bk.at x w
def GA (P : Program) (X : Ctx) (μr : Mem) (Lr : List Bk) (ops : Array Oper) (Q : Exit → Act → World → Prop) (fuel : Nat) (listed : Array Bool) (μ : Mem) (l : aI) (L : List Bk) : Prop :=
  ∀ a w, St X μ l L a w → Sm μr Lr w → wpAnyH P .any ops Q (Sm μr Lr) fuel listed a w
section
variable {P : Program} {X : Ctx} {ops : Array Oper} {Q : Exit → Act → World → Prop} {μ μr : Mem} {l : aI} {L Lr : List Bk} {a : Act} {w : World} {o : Oper} {d fuel i : Nat} {listed : Array Bool}
theorem St.draw (h : St X μ l L a w) : St X μ l L a { w with drawn := w.drawn + 1 } :=
  ⟨h.size, h.defers, h.slots, ⟨h.cO.os, h.cO.tape, h.cO.output, h.cO.size, h.cO.block⟩, h.mem, h.from0, h.fresh, fun x hx => Bk.cO (h.own x hx) (fun _ _ => rfl), h.priv, h.new, h.diff⟩
theorem aC {id : Nat} (n : Nat) (Lr : List Bk) (hm : P.follows .mixedOrders = true) (hn : ops.size = n) (hL : Lr.Sublist L) (h : GA P X μ Lr ops Q n (Array.replicate n false) μ l L) : GC P X (.region id ops true) Q μ l L :=
  fun a _ hs => wp_region_held hm (by subst hn; exact h a _ hs.draw ⟨hs.draw.mem, fun x hx => hs.draw.own x (hL.subset hx)⟩)
theorem pI {i : Nat} (h : nH ops.toList i = some o) : ops[i]? = some o := by rw [MM] at h; simpa using h
theorem MY (i : Nat) {v : Value} (ho : nH ops.toList i = some o) (hd : o.dst = some d) (hn : Nat.blt d X.n = true) (hw : cV ops l o = some true) (hs : Region.noSelect ops = true) (hf : Region.free .any ops listed i = true)
    (hr : (Region.ready .any ops listed).contains i = true) (hQ : ∀ c a w, Q (.panic c) (Act.put a (some d) v) w → Q (.panic c) a w) (hv : Val P μr l Lr o v)
    (h : GA P X μr Lr ops Q fuel (listed.setIfInBounds i true) μ ((d, v) :: l) L) : GA P X μr Lr ops Q (fuel + 1) listed μ l L := fun a w hst hS => by
  refine wpAnyH_take (pI ho) hs hf hr (by rw [hd]; exact hQ) (.inl ⟨hst.wanted hw, fun w' hw' => hv a w' ⟨hst.slots, hw'.1, hw'.2⟩⟩) hS ?_
  rw [hd]
  exact h _ _ (hst.put hn _) hS
theorem ZD (i : Nat) (ho : nH ops.toList i = some o) (hd : o.dst = some d) (hn : Nat.blt d X.n = true) (hw : cV ops l o = some false) (hs : Region.noSelect ops = true) (hf : Region.free .any ops listed i = true)
    (hr : (Region.ready .any ops listed).contains i = true) (hQ : ∀ c a w, Q (.panic c) (Act.put a (some d) undef) w → Q (.panic c) a w)
    (h : GA P X μr Lr ops Q fuel (listed.setIfInBounds i true) μ ((d, undef) :: l) L) : GA P X μr Lr ops Q (fuel + 1) listed μ l L := fun a w hst hS => by
  refine wpAnyH_take (v := undef) (pI ho) hs hf hr (by rw [hd]; exact hQ) (.inr ⟨hst.wanted hw, rfl⟩) hS ?_
  rw [hd]
  exact h _ _ (hst.put hn _) hS
theorem ZE (hr : Region.ready .any ops listed = []) (h : GQ X Q .normal μ l L) : GA P X μr Lr ops Q fuel listed μ l L := fun a w hst _ => wpAnyH_done hr (h a w hst) _
def bX (P : Program) (X : Ctx) (μr : Mem) (Lr : List Bk) (ops : Array Oper) (Q : Exit → Act → World → Prop) (fuel : Nat) (listed : Array Bool) (i : Nat) (μ : Mem) (l : aI) (L : List Bk) : Prop :=
  ∀ a w, St X μ l L a w → Sm μr Lr w → wpOp P ops Q i (fun a' w' => Sm μr Lr w' ∧ wpAnyH P .any ops Q (Sm μr Lr) fuel (listed.setIfInBounds i true) a' w') a w
theorem ZF (i : Nat) (hr : Region.ready .any ops listed = [i]) (h : bX P X μr Lr ops Q fuel listed i μ l L) : GA P X μr Lr ops Q (fuel + 1) listed μ l L := fun a w hst hS => by
  refine wpAnyH_all hr (by simp) fun j hj => ?_
  simp only [List.mem_singleton] at hj
  subst hj
  exact h a w hst hS
theorem dW (i j : Nat) (hr : Region.ready .any ops listed = [i, j]) (h : bX P X μr Lr ops Q fuel listed i μ l L) (h' : bX P X μr Lr ops Q fuel listed j μ l L) : GA P X μr Lr ops Q (fuel + 1) listed μ l L := fun a w hst hS => by
  refine wpAnyH_all hr (by simp) fun k hk => ?_
  simp only [List.mem_cons, List.not_mem_nil, or_false] at hk
  rcases hk with rfl | rfl
  · exact h a w hst hS
  · exact h' a w hst hS
theorem aEo {i : Nat} (ho : nH ops.toList i = some o) (hw : cV ops l o = some true)
    (h : ∀ a w, St X μ l L a w → Sm μr Lr w → o.wp P a w (fun a' w' => Sm μr Lr w' ∧ wpAnyH P .any ops Q (Sm μr Lr) fuel (listed.setIfInBounds i true) a' w') Q) : bX P X μr Lr ops Q fuel listed i μ l L := fun a w hst hS => by
  unfold wpOp
  simp only [pI ho, hst.wanted hw, if_true]
  exact .inl (h a w hst hS)
theorem QI {i : Nat} (ho : nH ops.toList i = some o) (hd : o.dst = some d) (hn : Nat.blt d X.n = true) (hw : cV ops l o = some false)
    (h : GA P X μr Lr ops Q fuel (listed.setIfInBounds i true) μ ((d, undef) :: l) L) : bX P X μr Lr ops Q fuel listed i μ l L := fun a w hst hS => by
  unfold wpOp
  simp only [pI ho, hst.wanted hw, Bool.false_eq_true, if_false, hd]
  exact ⟨hS, h _ _ (hst.put hn _) hS⟩
theorem dL {i : Nat} {v : Value} (ho : nH ops.toList i = some o) (hd : o.dst = some d) (hn : Nat.blt d X.n = true) (hw : cV ops l o = some true) (hv : Val P μ l L o v)
    (h : GA P X μr Lr ops Q fuel (listed.setIfInBounds i true) μ ((d, v) :: l) L) : bX P X μr Lr ops Q fuel listed i μ l L :=
  aEo ho hw fun a w hs hS => by
    unfold Oper.wp
    rw [hv a w hs.rd, Oper.upon_value, hd]
    exact ⟨hS, h _ _ (hs.put hn _) hS⟩
theorem UG {t : Nat} {b : Bool} (hl : lk l t = some (.bool b)) (ht : b = true → GA P X μr Lr ops Q fuel listed μ ((t, .bool true) :: l) L) (hf : b = false → GA P X μr Lr ops Q fuel listed μ ((t, .bool false) :: l) L) : GA P X μr Lr ops Q fuel listed μ l L := by
  intro a w hs hS
  have hsz := hs.slots t _ hl
  have hn : Nat.blt t X.n = true := by
    have := (Array.getElem?_eq_some_iff.1 hsz).1
    rw [hs.size] at this
    simp [Nat.blt]; omega
  have he : a.put (some t) (.bool b) = a := by
    cases a; simp only [Act.put, Act.mk.injEq, and_true] at *
    exact Array.ext_getElem? fun i => by
      by_cases e : t = i
      · subst e
        rw [Array.getElem?_setIfInBounds_self_of_lt (Array.getElem?_eq_some_iff.1 hsz).1, hsz]
      · rw [Array.getElem?_setIfInBounds_ne e]
  have hp := hs.put hn (.bool b)
  rw [he] at hp
  cases b
  · exact hf rfl a w hp hS
  · exact ht rfl a w hp hS
theorem UH (i : Nat) {t : Nat} {b : Bool} (_ho : nH ops.toList i = some o) (_hg : qQ ops o = some t) (hl : lk l t = some (.bool b)) (_hb : zN b) (ht : b = true → GA P X μr Lr ops Q fuel listed μ ((t, .bool true) :: l) L)
    (hf : b = false → GA P X μr Lr ops Q fuel listed μ ((t, .bool false) :: l) L) : GA P X μr Lr ops Q fuel listed μ l L := UG hl ht hf
end
end Go.Vcg
set_option maxRecDepth 20000
namespace Go.Vcg
open Go.RowKit
section
variable {P : Program} {X : Ctx} {ops : Array Oper} {Q : Exit → Act → World → Prop} {rest : List Oper} {μ : Mem} {l : aI} {L : List Bk} {a : Act} {w : World} {o : Oper}
variable {d : Nat} {ty : TypeId} {pos : String} {af : Array Edge} {gd : Option (Nat × Bool)}
def aB4 {α : Type} (x : Nat) (k : Nat → α) : α := match x with
  | 0 => k 0 | 1 => k 1 | 2 => k 2 | 4 => k 4 | 8 => k 8 | 16 => k 16 | 24 => k 24 | 32 => k 32 | 40 => k 40 | 48 => k 48 | 56 => k 56 | 64 => k 64 | 72 => k 72 | 80 => k 80 | 88 => k 88 | 96 => k 96 | 104 => k 104 | 112 => k 112 | 120 => k 120 | 128 => k 128 | n => k n
theorem XU {α : Type} (x : Nat) (k : Nat → α) : aB4 x k = k x := by
  unfold aB4; split <;> rfl
def sJ (P : Program) (t : TypeId) : Option Nat := match P.info? t with | some i => aB4 i.bytes some | none => none
def Src (μ : Mem) (l : aI) (L : List Bk) (x : Operand) (m : Nat) (news : List Value) : Prop :=
  ∃ A c, ev l x = some (.slice A m c) ∧ (A = none → m = 0 ∧ news = []) ∧ ∀ ad, A = some ad → ∀ a w, Rd μ l L a w → ∀ j u, news[j]? = some u → w.cell? (ad.add j) = some u
theorem St.CU (h : St X μ l L a w) {v' : Value} {w' : World} {e : TypeId} {s n : Nat} {xs : List Value} (hr : w'.ownsRow 0 e s v' n xs) (hg : w.grownBy w' none) (hb : ∀ b, v'.ownBlock = some b → w.heap.size ≤ b) :
    St X μ l (.inr ⟨v', e, s, n, xs⟩ :: L) a w' := by
  have hbel : Below w.heap.size w w' := ⟨hg.os, hg.tape, hg.output, hg.size, fun b hb => hg.block b hb (by simp)⟩
  have h1 := h.sH hbel
  have hp : ∀ b, w.heap.size ≤ b → μ b = none := fun b hb => by
    cases hm : μ b with
    | none => rfl
    | some o =>
      have := (Array.getElem?_eq_some_iff.1 (h.mem _ _ hm)).1
      omega
  refine ⟨h1.size, h1.defers, h1.slots, h1.cO, h1.mem, h1.from0, h1.fresh, fun x hx => ?_, fun x hx b hb' => ?_, fun x hx b hb' => ?_, List.pairwise_cons.2 ⟨fun y hy b hb1 hb2 => ?_, h1.diff⟩⟩
  · rcases List.mem_cons.1 hx with rfl | hx
    · exact hr
    · exact h1.own x hx
  · rcases List.mem_cons.1 hx with rfl | hx
    · exact hp b (hb b hb')
    · exact h1.priv x hx b hb'
  · rcases List.mem_cons.1 hx with rfl | hx
    · exact .inr (Nat.le_trans h.cO.size (hb b hb'))
    · exact h1.new x hx b hb'
  · have := hb b hb1
    have := Bk.lt (h.own y hy) hb2
    omega
theorem pC {t e : TypeId} {s bytes : Nat} {z : Value} (ht : P.underlying t = some (.slice e)) (hs : dR P e = some s) (hz : gB P e = some z) (hzs : z.cells.toList.length = s) (hby : sJ P e = some bytes) (hpos : 0 < s)
    {v : Value} {n : Nat} {xs : List Value} (hown : w.ownsRow 0 e s v n xs) {A : Option Addr} {m c : Nat} {news : List Value} (hl : news.length = m * s) (h0 : A = none → m = 0 ∧ news = []) (hc : ∀ ad, A = some ad → ∀ j u, news[j]? = some u → w.cell? (ad.add j) = some u)
    (h1 : ∀ u ∈ news, u.oneCell' = true) (hroom : (n + m) * bytes ≤ 140737488355328) (hlen : n + m ≤ 140737488355328) :
    ∃ v' w', (Builtin.append_ #[t, t] ty #[v, .slice A m c]).run P w = .ok v' w' ∧ w'.ownsRow 0 e s v' (n + m) (xs ++ news) ∧ w.grownBy w' v.ownBlock ∧ (v'.ownBlock = v.ownBlock ∨ v'.ownBlock = some w.heap.size) := by
  unfold dR at hs
  unfold gB at hz
  unfold sJ at hby
  cases hi : P.info? e with
  | none => simp [hi] at hs
  | some i =>
    simp [hi, pJ] at hs
    simp [hi] at hz
    simp [hi, XU] at hby
    rcases A with _ | ad
    · obtain ⟨rfl, rfl⟩ := h0 rfl
      have hrun : (Builtin.append_ #[t, t] ty #[v, .slice none 0 c]).run P w = .ok v w := by
        rcases hown.2 with ⟨rfl, rfl⟩ | ⟨g, cap, cur, rfl, _, _, hnc, _⟩
        · simp [Builtin.append_, run_underlying ht, sizeOf, typeInfo, hi, Builtin.lenOf, Builtin.firstCells]
        · simp [Builtin.append_, run_underlying ht, sizeOf, typeInfo, hi, Builtin.lenOf, Builtin.firstCells, hnc, storeCells]
      exact ⟨v, w, hrun, by simpa using hown, World.grownBy.refl w _, .inl rfl⟩
    · obtain ⟨v', w', r1, r2, r3, _, r5⟩ := run_append_own_at (P := P) w 0 t ty e i z s bytes ht hi hz hs hby (by simpa using hzs) hpos v n xs hown ad m c news hl (hc ad rfl) h1 (by simp only [maxLen]; omega) hroom (Nat.zero_le _)
      exact ⟨v', w', r1, r2, r3, r5⟩
theorem oQ {p q : Operand} {t : TypeId} {v x v' : Value} {w' : World} {ρ : Operand → Value} {ds : Option Nat} (hp : ρ p = v) (hq : ρ q = x) (hr : (Builtin.append_ #[t, t] ty #[v, x]).run P w = .ok v' w') :
    (execOp ρ ⟨ds, .call { callee := .builtin .append, args := #[p, q], argTypes := #[t, t] }, ty, pos, af, gd⟩).run P w = .ok (.value v') w' := by
  simp only [execOp, resolve, invoke, builtin, Sem.run_bind, Sem.run_pure, Result.andThen_ok, List.map_toArray, List.map_cons, List.map_nil, hp, hq, hr]
theorem BH {p q : Operand} {t e : TypeId} {s bytes m : Nat} {z : Value} {news : List Value} (hn : Nat.blt d X.n = true) (hw : cV ops l ⟨some d, .call { callee := .builtin .append, args := #[p, q], argTypes := #[t, t] }, ty, pos, af, gd⟩ = some true)
    (ht : P.underlying t = some (.slice e)) (hs : dR P e = some s) (hz : gB P e = some z) (hzs : z.cells.toList.length = s) (hby : sJ P e = some bytes) (hpos : Nat.blt 0 s = true) (hp : ev l p = some (.slice none 0 0))
    (hsrc : Src μ l L q m news) (hl : news.length = m * s) (h1 : ∀ u ∈ news, u.oneCell' = true) (hroom : m * bytes ≤ 140737488355328) (hlen : m ≤ 140737488355328)
    (h : ∀ v, G P X ops Q rest μ ((d, v) :: l) (.inr ⟨v, e, s, m, news⟩ :: L)) :
    G P X ops Q (⟨some d, .call { callee := .builtin .append, args := #[p, q], argTypes := #[t, t] }, ty, pos, af, gd⟩ :: rest) μ l L :=
  qY hw fun a w hs' => by
    obtain ⟨A, c, hq, h0, hc⟩ := hsrc
    obtain ⟨v', w', r1, r2, r3, r4⟩ := pC (P := P) (ty := ty) (w := w) (t := t) ht hs hz hzs hby (by simpa using hpos) (v := .slice none 0 0) (n := 0) (xs := []) ⟨by simp, .inl ⟨rfl, rfl⟩⟩ (c := c) hl h0 (fun ad e => hc ad e a w hs'.rd) h1 (by simpa using hroom) (by simpa using hlen)
    unfold Oper.wp
    rw [oQ (hs'.eval hp) (hs'.eval hq) r1, Oper.upon_value]
    refine h v' _ _ (St.put (hs'.CU (by simpa using r2) r3 (fun b hb => ?_)) hn _)
    rcases r4 with r4 | r4
    · rw [r4] at hb; simp [Value.ownBlock] at hb
    · rw [r4] at hb; cases hb; exact Nat.le_refl _
theorem HE {p q : Operand} {t : TypeId} {s bytes m : Nat} {z : Value} {news : List Value} {r : Rw} (i : Nat) (hn : Nat.blt d X.n = true) (hw : cV ops l ⟨some d, .call { callee := .builtin .append, args := #[p, q], argTypes := #[t, t] }, ty, pos, af, gd⟩ = some true)
    (hi : dE L i = some (.inr r)) (ht : P.underlying t = some (.slice r.e)) (hs : dR P r.e = some s) (hrs : r.s = s) (hz : gB P r.e = some z) (hzs : z.cells.toList.length = s) (hby : sJ P r.e = some bytes) (hpos : Nat.blt 0 s = true) (hp : ev l p = some r.v)
    (hsrc : Src μ l L q m news) (hl : news.length = m * s) (h1 : ∀ u ∈ news, u.oneCell' = true) (hroom : (r.n + m) * bytes ≤ 140737488355328) (hlen : r.n + m ≤ 140737488355328)
    (h : ∀ v, G P X ops Q rest μ ((d, v) :: l) (dG L i (.inr ⟨v, r.e, r.s, r.n + m, r.xs ++ news⟩))) :
    G P X ops Q (⟨some d, .call { callee := .builtin .append, args := #[p, q], argTypes := #[t, t] }, ty, pos, af, gd⟩ :: rest) μ l L :=
  qY hw fun a w hs' => by
    obtain ⟨A, c, hq, h0, hc⟩ := hsrc
    have hown : w.ownsRow 0 r.e r.s r.v r.n r.xs := hs'.own _ (bO hi)
    rw [hrs] at hown
    obtain ⟨v', w', r1, r2, r3, r4⟩ := pC (P := P) (ty := ty) (w := w) (t := t) ht hs hz hzs hby (by simpa using hpos) hown (c := c) hl h0 (fun ad e => hc ad e a w hs'.rd) h1 hroom hlen
    unfold Oper.wp
    rw [oQ (hs'.eval hp) (hs'.eval hq) r1, Oper.upon_value]
    refine h v' _ _ (St.put (hs'.upd hi r3.os r3.tape r3.output r3.size (fun b hb hne => r3.block b hb (fun e => hne e.symm)) (y := .inr ⟨v', r.e, r.s, r.n + m, r.xs ++ news⟩) (by rw [← hrs] at r2; exact r2) (fun b hb => ?_)) hn _)
    rcases r4 with r4 | r4
    · exact .inl (r4.symm.trans hb)
    · have : v'.ownBlock = some b := hb
      rw [r4] at this; cases this; exact .inr (Nat.le_refl _)
theorem XF {q : Operand} {y : Blk} {m c : Nat} {news : List Value} (i : Nat) (hi : dE L i = some (.inl y)) (hq : ev l q = some (.slice (some ⟨y.b, 0, none⟩) m c)) (hc : LC y.cs 0 y.sz news) : Src μ l L q m news :=
  ⟨_, _, hq, (fun h => by cases h), fun ad e a w hr j u hu => by
    cases e
    rw [add_lit]
    exact hr.cell (bO hi) (hc.get j u hu)⟩
theorem IK {α : Type} {enc : α → List Value} {sz m c : Nat} {q : Operand} {A : Option Addr} {xs : List α} (hq : ev l q = some (.slice A m c)) (h : Sl enc sz μ A m xs) (he : ∀ x ∈ xs, (enc x).length = sz) : Src μ l L q m (xs.flatMap enc) := by
  refine ⟨A, c, hq, fun e => ?_, fun ad e a w hr j u hu => ?_⟩
  · have hm : m = 0 := by
      rcases Nat.eq_zero_or_pos m with h0 | h0
      · exact h0
      · obtain ⟨ad, e', _⟩ := h.2 h0
        rw [e] at e'; cases e'
    exact ⟨hm, by rw [List.eq_nil_of_length_eq_zero (h.1.trans hm)]; rfl⟩
  · have key : ∀ (xs : List α) (k : Nat), (∀ x ∈ xs, (enc x).length = sz) → (∀ i x, xs[i]? = some x → cQ μ (ad.add ((k + i) * sz)) (enc x)) → ∀ j u, (xs.flatMap enc)[j]? = some u → iF μ (ad.add (k * sz + j)) u := by
      intro xs
      induction xs with
      | nil => intro k _ _ j u hu; simp at hu
      | cons x xs ih =>
        intro k he hc j u hu
        have hx := he x (by simp)
        simp only [List.flatMap_cons] at hu
        by_cases hj : j < sz
        · rw [List.getElem?_append_left (by omega)] at hu
          exact (by simpa using hc 0 x rfl : cQ μ (ad.add (k * sz)) (enc x)).at j hu
        · rw [List.getElem?_append_right (by omega), hx] at hu
          have := ih (k + 1) (fun y hy => he y (by simp [hy])) (fun i y hy => by rw [show k + 1 + i = k + (i + 1) by omega]; exact hc (i + 1) y (by simpa using hy)) (j - sz) u hu
          rw [Nat.add_mul, Nat.one_mul, show k * sz + sz + (j - sz) = k * sz + j by omega] at this
          exact this
    have hm : 0 < m := by
      rcases Nat.eq_zero_or_pos m with h0 | h0
      · have : xs = [] := List.eq_nil_of_length_eq_zero (h.1.trans h0)
        subst this; simp at hu
      · exact h0
    obtain ⟨ad', e', hc⟩ := h.2 hm
    rw [e] at e'; cases e'
    have := key xs 0 he (fun i x hx => by simpa using hc i x hx) j u hu
    simp only [Nat.zero_mul, Nat.zero_add] at this
    exact hr.TF this
theorem Rw.sl {α : Type} {enc : α → List Value} {r : Rw} {xs : List α} (h : Bk.sh (.inr r) μ) (hn : xs.length = r.n) (he : ∀ x ∈ xs, (enc x).length = r.s) (hx : r.xs = xs.flatMap enc) : ∃ A c, r.v = .slice A r.n c ∧ Sl enc r.s μ A r.n xs ∧ c ≤ maxLen := by
  rcases h.2 with ⟨h1, h2⟩ | ⟨g, cap, cur, h1, h2, h3, h4, h5, h6⟩
  · exact ⟨none, 0, by rw [h1, h2], ⟨hn, fun h => by omega⟩, by simp⟩
  · refine ⟨_, _, h1, ⟨hn, fun _ => ⟨_, rfl, fun i x hi => ?_⟩⟩, h4⟩
    rw [hx] at h6
    have key : ∀ (xs : List α) (i : Nat) (x : α), (∀ x ∈ xs, (enc x).length = r.s) → xs[i]? = some x → ∀ j v, (enc x)[j]? = some v → (xs.flatMap enc)[i * r.s + j]? = some v := by
      intro xs
      induction xs with
      | nil => intro i x _ h; simp at h
      | cons y xs ih =>
        intro i x he hi j v hj
        have hy := he y (by simp)
        cases i with
        | zero =>
          simp at hi; subst hi
          simp only [List.flatMap_cons, Nat.zero_mul, Nat.zero_add]
          rw [List.getElem?_append_left (List.getElem?_eq_some_iff.1 hj).1]; exact hj
        | succ i =>
          simp only [List.flatMap_cons]
          rw [List.getElem?_append_right (by rw [hy, Nat.add_mul]; omega), hy, show (i + 1) * r.s + j - r.s = i * r.s + j by rw [Nat.add_mul]; omega]
          exact ih i x (fun z hz => he z (by simp [hz])) (by simpa using hi) j v hj
    intro j v hj
    have hk := key xs i x he hi j v hj
    rw [iE, add_lit]
    refine ⟨cur, r.e, (0, 0), h2, rfl, ?_⟩
    rw [← h6, List.getElem?_take] at hk
    split at hk
    · simpa using hk
    · cases hk
theorem St.uJ (h : St X μ l L a w) (e s : TypeId) : St X μ l (.inr ⟨.slice none 0 0, e, s, 0, []⟩ :: L) a w :=
  h.CU ⟨by simp, .inl ⟨rfl, rfl⟩⟩ (World.grownBy.refl w _) (fun b hb => by simp [Value.ownBlock] at hb)
theorem St.LM {b t n s : Nat} {cs : aI} {xs : List Value} (h : St X μ l (.inl ⟨b, t, n * s, cs⟩ :: L) a w) (hc : LC cs 0 (n * s) xs) (hn : n ≤ maxLen) : St X μ l (.inr ⟨.slice (some ⟨b, 0, none⟩) n n, t, s, n, xs⟩ :: L) a w := by
  obtain ⟨arr, h1, h2, h3⟩ := h.own _ (List.Mem.head _)
  have h1' : w.heap[b]? = some (.cells arr t (0, 0)) := h1
  have h2' : arr.size = n * s := h2
  have hrow : w.ownsRow 0 t s (.slice (some ⟨b, 0, none⟩) n n) n xs := by
    refine ⟨hc.len, .inr ⟨b, n, arr, rfl, Nat.zero_le _, h1', Nat.le_refl _, hn, h2', ?_⟩⟩
    apply List.ext_getElem?
    intro i
    rw [List.getElem?_take]
    by_cases hi : i < n * s
    · have hlt : i < xs.length := by rw [hc.len]; exact hi
      have hx : xs[i]? = some xs[i] := List.getElem?_eq_getElem hlt
      have := h3 i _ (by simpa using hc.get i _ hx)
      rw [if_pos hi, hx]; simpa using this
    · rw [if_neg hi, List.getElem?_eq_none (by rw [hc.len]; omega)]
  have := h.upd (i := 0) (x := .inl ⟨b, t, n * s, cs⟩) (y := .inr ⟨.slice (some ⟨b, 0, none⟩) n n, t, s, n, xs⟩) rfl rfl rfl rfl (Nat.le_refl _) (fun _ _ _ => rfl) hrow (fun b' hb' => .inl hb')
  exact this
def mV (w : World) (e : TypeId) (s n : Nat) (xs : List Value) (en : Ending) (w' : World) : Prop := ∃ v, en = .returned v ∧ w'.ownsRow w.heap.size e s v n xs ∧ Below w.heap.size w w'
theorem nU {fn : Func} {t n e s m : Nat} {v : Value} {μ0 : Mem} {xs : List Value} (i : Nat) (hr : fn.results = #[.tmp t]) (hv : lk l t = some v) (hi : dE L i = some (.inr ⟨v, e, s, m, xs⟩)) :
    GQ ⟨w, μ0, [], n⟩ (bodyPost P fn (mV w e s m xs)) .ret μ l L := fun a w' hs => by
  have h1 := hs.slots _ _ hv
  have hm := bO hi
  have hown : w'.ownsRow 0 e s v m xs := hs.own _ hm
  refine ⟨hs.defers.none (by simp), v, by simp [results, hr, h1], v, rfl, ⟨hown.1, hown.2.imp (fun h => h) ?_⟩, hs.cO.below⟩
  rintro ⟨g, cap, cur, hv', _, h3⟩
  refine ⟨g, cap, cur, hv', ?_, h3⟩
  rcases hs.new _ hm g (by simp [Bk.id, hv', Value.ownBlock]) with h4 | h4
  · simp at h4
  · exact h4
theorem St.QT (h : St X μ l L a w) {v : Value} {w' : World} {e : TypeId} {s n : Nat} {xs : List Value} (hr : w'.ownsRow w.heap.size e s v n xs) (hb : Below w.heap.size w w') : St X μ l (.inr ⟨v, e, s, n, xs⟩ :: L) a w' := by
  refine h.CU ⟨hr.1, hr.2.imp (fun h => h) ?_⟩ ⟨hb.os, hb.tape, hb.output, hb.size, fun b hb' _ => hb.block b hb'⟩ (fun b hb' => ?_)
  · rintro ⟨g, cap, cur, hv', _, h3⟩
    exact ⟨g, cap, cur, hv', Nat.zero_le _, h3⟩
  · rcases hr.2 with ⟨h1, _⟩ | ⟨g, cap, cur, hv', h4, _⟩
    · rw [h1] at hb'; simp [Value.ownBlock] at hb'
    · rw [hv'] at hb'; simp [Value.ownBlock] at hb'; omega
theorem vN {f : FuncId} {vs : Array Value} {e s n : Nat} {xs : List Value} (hd : o.dst = some d) (hn : Nat.blt d X.n = true) (hw : cV ops l o = some true)
    (hr : Ent P μ l L o f vs) (hc : ∀ w μc, MOk μc w → EC μc μ L → Calls P f vs w (mV w e s n xs))
    (h : ∀ v, G P X ops Q rest μ ((d, v) :: l) (.inr ⟨v, e, s, n, xs⟩ :: L)) : G P X ops Q (o :: rest) μ l L :=
  qY hw fun a w hs => by
    unfold Oper.wp
    rw [hr a w hs.rd, Oper.upon_enter]
    refine (hc w _ (fun _ _ h => h) hs.aDv).mono fun en w' he => ?_
    obtain ⟨v, rfl, h1, h2⟩ := he
    show wpList P ops Q rest (a.put o.dst v) w'
    rw [hd]
    exact h v _ _ ((hs.QT h1 h2).put hn _)
theorem St.XJ (h : St X μ l L a w) {i : Nat} {r : Rw} (hi : dE L i = some (.inr r)) (hn : 0 < r.n) : ∃ g cap, r.v = .slice (some ⟨g, 0, none⟩) r.n cap ∧ r.n ≤ cap := by
  have hown : w.ownsRow 0 r.e r.s r.v r.n r.xs := h.own _ (bO hi)
  rcases hown.2 with ⟨_, h2⟩ | ⟨g, cap, cur, h1, _, _, h4, _⟩
  · omega
  · exact ⟨g, cap, h1, h4⟩
theorem jW {v : Value} {e s n : Nat} {ys : List Value} (i : Nat) (hi : dE L i = some (.inr ⟨v, e, s, n, ys⟩)) (hn : 0 < n) (h : ∀ g cap, v = .slice (some ⟨g, 0, none⟩) n cap → n ≤ cap → G P X ops Q rest μ l L) : G P X ops Q rest μ l L := fun a w hs => by
  obtain ⟨g, cap, h1, h2⟩ := hs.XJ hi hn
  exact h g cap h1 h2 a w hs
theorem rX {α : Type} {enc : α → List Value} {v : Value} {e s n : Nat} {ys : List Value} {xs : List α} (h : Bk.sh (.inr ⟨v, e, s, n, ys⟩) μ) (hn : xs.length = n) (he : ∀ x ∈ xs, (enc x).length = s) (hx : ys = xs.flatMap enc) : ∃ A c, v = .slice A n c ∧ Sl enc s μ A n xs := by
  obtain ⟨A, c, h1, h2, _⟩ := Rw.sl (enc := enc) h hn he hx
  exact ⟨A, c, h1, h2⟩
theorem bS {α : Type} {enc : α → List Value} {A : Option Addr} {n c e s : Nat} {ys : List Value} {xs : List α} (h : Bk.sh (.inr ⟨.slice A n c, e, s, n, ys⟩) μ) (hn : xs.length = n) (he : ∀ x ∈ xs, (enc x).length = s) (hx : ys = xs.flatMap enc) : Sl enc s μ A n xs := by
  obtain ⟨A', c', h1, h2, _⟩ := Rw.sl (enc := enc) h hn he hx
  cases h1
  exact h2
theorem Rd.CQ (h : Rd μ l L a w) {g n cap off : Nat} {e s : TypeId} {xs : List Value} {v : Value} (hm : .inr ⟨.slice (some ⟨g, 0, none⟩) n cap, e, s, n, xs⟩ ∈ L) (hv : xs[off]? = some v) : w.cell? ⟨g, off, none⟩ = some v := by
  have hown : w.ownsRow 0 e s (.slice (some ⟨g, 0, none⟩) n cap) n xs := h.own _ hm
  rcases hown.2 with ⟨h1, _⟩ | ⟨g', cap', cur, h1, _, h2, _, _, _, h6⟩
  · cases h1
  · cases h1
    rw [← h6, List.getElem?_take] at hv
    split at hv
    · simpa [World.cell?, h2] using hv
    · cases hv
theorem IC {x : Operand} {v : Value} {t : TypeId} {ds : Option Nat} {g n cap off : Nat} {e s : TypeId} {xs : List Value} (i : Nat) (hag : jH P t = some false)
    (hi : dE L i = some (.inr ⟨.slice (some ⟨g, 0, none⟩) n cap, e, s, n, xs⟩)) (hx : ev l x = some (.pointer (some (Addr.add ⟨g, 0, none⟩ off)))) (hv : xs[off]? = some v) : Val P μ l L ⟨ds, .load t x, ty, pos, af, gd⟩ v :=
  tU hx (fun _ _ hs => lU hag (by rw [add_lit, Nat.zero_add]; exact hs.CQ (bO (i := i) hi) hv))
theorem mG {x : Operand} {t : TypeId} {ds : Option Nat} {g n cap off k : Nat} {e s : TypeId} {xs vs : List Value} (i : Nat) (hag : jH P t = some true) (hsz : dR P t = some k)
    (hi : dE L i = some (.inr ⟨.slice (some ⟨g, 0, none⟩) n cap, e, s, n, xs⟩)) (hx : ev l x = some (.pointer (some (Addr.add ⟨g, 0, none⟩ off)))) (hl : vs.length = k) (hv : ∀ j v, vs[j]? = some v → xs[off + j]? = some v) : Val P μ l L ⟨ds, .load t x, ty, pos, af, gd⟩ (.agg vs.toArray) :=
  tU hx (fun _ _ hs => mL vs hag (by rw [hl]; exact hsz) (fun j v hj => by rw [iE, add_lit, Nat.zero_add]; exact hs.CQ (bO (i := i) hi) (hv j v hj)))
theorem yF (l vs : List Value) (off i : Nat) (h : off + vs.length ≤ l.length) : (l.take off ++ vs ++ l.drop (off + vs.length))[i]? = if i < off then l[i]? else if i < off + vs.length then vs[i - off]? else l[i]? := by
  have h1 : (l.take off).length = off := by simp; omega
  by_cases a : i < off
  · rw [if_pos a, List.append_assoc, List.getElem?_append_left (by omega), List.getElem?_take, if_pos a]
  · rw [if_neg a]
    by_cases b : i < off + vs.length
    · rw [if_pos b, List.append_assoc, List.getElem?_append_right (by omega), List.getElem?_append_left (by omega), h1]
    · rw [if_neg b, List.getElem?_append_right (by simp; omega), List.getElem?_drop]
      congr 1
      simp; omega
theorem CH {cur xs vs : List Value} {k off : Nat} (h : cur.take k = xs) (ho : off + vs.length ≤ xs.length) :
    (cur.take off ++ vs ++ cur.drop (off + vs.length)).take k = xs.take off ++ vs ++ xs.drop (off + vs.length) := by
  have hl : xs.length = min k cur.length := by rw [← h]; simp
  apply List.ext_getElem?
  intro i
  rw [List.getElem?_take, yF _ _ _ _ (by omega), yF _ _ _ _ ho]
  by_cases hi : i < k
  · have e : xs[i]? = cur[i]? := by rw [← h, List.getElem?_take, if_pos hi]
    rw [if_pos hi, e]
  · have e : xs[i]? = none := by rw [← h, List.getElem?_take, if_neg hi]
    rw [if_neg hi, if_neg (by omega), if_neg (by omega), e]
theorem HB {x q : Operand} {t : TypeId} {off n g cap m e s : Nat} {xs : List Value} {v : Value} (i : Nat) (hw : cV ops l ⟨none, .store t q x, ty, pos, af, gd⟩ = some true) (hsz : dR P t = some n)
    (hi : dE L i = some (.inr ⟨.slice (some ⟨g, 0, none⟩) m cap, e, s, m, xs⟩)) (hq : ev l q = some (.pointer (some (Addr.add ⟨g, 0, none⟩ off)))) (hx : ev l x = some v) (hlen : v.cells.toList.length = n) (hone : v.cells.toList.all (·.oneCell') = true)
    (hfit : off + n ≤ xs.length)
    (h : G P X ops Q rest μ l (dG L i (.inr ⟨.slice (some ⟨g, 0, none⟩) m cap, e, s, m, xs.take off ++ v.cells.toList ++ xs.drop (off + n)⟩))) : G P X ops Q (⟨none, .store t q x, ty, pos, af, gd⟩ :: rest) μ l L :=
  qY hw fun a w hs => by
    have e0 := hs.eval hq
    have e1 := hs.eval hx
    rw [add_lit, Nat.zero_add] at e0
    have hown : w.ownsRow 0 e s (.slice (some ⟨g, 0, none⟩) m cap) m xs := hs.own _ (bO hi)
    rcases hown.2 with ⟨h1, _⟩ | ⟨g', cap', cur, h1, hb0, hh, h3, h4, h5, h6⟩
    · cases h1
    cases h1
    have hcl : xs.length ≤ cur.size := by rw [← h6]; simp; omega
    have hrow := run_storeCells_at (P := P) g off e v.cells.toList 0 cur w hh (by rw [hlen]; omega) (List.all_eq_true.1 hone)
    have hrun : (Instr.storeAt t (.pointer (some ⟨g, off, none⟩)) v).run P w = .ok () (w.setRow g (cur.toList.take (off + 0) ++ v.cells.toList ++ cur.toList.drop (off + 0 + v.cells.toList.length)).toArray) := by
      have hl' : ¬ v.cells.size ≠ n := by simpa using hlen
      simp only [Instr.storeAt, Instr.sureAddr, storeVar, Sem.run_bind, Sem.run_pure, Result.andThen_ok, run_sizeOf hsz, if_neg hl']
      exact hrow
    unfold Oper.wp
    generalize hρ : a.eval = ρ at e0 e1
    have hex : (execOp ρ ⟨none, .store t q x, ty, pos, af, gd⟩).run P w = .ok .skip (w.setRow g (cur.toList.take (off + 0) ++ v.cells.toList ++ cur.toList.drop (off + 0 + v.cells.toList.length)).toArray) := by
      simp only [execOp, e0, e1, Sem.run_bind, hrun, Result.andThen_ok]; rfl
    rw [hex, Oper.upon_skip]
    simp only [Nat.add_zero] at *
    refine h _ _ ((hs.upd (w' := w.setRow g (cur.toList.take off ++ v.cells.toList ++ cur.toList.drop (off + v.cells.toList.length)).toArray) hi rfl rfl rfl (by simp) (fun b _ hb => setRow_other w g b _ (fun e => hb (by rw [e]; rfl))) (y := .inr ⟨.slice (some ⟨g, 0, none⟩) m cap, e, s, m, xs.take off ++ v.cells.toList ++ xs.drop (off + n)⟩) ?_ (fun b hb => .inl hb)).FI _)
    refine ⟨?_, .inr ⟨g, cap, _, rfl, Nat.zero_le _, setRow_heap w g cur _ e (0, 0) hh, h3, h4, ?_, ?_⟩⟩
    · have := hown.1
      simp only [List.length_append, List.length_take, List.length_drop, hlen]
      show _ = m * s
      rw [← this]; omega
    · simp only [List.size_toArray, List.length_append, List.length_take, List.length_drop, hlen, Array.length_toList]
      rw [← h5]; omega
    · have := CH (vs := v.cells.toList) h6 (by rw [hlen]; exact hfit)
      rw [hlen] at this ⊢
      simpa using this
end
section drawn
variable {P : Program} {X : Ctx} {ops : Array Oper} {Q : Exit → Act → World → Prop} {μ μr : Mem} {l : aI} {L : List Bk} {a : Act} {w : World} {o : Oper} {d fuel i : Nat} {listed : Array Bool}
variable {ty : TypeId} {pos : String} {af : Array Edge} {gd : Option (Nat × Bool)}
end drawn
end Go.Vcg
set_option maxRecDepth 20000
namespace Go.Vcg
open Go.RowKit
section
variable {P : Program} {μ : Mem} {l : aI} {L : List Bk} {w : World} {ds : Option Nat} {ty : TypeId} {pos : String} {af : Array Edge} {gd : Option (Nat × Bool)}
def codeOf : Value → Nat
  | .string _ => 0
  | .bool _ => 1
  | .int _ _ => 2
  | _ => 3
def vP (P : Program) (f : Field) : Nat := match P.underlying f.type with
  | some .string => 0
  | some .bool => 1
  | some (.int _) => 2
  | _ => 4
def gN (P : Program) : Nat → List Field → List Nat → Bool
  | _, [], [] => true
  | k, f :: fs, c :: cs => !(f.name == "_") && Nat.beq f.offset k && Nat.beq (vP P f) c && gN P (k + 1) fs cs
  | _, _, _ => false
def okV : Value → Value → Bool
  | .string _, .string _ => true
  | .bool _, .bool _ => true
  | .int k _, .int k' _ => decide (k = k')
  | _, _ => false
def eqV : Value → Value → Bool
  | .string a, .string b => decide (a = b)
  | .bool a, .bool b => decide (a = b)
  | .int _ a, .int _ b => decide (a = b)
  | _, _ => false
def zR : List Value → List Value → Bool
  | [], [] => true
  | x :: xs, y :: ys => okV x y && zR xs ys
  | _, _ => false
def yP : List Value → List Value → Bool
  | [], [] => true
  | x :: xs, y :: ys => eqV x y && yP xs ys
  | _, _ => false
theorem lT {t : TypeId} {cs : Array Value} {off : Nat} {v : Value} (hag : jH P t = some false) (hc : cs[off]? = some v) : (part t cs off).run P w = .ok v w := by
  simp [part, tZ hag, hc]
theorem rC (d : Nat) (XS YS : Array Value) : ∀ (fs : List Field) (k : Nat) (xs ys : List Value), gN P k fs (xs.map codeOf) = true → zR xs ys = true → (∀ j v, xs[j]? = some v → XS[k + j]? = some v) → (∀ j v, ys[j]? = some v → YS[k + j]? = some v) →
    (Op.eqFields (d + 1) XS YS fs).run P w = .ok (yP xs ys) w
  | [], k, [], [], _, _, _, _ => by simp [Op.eqFields, yP]
  | [], k, [], y :: ys, _, h, _, _ => by simp [zR] at h
  | [], k, x :: xs, ys, h, _, _, _ => by simp [gN] at h
  | f :: fs, k, [], ys, h, _, _, _ => by simp [gN] at h
  | f :: fs, k, x :: xs, [], _, h, _, _ => by simp [zR] at h
  | f :: fs, k, x :: xs, y :: ys, h1, h2, hX, hY => by
    simp only [List.map_cons, gN, Bool.and_eq_true, Bool.not_eq_true'] at h1
    obtain ⟨⟨⟨hn, ho⟩, hc⟩, hr⟩ := h1
    simp only [zR, Bool.and_eq_true] at h2
    have hoff : f.offset = k := Nat.eq_of_beq_eq_true ho
    have hcode : vP P f = codeOf x := Nat.eq_of_beq_eq_true hc
    have hname : f.name ≠ "_" := by simpa using hn
    have hx0 := hX 0 x rfl
    have hy0 := hY 0 y rfl
    simp only [Nat.add_zero] at hx0 hy0
    have hag : jH P f.type = some false := by
      unfold vP at hcode
      unfold jH
      cases hu : P.underlying f.type with
      | none => rw [hu] at hcode; cases x <;> simp [codeOf] at hcode
      | some de => rw [hu] at hcode; cases de <;> first | rfl | (cases x <;> simp [codeOf] at hcode)
    have heq : (Op.equalIn (d + 1) f.type x y).run P w = .ok (eqV x y) w := by
      unfold vP at hcode
      cases x <;> cases y <;> simp [okV] at h2 <;> simp only [codeOf] at hcode <;>
        (cases hu : P.underlying f.type with
         | none => simp [hu] at hcode
         | some de =>
          cases de <;> simp [hu] at hcode
          first
            | (rw [run_equalIn_bool' w d _ _ _ hu]; simp [eqV, Bool.beq_eq_decide_eq])
            | (rw [run_equalIn_string w d _ _ _ hu, uR]; rfl)
            | (obtain ⟨rfl, _⟩ := h2; rw [run_equalIn_int w d _ _ _ _ _ hu]; rfl))
    have ih := rC d XS YS fs (k + 1) xs ys hr h2.2 (fun j v hj => by rw [show k + 1 + j = k + (j + 1) by omega]; exact hX (j + 1) v (by simpa using hj)) (fun j v hj => by rw [show k + 1 + j = k + (j + 1) by omega]; exact hY (j + 1) v (by simpa using hj))
    simp only [Op.eqFields, hname, ne_eq, not_false_eq_true, if_true, Sem.run_bind, hoff, lT hag hx0, lT hag hy0, Result.andThen_ok, heq]
    cases he : eqV x y
    · simp [yP, he]
    · simp [yP, he, ih]
theorem rB {t : TypeId} {xs ys : List Value} (hst : P.underlying t = some (.struct (P.fieldsOf t))) (hp : P.stoodInHeld t = false) (hfs : gN P 0 (P.fieldsOf t).toList (xs.map codeOf) = true) (hv : zR xs ys = true) (w : World) :
    (Op.equalIn 10000 t (.agg xs.toArray) (.agg ys.toArray)).run P w = .ok (yP xs ys) w := by
  rw [run_equalIn_struct w 9999 t _ _ hst hp]
  exact rC 9998 _ _ _ 0 xs ys hfs hv (fun j v hj => by simpa using hj) (fun j v hj => by simpa using hj)
theorem RP {p q : Operand} {t t2 : TypeId} {xs ys : List Value} (hx0 : ev l p = some (.agg xs.toArray)) (hx1 : ev l q = some (.agg ys.toArray)) (hv : zR xs ys = true) (hst : P.underlying t = some (.struct (P.fieldsOf t))) (hp : P.stoodInHeld t = false) (hg : P.eqGuardType P.depth t = false)
    (hfs : gN P 0 (P.fieldsOf t).toList (xs.map codeOf) = true) : Val P μ l L ⟨ds, .binOp .eql t p q t2, ty, pos, af, gd⟩ (.bool (yP xs ys)) := fun a w hs => by
  have e0 := hs.eval hx0
  have e1 := hs.eval hx1
  generalize a.eval = ρ at e0 e1
  simp [execOp, e0, e1, run_eqGuard_agg w _ _ _ _ _ _ hg, run_eql_struct, rB hst hp hfs hv]
theorem aA8 {p q : Operand} {t t2 : TypeId} {x y : Bool} (ht : P.underlying t = some .bool) (hx0 : ev l p = some (.bool x)) (hx1 : ev l q = some (.bool y)) : Val P μ l L ⟨ds, .binOp .eql t p q t2, ty, pos, af, gd⟩ (.bool (decide (x = y))) := fun a w hs => by
  have e0 := hs.eval hx0
  have e1 := hs.eval hx1
  generalize a.eval = ρ at e0 e1
  have h := run_equalIn_bool' (P := P) w 9999 t x y ht
  simp [execOp, e0, e1, eqGuard, binOp, Op.equal, Op.maxDepth, h, Bool.beq_eq_decide_eq]
theorem aA7 {p q : Operand} {t t2 : TypeId} {x y : Bool} (ht : P.underlying t = some .bool) (hx0 : ev l p = some (.bool x)) (hx1 : ev l q = some (.bool y)) : Val P μ l L ⟨ds, .binOp .neq t p q t2, ty, pos, af, gd⟩ (.bool (decide (x ≠ y))) := fun a w hs => by
  have e0 := hs.eval hx0
  have e1 := hs.eval hx1
  generalize a.eval = ρ at e0 e1
  have h := run_equalIn_bool' (P := P) w 9999 t x y ht
  simp [execOp, e0, e1, eqGuard, binOp, Op.equal, Op.maxDepth, h, Bool.beq_eq_decide_eq]
end
end Go.Vcg
set_option maxRecDepth 20000
namespace Go.Vcg
open Go.RowKit
section
variable {P : Program} {X : Ctx} {ops : Array Oper} {Q : Exit → Act → World → Prop} {rest : List Oper} {μ μr : Mem} {l : aI} {L Lr : List Bk} {a : Act} {w : World} {o : Oper} {d fuel i : Nat} {listed : Array Bool}
variable {ty : TypeId} {pos : String} {af : Array Edge} {gd : Option (Nat × Bool)}
theorem St.aE8 {b t : Nat} {cs : aI} (s : Nat) (h : St X μ l (.inl ⟨b, t, 0, cs⟩ :: L) a w) : St X μ l (.inr ⟨.slice (some ⟨b, 0, none⟩) 0 0, t, s, 0, []⟩ :: L) a w := by
  have e : (0 : Nat) = 0 * s := by simp
  rw [e] at h
  have hc : LC cs 0 (0 * s) [] := by rw [← e]; exact aJ
  exact h.LM hc (by simp)
theorem UI {b t : Nat} {cs : aI} (s : Nat) (h : G P X ops Q rest μ l (.inr ⟨.slice (some ⟨b, 0, none⟩) 0 0, t, s, 0, []⟩ :: L)) : G P X ops Q rest μ l (.inl ⟨b, t, 0, cs⟩ :: L) := fun a w hs => h a w (hs.aE8 s)
end
end Go.Vcg
set_option maxRecDepth 20000
namespace Go.Vcg
open Go.RowKit
section
variable {P : Program} {X : Ctx} {ops : Array Oper} {Q : Exit → Act → World → Prop} {rest : List Oper} {μ μr : Mem} {l : aI} {L Lr : List Bk} {a : Act} {w : World} {o : Oper} {d fuel i : Nat} {listed : Array Bool}
variable {ty : TypeId} {pos : String} {af : Array Edge} {gd : Option (Nat × Bool)}
theorem aCk {e : Exit} {l' : aI} {L' : List Bk} (hl : nC l' l) (hL : L'.Sublist L) (h : GQ X Q e μ l' L') : GQ X Q e μ l L := fun a w hs => h a w (hs.sub hl hL)
theorem jO {k : Nat} {y : Nat} {c : BoundsCode} (h : k ≤ y) (w : World) : (Instr.sliceBound (.int .i64 (k : Int)) y c).run P w = .ok k w := by
  have : (0 : Int) ≤ k ∧ (k : Int) ≤ y := by omega
  simp [Instr.sliceBound, asIntOf, this]
theorem wR {p q : Operand} {t e s : TypeId} {A : Option Addr} {n c : Nat} {j : Int} {ds : Option Nat} (k : Nat) (ht : P.underlying t = some (.slice e)) (hs : dR P e = some s) (hx : ev l p = some (.slice A n c)) (hq : ev l q = some (.int .i64 j)) (hj : j = (k : Int)) (hk : k ≤ c) :
    Val P μ l L ⟨ds, .slice t p none (some q) none, ty, pos, af, gd⟩ (.slice A k c) := fun a w hr => by
  have e0 := hr.eval hx
  have e1 := hr.eval hq
  generalize a.eval = ρ at e0 e1
  subst hj
  have hA : A.map (·.add (0 * s)) = A := by cases A <;> simp [Addr.add]
  simp only [Nat.zero_mul] at hA
  simp [execOp, e0, e1, Instr.sliceAt, Instr.slice, run_underlying ht, Instr.sliceBounds, run_sizeOf hs, jO hk, hA]
theorem eE {p q : Operand} {t e s : TypeId} {A : Option Addr} {n c : Nat} {j : Int} {ds : Option Nat} (k : Nat) (ht : P.underlying t = some (.slice e)) (hs : dR P e = some s) (hx : ev l p = some (.slice A n c)) (hq : ev l q = some (.int .i64 j)) (hj : j = (k : Int)) (hk : k ≤ n) :
    Val P μ l L ⟨ds, .slice t p (some q) none none, ty, pos, af, gd⟩ (.slice (if c = k then A else A.map (·.add (k * s))) (n - k) (c - k)) := fun a w hr => by
  have e0 := hr.eval hx
  have e1 := hr.eval hq
  generalize a.eval = ρ at e0 e1
  subst hj
  simp [execOp, e0, e1, Instr.sliceAt, Instr.slice, run_underlying ht, Instr.sliceBounds, run_sizeOf hs, jO hk]
theorem CC {p q r : Operand} {t e s : TypeId} {A : Option Addr} {n c : Nat} {j i : Int} {ds : Option Nat} (k m : Nat) (ht : P.underlying t = some (.slice e)) (hs : dR P e = some s) (hx : ev l p = some (.slice A n c)) (hq : ev l q = some (.int .i64 j)) (hj : j = (k : Int)) (hr' : ev l r = some (.int .i64 i)) (hi : i = (m : Int)) (hk : k ≤ m) (hm : m ≤ c) :
    Val P μ l L ⟨ds, .slice t p (some q) (some r) none, ty, pos, af, gd⟩ (.slice (if c = k then A else A.map (·.add (k * s))) (m - k) (c - k)) := fun a w hr => by
  have e0 := hr.eval hx
  have e1 := hr.eval hq
  have e2 := hr.eval hr'
  generalize a.eval = ρ at e0 e1 e2
  subst hj hi
  simp [execOp, e0, e1, e2, Instr.sliceAt, Instr.slice, run_underlying ht, Instr.sliceBounds, run_sizeOf hs, jO hk, jO hm]
theorem wQ {p q : Operand} {t : TypeId} {b : ByteArray} {j : Int} {ds : Option Nat} (k : Nat) (ht : P.underlying t = some .string) (hx : ev l p = some (.string b)) (hq : ev l q = some (.int .i64 j)) (hj : j = (k : Int)) (hk : k ≤ b.size) :
    Val P μ l L ⟨ds, .slice t p none (some q) none, ty, pos, af, gd⟩ (.string (b.extract 0 k)) := fun a w hr => by
  have e0 := hr.eval hx
  have e1 := hr.eval hq
  generalize a.eval = ρ at e0 e1
  subst hj
  simp [execOp, e0, e1, Instr.sliceAt, Instr.slice, run_underlying ht, Instr.sliceBounds, jO hk]
theorem HZ {p q r : Operand} {t : TypeId} {b : ByteArray} {j i : Int} {ds : Option Nat} (k m : Nat) (ht : P.underlying t = some .string) (hx : ev l p = some (.string b)) (hq : ev l q = some (.int .i64 j)) (hj : j = (k : Int)) (hr' : ev l r = some (.int .i64 i)) (hi : i = (m : Int)) (hk : k ≤ m) (hm : m ≤ b.size) :
    Val P μ l L ⟨ds, .slice t p (some q) (some r) none, ty, pos, af, gd⟩ (.string (b.extract k m)) := fun a w hr => by
  have e0 := hr.eval hx
  have e1 := hr.eval hq
  have e2 := hr.eval hr'
  generalize a.eval = ρ at e0 e1 e2
  subst hj hi
  simp [execOp, e0, e1, e2, Instr.sliceAt, Instr.slice, run_underlying ht, Instr.sliceBounds, jO hk, jO hm]
theorem Sl.take {α : Type} {enc : α → List Value} {s n k : Nat} {A : Option Addr} {xs : List α} (h : Sl enc s μ A n xs) (hk : k ≤ n) : Sl enc s μ A k (xs.take k) := by
  refine ⟨by simp [h.1]; omega, fun hp => ?_⟩
  obtain ⟨ad, e, hc⟩ := h.2 (by omega)
  exact ⟨ad, e, fun i x hi => hc i x (by rw [List.getElem?_take] at hi; split at hi <;> simp_all)⟩
theorem Sl.drop {α : Type} {enc : α → List Value} {s n k c : Nat} {A : Option Addr} {xs : List α} (h : Sl enc s μ A n xs) (hk : k ≤ n) (hc : n ≤ c) : Sl enc s μ (if c = k then A else A.map (·.add (k * s))) (n - k) (xs.drop k) := by
  refine ⟨by simp [h.1], fun hp => ?_⟩
  obtain ⟨ad, e, hc⟩ := h.2 (by omega)
  rw [if_neg (by omega), e]
  refine ⟨_, rfl, fun i x hi => ?_⟩
  have := hc (k + i) x (by simpa using hi)
  rw [Nat.add_mul, ← iE] at this
  exact this
theorem Bk.cap {A : Option Addr} {n c e s m : Nat} {xs : List Value} (h : Bk.sh (.inr ⟨.slice A n c, e, s, m, xs⟩) μ) : n ≤ c := by
  rcases h.2 with ⟨h1, _⟩ | ⟨g, cap, cur, h1, _, h3, _⟩
  · simp at h1; omega
  · simp at h1 h3; omega
end
end Go.Vcg
set_option maxRecDepth 20000
namespace Go.Vcg
open Go.RowKit
section
variable {P : Program} {X : Ctx} {ops : Array Oper} {Q : Exit → Act → World → Prop} {rest : List Oper} {μ μr : Mem} {l : aI} {L Lr : List Bk} {a : Act} {w : World} {o : Oper} {d fuel i : Nat} {listed : Array Bool}
variable {ty : TypeId} {pos : String} {af : Array Edge} {gd : Option (Nat × Bool)} {ds : Option Nat}
def QA (Q : Exit → Act → World → Prop) (R : Act → World → Prop) : Exit → Act → World → Prop
  | .normal, a, w => R a w
  | .exit id, a, w => Q (.exit id) a w
  | .goto k, a, w => Q (.goto k) a w
  | .ret, a, w => Q .ret a w
  | .panic c, a, w => Q (.panic c) a w
  | .outgrown, a, w => Q .outgrown a w
theorem aDb {R K : Act → World → Prop} (h : o.wp P a w K (QA Q R)) : o.wp P a w K Q := by
  unfold Oper.wp at *
  generalize (execOp a.eval o).run P w = r at *
  cases r with
  | ok n w' =>
    cases n <;> first
      | exact h
      | (refine Calls.mono h (fun e w'' he => ?_)
         cases e with
         | returned v => exact he
         | panicked c => exact he
         | outgrown => obtain ⟨a', w3, h'⟩ := he; exact ⟨a', w3, h'⟩)
  | halt x w' => cases x <;> exact h
theorem aCo (ho : nH ops.toList i = some o) (h : G P X ops (QA Q (fun a w => Sm μr Lr w ∧ wpAnyH P .any ops Q (Sm μr Lr) fuel (listed.setIfInBounds i true) a w)) [o] μ l L) : bX P X μr Lr ops Q fuel listed i μ l L := fun a w hst hS => by
  have h1 := h a w hst
  unfold wpOp
  simp only [pI ho]
  unfold wpList at h1
  split
  · rename_i hw
    rw [if_pos hw] at h1
    rcases h1 with h1 | ⟨h1, a', w', h2⟩
    · exact .inl (aDb h1)
    · exact .inr ⟨h1, a', w', h2⟩
  · rename_i hw
    rw [if_neg hw] at h1
    exact h1
theorem UJ (hle : MLe μr μ) (hLr : Lr.Sublist L) (h : GA P X μr Lr ops Q fuel listed μ l L) : G P X ops (QA Q (fun a w => Sm μr Lr w ∧ wpAnyH P .any ops Q (Sm μr Lr) fuel listed a w)) [] μ l L := fun a w hs =>
  have hS : Sm μr Lr w := ⟨fun b x e => hs.mem b x (hle b x e), fun x hx => hs.own x (hLr.subset hx)⟩
  ⟨hS, h a w hs hS⟩
theorem St.perm {L' : List Bk} (h : St X μ l L a w) (hp : L'.Perm L) : St X μ l L' a w :=
  ⟨h.size, h.defers, h.slots, h.cO, h.mem, h.from0, h.fresh, fun x hx => h.own x (hp.subset hx), fun x hx => h.priv x (hp.subset hx), fun x hx => h.new x (hp.subset hx),
    (hp.pairwise_iff (fun {_ _} hxy b hb hb' => hxy b hb' hb)).2 h.diff⟩
theorem St.wF {L' : List Bk} {y : Bk} (h : St X μ l L a w) (hp : (y :: L').Perm L) (hM : X.M = X.M) : ∃ μ', MLe μ μ' ∧ Bk.sh y μ' ∧ St X μ' l L' a w := (h.perm hp).aAh hM
theorem uM {y : Bk} {L : List Bk} (hM : X.M = X.M) (h : ∀ μ', MLe μ μ' → Bk.sh y μ' → G P X ops Q rest μ' l (L)) : G P X ops Q rest μ l (y :: L) := fun a w hs => by
  obtain ⟨μ', h1, h2, h3⟩ := hs.wF (L' := L) (List.perm_middle (l₁ := [])).symm hM
  exact h μ' h1 h2 a w h3
theorem jV {c : Code} {y : Bk} {L : List Bk} (hM : X.M = X.M) (h : ∀ μ', MLe μ μ' → Bk.sh y μ' → GC P X c Q μ' l (L)) : GC P X c Q μ l (y :: L) := fun a w hs => by
  obtain ⟨μ', h1, h2, h3⟩ := hs.wF (L' := L) (List.perm_middle (l₁ := [])).symm hM
  exact h μ' h1 h2 a w h3
theorem sC {e : Exit} {y : Bk} {L : List Bk} (hM : X.M = X.M) (h : ∀ μ', MLe μ μ' → Bk.sh y μ' → GQ X Q e μ' l (L)) : GQ X Q e μ l (y :: L) := fun a w hs => by
  obtain ⟨μ', h1, h2, h3⟩ := hs.wF (L' := L) (List.perm_middle (l₁ := [])).symm hM
  exact h μ' h1 h2 a w h3
theorem sB {e : Exit} {y : Bk} {y0 : Bk} {L : List Bk} (hM : X.M = X.M) (h : ∀ μ', MLe μ μ' → Bk.sh y μ' → GQ X Q e μ' l (y0 :: L)) : GQ X Q e μ l (y0 :: y :: L) := fun a w hs => by
  obtain ⟨μ', h1, h2, h3⟩ := hs.wF (L' := y0 :: L) (List.perm_middle (l₁ := [y0])).symm hM
  exact h μ' h1 h2 a w h3
def ResultVar.get (tmps : Array Value) : ResultVar → Sem Value
  | .tmp t => pure (tmps.getD t undef)
  | .cell a t => do loadVar t (← asAddr (tmps.getD a undef))
def RV (P : Program) (μ : Mem) (l : aI) (L : List Bk) (r : ResultVar) (v : Value) : Prop := ∀ a w, Rd μ l L a w → (ResultVar.get a.tmps r).run P w = .ok v w
theorem bJ {t : Nat} {v : Value} (h : lk l t = some v) : RV P μ l L (.tmp t) v := fun a w hr => by
  have h1 := hr.slots _ _ h
  simp [ResultVar.get, h1]
theorem nT {t : Nat} {b s : Nat} {tt : TypeId} {y : Blk} {vs : List Value} (i : Nat) (h : lk l t = some (.pointer (some ⟨b, 0, none⟩))) (hag : jH P tt = some true) (hsz : dR P tt = some s) (hi : dE L i = some (.inl y)) (hb : y.b = b) (hc : LC y.cs 0 s vs) : RV P μ l L (.cell t tt) (.agg vs.toArray) := fun a w hr => by
  have h1 := hr.slots _ _ h
  subst hb
  have := mL (P := P) (w := w) (t := tt) (A := ⟨y.b, 0, none⟩) vs hag (by rw [hc.len]; exact hsz) (fun j v hv => by rw [add_lit]; exact hr.cell (bO (i := i) hi) (by simpa using hc.get j v hv))
  simp only [Instr.loadAt, Instr.sureAddr, Sem.run_bind, Sem.run_pure, Result.andThen_ok] at this
  simp [ResultVar.get, h1, asAddr, this]
theorem results1 {fn : Func} {r : ResultVar} {v : Value} (hr : fn.results = #[r]) (h : RV P μ l L r v) (hs : Rd μ l L a w) : (results fn a.tmps).run P w = .ok v w := by
  have h1 := h a w hs
  cases r <;> simp [results, hr, ResultVar.get] at h1 ⊢ <;> exact h1
theorem mT {α β γ : Type} {x : Result α} {f : α → World → Result β} {g : β → World → Result γ} {v : β} {w : World} (h : x.andThen f = .ok v w) : (x.andThen fun a w' => (f a w').andThen g) = g v w := by
  cases x with
  | ok a w' => simp only [Result.andThen_ok] at h ⊢; rw [h]; rfl
  | halt y w' => cases h
theorem results2 {fn : Func} {r r2 : ResultVar} {v v2 : Value} (hr : fn.results = #[r, r2]) (h : RV P μ l L r v) (h' : RV P μ l L r2 v2) (hs : Rd μ l L a w) : (results fn a.tmps).run P w = .ok (.tuple #[v, v2]) w := by
  have h1 := h a w hs
  have h2 := h' a w hs
  cases r <;> cases r2 <;> simp [results, hr, ResultVar.get] at h1 h2 ⊢
  · exact ⟨h1, h2⟩
  · rw [mT h2, h1]
  · rw [mT h1, h2]
  · rw [mT h1, mT h2]
theorem xJ {fn : Func} {n : Nat} {r : ResultVar} {v v' : Value} {μ0 : Mem} (hr : fn.results = #[r]) (h : RV P μ l L r v') (e : v' = v) :
    GQ ⟨w, μ0, [], n⟩ (bodyPost P fn (fun e w' => e = .returned v ∧ Below w.heap.size w w')) .ret μ l L := fun a w' hs =>
  ⟨hs.defers.none (by simp), v', results1 hr h hs.rd, by rw [e], hs.cO.below⟩
theorem rY {fn : Func} {n : Nat} {r r2 : ResultVar} {v v' v2 v2' : Value} {μ0 : Mem} (hr : fn.results = #[r, r2]) (h : RV P μ l L r v') (h' : RV P μ l L r2 v2') (e : v' = v) (e2 : v2' = v2) :
    GQ ⟨w, μ0, [], n⟩ (bodyPost P fn (fun e w' => e = .returned (.tuple #[v, v2]) ∧ Below w.heap.size w w')) .ret μ l L := fun a w' hs =>
  ⟨hs.defers.none (by simp), .tuple #[v', v2'], results2 hr h h' hs.rd, by rw [e, e2], hs.cO.below⟩
theorem mZ {fn : Func} {n : Nat} {r : ResultVar} {v : Value} {μ0 : Mem} {Post : Mem → Value → Prop} (hr : fn.results = #[r]) (h : RV P μ l L r v) (hp : ∀ μ', MLe μ μ' → (∀ x ∈ L, Bk.sh x μ') → Post μ' v) :
    GQ ⟨w, μ0, [], n⟩ (bodyPost P fn (fun e w' => ∃ v μ', e = .returned v ∧ oM w w' μ0 μ' ∧ Post μ' v)) .ret μ l L := fun a w' hs => by
  obtain ⟨μ', hg, hle, hL⟩ := hs.MJ
  exact ⟨hs.defers.none (by simp), v, results1 hr h hs.rd, v, μ', rfl, hg, hp μ' hle hL⟩
theorem CR {fn : Func} {n : Nat} {r r2 : ResultVar} {v v2 : Value} {μ0 : Mem} {Post : Mem → Value → Prop} (hr : fn.results = #[r, r2]) (h : RV P μ l L r v) (h' : RV P μ l L r2 v2) (hp : ∀ μ', MLe μ μ' → (∀ x ∈ L, Bk.sh x μ') → Post μ' (.tuple #[v, v2])) :
    GQ ⟨w, μ0, [], n⟩ (bodyPost P fn (fun e w' => ∃ v μ', e = .returned v ∧ oM w w' μ0 μ' ∧ Post μ' v)) .ret μ l L := fun a w' hs => by
  obtain ⟨μ', hg, hle, hL⟩ := hs.MJ
  exact ⟨hs.defers.none (by simp), _, results2 hr h h' hs.rd, _, μ', rfl, hg, hp μ' hle hL⟩
theorem OI {f : FuncId} {q : Operand} {cap : Array Value} {xs : Array Operand} {ts : Array TypeId} {ρ : Operand → Value} (hf : dI P f = true) (hρ : ρ q = .func (.func f) #[] cap) (w : World) :
    (execOp ρ ⟨ds, .call { callee := .value q, args := xs, argTypes := ts }, ty, pos, af, gd⟩).run P w = .ok (.enter f (xs.map ρ ++ cap)) w := by
  unfold dI at hf
  cases h : P.funcs[f]? with
  | none => simp [h] at hf
  | some fn =>
    simp only [h, Bool.and_eq_true, Bool.not_eq_true'] at hf
    have hb : ¬ fn.body = none := by intro hb; simp [hb] at hf
    have hn : ¬ fn.name = "runtime.NumGoroutine" := by have := hf.2; simpa using this
    simp [execOp, resolve, hρ, Deferred.ofValue, invoke, callFunc, h, hn, hb]
theorem VO {f : FuncId} {q : Operand} {cap : List Value} {ts : Array TypeId} {x0 : Operand} {v0 : Value} (hq : ev l q = some (.func (.func f) #[] cap.toArray)) (hf : dI P f = true) (h0 : ev l x0 = some v0) : Ent P μ l L ⟨ds, .call { callee := .value q, args := #[x0], argTypes := ts }, ty, pos, af, gd⟩ f ([v0] ++ cap).toArray := fun a w hs => by
  rw [OI hf (hs.eval hq)]; have e0 := hs.eval h0; simp [e0]
theorem RM {x y : Operand} {ts : Array TypeId} {i j : Int} (h0 : ev l x = some (.int .i64 i)) (h1 : ev l y = some (.int .i64 j)) : Val P μ l L ⟨ds, .call { callee := .builtin .min, args := #[x, y], argTypes := ts }, ty, pos, af, gd⟩ (.int .i64 (if j < i then j else i)) := fun a w hs => by
  have e0 := hs.eval h0
  have e1 := hs.eval h1
  generalize a.eval = ρ at e0 e1
  simp [execOp, resolve, invoke, builtin, Builtin.min_, Builtin.min2, e0, e1]
structure NX (A : Option Addr) (n c s : Nat) (xs : List Value) : Prop where
  cap : n ≤ c
  len : xs.length = n * s
  form : (A = none ∧ n = 0 ∧ c = 0) ∨ ∃ g, A = some ⟨g, 0, none⟩
theorem St.aAm (h : St X μ l L a w) {i : Nat} {r : Rw} (hi : dE L i = some (.inr r)) : ∃ A c, r.v = .slice A r.n c ∧ NX A r.n c r.s r.xs := by
  have hown : w.ownsRow 0 r.e r.s r.v r.n r.xs := h.own _ (bO hi)
  rcases hown.2 with ⟨h1, h2⟩ | ⟨g, cap, cur, h1, h3, h4, h5, h6⟩
  · exact ⟨none, 0, by rw [h1, h2], by omega, hown.1, .inl ⟨rfl, h2, rfl⟩⟩
  · exact ⟨_, _, h1, h5, hown.1, .inr ⟨g, rfl⟩⟩
theorem cP {v : Value} {e s n : Nat} {ys : List Value} (i : Nat) (hi : dE L i = some (.inr ⟨v, e, s, n, ys⟩)) (h : ∀ A c, v = .slice A n c → NX A n c s ys → G P X ops Q rest μ l L) : G P X ops Q rest μ l L := fun a w hs => by
  obtain ⟨A, c, h1, h2⟩ := hs.aAm hi
  exact h A c h1 h2 a w hs
theorem fG {k : Code} {v : Value} {e s n : Nat} {ys : List Value} (i : Nat) (hi : dE L i = some (.inr ⟨v, e, s, n, ys⟩)) (h : ∀ A c, v = .slice A n c → NX A n c s ys → GC P X k Q μ l L) : GC P X k Q μ l L := fun a w hs => by
  obtain ⟨A, c, h1, h2⟩ := hs.aAm hi
  exact h A c h1 h2 a w hs
theorem XE {q : Operand} {A : Option Addr} {m c e s : Nat} {xs : List Value} (i : Nat) (hok : NX A m c s xs) (hi : dE L i = some (.inr ⟨.slice A m c, e, s, m, xs⟩)) (hq : ev l q = some (.slice A m c)) : Src μ l L q m xs := by
  refine ⟨A, c, hq, fun e0 => ?_, fun ad e0 a w hr j u hu => ?_⟩
  · rcases hok.form with ⟨_, h, _⟩ | ⟨g, h⟩
    · exact ⟨h, List.eq_nil_of_length_eq_zero (by rw [hok.len, h]; simp)⟩
    · rw [e0] at h; cases h
  · rcases hok.form with ⟨h, _⟩ | ⟨g, h⟩
    · rw [e0] at h; cases h
    · rw [e0] at h; cases h; subst e0
      rw [add_lit, Nat.zero_add]
      exact hr.CQ (bO hi) hu
end
end Go.Vcg
set_option maxRecDepth 20000
namespace Go.Vcg
open Go.RowKit
section
variable {P : Program} {X : Ctx} {ops : Array Oper} {Q : Exit → Act → World → Prop} {rest : List Oper} {μ μr : Mem} {l : aI} {L Lr : List Bk} {a : Act} {w : World} {o : Oper} {d fuel i : Nat} {listed : Array Bool}
theorem QF {c : Exit} {b t sz : Nat} {cs : aI} {xs : List Value} (n s : Nat) (hz : sz = n * s) (hc : LC cs 0 sz xs) (hn : n ≤ 1000000) (h : GQ X Q c μ l (.inr ⟨.slice (some ⟨b, 0, none⟩) n n, t, s, n, xs⟩ :: L)) : GQ X Q c μ l (.inl ⟨b, t, sz, cs⟩ :: L) := fun a w hs => by
  subst hz
  exact h a w (hs.LM hc (Nat.le_trans hn (by decide)))
theorem BD {c : Exit} (e s : Nat) (h : GQ X Q c μ l (.inr ⟨.slice none 0 0, e, s, 0, []⟩ :: L)) : GQ X Q c μ l L := fun a w hs => h a w (hs.uJ e s)
end
section flat
variable {α : Type} {enc : α → List Value} {s : Nat}
theorem fN (he : ∀ x, (enc x).length = s) (l : List α) : (l.flatMap enc).length = l.length * s := by
  induction l with
  | nil => simp
  | cons x l ih => simp only [List.flatMap_cons, List.length_append, ih, he, List.length_cons, Nat.add_mul]; omega
theorem aCs (he : ∀ x, (enc x).length = s) (l : List α) (k : Nat) : (l.flatMap enc).take (k * s) = (l.take k).flatMap enc := by
  by_cases h : k ≤ l.length
  · conv => lhs; rw [← List.take_append_drop k l, List.flatMap_append]
    rw [List.take_append_of_le_length (by rw [fN he]; simp [Nat.min_eq_left h]), List.take_of_length_le (by rw [fN he]; simp [Nat.min_eq_left h])]
  · rw [List.take_of_length_le (l := l) (by omega), List.take_of_length_le]
    rw [fN he]
    exact Nat.mul_le_mul_right s (by omega)
theorem KH (he : ∀ x, (enc x).length = s) (l : List α) (k : Nat) : (l.flatMap enc).drop (k * s) = (l.drop k).flatMap enc := by
  by_cases h : k ≤ l.length
  · conv => lhs; rw [← List.take_append_drop k l, List.flatMap_append]
    have hl : ((l.take k).flatMap enc).length = k * s := by rw [fN he]; simp [Nat.min_eq_left h]
    rw [← hl, List.drop_left]
  · rw [List.drop_of_length_le (l := l) (by omega), List.drop_of_length_le]
    · rfl
    · rw [fN he]
      exact Nat.mul_le_mul_right s (by omega)
theorem fK (he : ∀ x, (enc x).length = s) {l : List α} {k : Nat} {x : α} (h : l[k]? = some x) (j : Nat) (v : Value) (hv : (enc x)[j]? = some v) : (l.flatMap enc)[k * s + j]? = some v := by
  have hj : j < s := by rw [← he x]; exact (List.getElem?_eq_some_iff.1 hv).1
  have h1 := KH he l k
  have h2 : ((l.flatMap enc).drop (k * s))[j]? = some v := by
    rw [h1]
    have hk : k < l.length := (List.getElem?_eq_some_iff.1 h).1
    rw [List.drop_eq_getElem_cons hk, (List.getElem?_eq_some_iff.1 h).2, List.flatMap_cons, List.getElem?_append_left (by rw [he]; exact hj)]
    exact hv
  rw [List.getElem?_drop] at h2
  exact h2
end flat
end Go.Vcg
set_option maxRecDepth 20000
namespace Go.Vcg
open Go.RowKit
section
variable {P : Program} {X : Ctx} {ops : Array Oper} {Q : Exit → Act → World → Prop} {rest : List Oper} {μ μr : Mem} {l : aI} {L Lr : List Bk} {a : Act} {w : World} {o : Oper} {d fuel i : Nat} {listed : Array Bool}
variable {ty : TypeId} {pos : String} {af : Array Edge} {gd : Option (Nat × Bool)} {ds : Option Nat}
theorem vY (w : World) (k : Nat) (t e : TypeId) (A : Option Addr) (n c : Nat) (ht : P.underlying t = some (.slice e)) : (Op.equalIn (k + 1) t (.slice A n c) (.slice none 0 0)).run P w = .ok A.isNone w := by
  unfold Op.equalIn
  cases A <;> simp [run_underlying ht]
theorem wD {p : Operand} {t t2 e : TypeId} {A : Option Addr} {n c : Nat} (ht : P.underlying t = some (.slice e)) (hx : ev l p = some (.slice A n c)) : Val P μ l L ⟨ds, .binOp .eql t p (.const (.slice none 0 0)) t2, ty, pos, af, gd⟩ (.bool A.isNone) := fun a w hs => by
  have e0 := hs.eval hx
  have e1 : a.eval (.const (.slice none 0 0)) = .slice none 0 0 := rfl
  generalize a.eval = ρ at e0 e1
  have h := vY (P := P) w 9999 t e A n c ht
  simp [execOp, e0, e1, eqGuard, binOp, Op.equal, Op.maxDepth, h]
theorem aN {α : Type} {enc : α → List Value} {sz n : Nat} {μ : Mem} {l : List α} {x : Blk} (h : Bk.sh (.inl x) μ) (hn : l.length = n) (he : ∀ y ∈ l, (enc y).length = sz) (hc : LC x.cs 0 (n * sz) (l.flatMap enc)) : Sl enc sz μ (some ⟨x.b, 0, none⟩) n l := by
  refine Sl.aB1 h hn (fun i y hy j v hj => ?_)
  have key : ∀ (xs : List α) (i : Nat) (x : α), (∀ x ∈ xs, (enc x).length = sz) → xs[i]? = some x → ∀ j v, (enc x)[j]? = some v → (xs.flatMap enc)[i * sz + j]? = some v := by
    intro xs
    induction xs with
    | nil => intro i x _ h; simp at h
    | cons y xs ih =>
      intro i x he hi j v hj
      have hy := he y (by simp)
      cases i with
      | zero =>
        simp at hi; subst hi
        simp only [List.flatMap_cons, Nat.zero_mul, Nat.zero_add]
        rw [List.getElem?_append_left (List.getElem?_eq_some_iff.1 hj).1]; exact hj
      | succ i =>
        simp only [List.flatMap_cons]
        rw [List.getElem?_append_right (by rw [hy, Nat.add_mul]; omega), hy, show (i + 1) * sz + j - sz = i * sz + j by rw [Nat.add_mul]; omega]
        exact ih i x (fun z hz => he z (by simp [hz])) (by simpa using hi) j v hj
  simpa using hc.get _ v (key l i y he hy j v hj)
end
end Go.Vcg
set_option maxRecDepth 20000
namespace Go.Vcg
open Go.RowKit
section
variable {P : Program} {X : Ctx} {ops : Array Oper} {Q : Exit → Act → World → Prop} {rest : List Oper} {μ μr : Mem} {l : aI} {a : Act} {w : World} {o : Oper} {d fuel i : Nat} {listed : Array Bool}
theorem St.cells {L L' : List Bk} {i : Nat} {b t sz : Nat} {cs cs' : aI} (h : St X μ l L a w) (hi : dE L i = some (.inl ⟨b, t, sz, cs⟩)) (hs : nC cs' cs) (hL : dG L i (.inl ⟨b, t, sz, cs'⟩) = L') : St X μ l L' a w := by
  rw [← hL]
  refine h.upd (w' := w) hi rfl rfl rfl (Nat.le_refl _) (fun _ _ _ => rfl) ?_ (fun b hb => .inl hb)
  obtain ⟨arr, h1, h2, h3⟩ := h.own _ (bO hi)
  exact ⟨arr, h1, h2, fun k v hk => h3 k v (hs k v hk)⟩
end
end Go.Vcg
namespace Go.Proofs.YtocidaibmadekaaGreatDoor
end Go.Proofs.YtocidaibmadekaaGreatDoor
