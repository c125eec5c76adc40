/- Rules for a statement whose order Go leaves open, over the symbolic state of YtmihpkdhfomcgaaGreatDoorVc. No statement of the seat is proved here. -/
import Derived.Test.YtmihpkdhfomcgaaGreatDoorMem
set_option maxRecDepth 20000
namespace Go.Vcg
open Go.RowKit

/-- What is read in the region: it stays as it is while the region runs. -/
def Sm (μ : Mem) (L : List Bk) (w : World) : Prop := MOk μ w ∧ ∀ x ∈ L, Bk.at x w

def GA (P : Program) (X : Ctx) (μr : Mem) (Lr : List Bk) (ops : Array Oper) (Q : Exit → Act → World → Prop) (fuel : Nat) (listed : Array Bool) (μ : Mem) (l : Slots) (L : List Bk) : Prop :=
  ∀ a w, St X μ l L a w → Sm μr Lr w → wpAnyH P .any ops Q (Sm μr Lr) fuel listed a w

section
variable {P : Program} {X : Ctx} {ops : Array Oper} {Q : Exit → Act → World → Prop} {μ μr : Mem} {l : Slots} {L Lr : List Bk} {a : Act} {w : World} {o : Oper} {d fuel i : Nat} {listed : Array Bool}

theorem St.draw (h : St X μ l L a w) : St X μ l L a { w with drawn := w.drawn + 1 } :=
  ⟨h.size, h.defers, h.slots, ⟨h.keep.os, h.keep.tape, h.keep.output, h.keep.size, h.keep.block⟩, h.mem, h.from0, h.fresh, fun x hx => Bk.keep (h.own x hx) (fun _ _ => rfl), h.priv, h.new, h.diff⟩

theorem gc_draw {id : Nat} (n : Nat) (Lr : List Bk) (hm : P.follows .mixedOrders = true) (hn : ops.size = n) (hL : Lr.Sublist L) (h : GA P X μ Lr ops Q n (Array.replicate n false) μ l L) : GC P X (.region id ops true) Q μ l L :=
  fun a _ hs => wp_region_held hm (by subst hn; exact h a _ hs.draw ⟨hs.draw.mem, fun x hx => hs.draw.own x (hL.subset hx)⟩)

theorem nthO_get {i : Nat} (h : nthO ops.toList i = some o) : ops[i]? = some o := by rw [nthO_eq] at h; simpa using h

theorem ga_take (i : Nat) {v : Value} (ho : nthO ops.toList i = some o) (hd : o.dst = some d) (hn : Nat.blt d X.n = true) (hw : wants ops l o = some true) (hs : Region.noSelect ops = true) (hf : Region.free .any ops listed i = true)
    (hr : (Region.ready .any ops listed).contains i = true) (hQ : ∀ c a w, Q (.panic c) (Act.put a (some d) v) w → Q (.panic c) a w) (hv : Val P μr l Lr o v)
    (h : GA P X μr Lr ops Q fuel (listed.setIfInBounds i true) μ ((d, v) :: l) L) : GA P X μr Lr ops Q (fuel + 1) listed μ l L := fun a w hst hS => by
  refine wpAnyH_take (nthO_get ho) hs hf hr (by rw [hd]; exact hQ) (.inl ⟨hst.wanted hw, fun w' hw' => hv a w' ⟨hst.slots, hw'.1, hw'.2⟩⟩) hS ?_
  rw [hd]
  exact h _ _ (hst.put hn _) hS

theorem ga_skip (i : Nat) (ho : nthO ops.toList i = some o) (hd : o.dst = some d) (hn : Nat.blt d X.n = true) (hw : wants ops l o = some false) (hs : Region.noSelect ops = true) (hf : Region.free .any ops listed i = true)
    (hr : (Region.ready .any ops listed).contains i = true) (hQ : ∀ c a w, Q (.panic c) (Act.put a (some d) undef) w → Q (.panic c) a w)
    (h : GA P X μr Lr ops Q fuel (listed.setIfInBounds i true) μ ((d, undef) :: l) L) : GA P X μr Lr ops Q (fuel + 1) listed μ l L := fun a w hst hS => by
  refine wpAnyH_take (v := undef) (nthO_get ho) hs hf hr (by rw [hd]; exact hQ) (.inr ⟨hst.wanted hw, rfl⟩) hS ?_
  rw [hd]
  exact h _ _ (hst.put hn _) hS

theorem ga_done (hr : Region.ready .any ops listed = []) (h : GQ X Q .normal μ l L) : GA P X μr Lr ops Q fuel listed μ l L := fun a w hst _ => wpAnyH_done hr (h a w hst) _

/-- Operation 'i' comes up now. -/
def GAop (P : Program) (X : Ctx) (μr : Mem) (Lr : List Bk) (ops : Array Oper) (Q : Exit → Act → World → Prop) (fuel : Nat) (listed : Array Bool) (i : Nat) (μ : Mem) (l : Slots) (L : List Bk) : Prop :=
  ∀ a w, St X μ l L a w → Sm μr Lr w → wpOp P ops Q i (fun a' w' => Sm μr Lr w' ∧ wpAnyH P .any ops Q (Sm μr Lr) fuel (listed.setIfInBounds i true) a' w') a w

theorem ga_all1 (i : Nat) (hr : Region.ready .any ops listed = [i]) (h : GAop P X μr Lr ops Q fuel listed i μ l L) : GA P X μr Lr ops Q (fuel + 1) listed μ l L := fun a w hst hS => by
  refine wpAnyH_all hr (by simp) fun j hj => ?_
  simp only [List.mem_singleton] at hj
  subst hj
  exact h a w hst hS
theorem ga_all2 (i j : Nat) (hr : Region.ready .any ops listed = [i, j]) (h : GAop P X μr Lr ops Q fuel listed i μ l L) (h' : GAop P X μr Lr ops Q fuel listed j μ l L) : GA P X μr Lr ops Q (fuel + 1) listed μ l L := fun a w hst hS => by
  refine wpAnyH_all hr (by simp) fun k hk => ?_
  simp only [List.mem_cons, List.not_mem_nil, or_false] at hk
  rcases hk with rfl | rfl
  · exact h a w hst hS
  · exact h' a w hst hS
theorem ga_wp {i : Nat} (ho : nthO ops.toList i = some o) (hw : wants ops l o = some true)
    (h : ∀ a w, St X μ l L a w → Sm μr Lr w → o.wp P a w (fun a' w' => Sm μr Lr w' ∧ wpAnyH P .any ops Q (Sm μr Lr) fuel (listed.setIfInBounds i true) a' w') Q) : GAop P X μr Lr ops Q fuel listed i μ l L := fun a w hst hS => by
  unfold wpOp
  simp only [nthO_get ho, hst.wanted hw, if_true]
  exact .inl (h a w hst hS)

theorem gaop_skip {i : Nat} (ho : nthO ops.toList i = some o) (hd : o.dst = some d) (hn : Nat.blt d X.n = true) (hw : wants ops l o = some false)
    (h : GA P X μr Lr ops Q fuel (listed.setIfInBounds i true) μ ((d, undef) :: l) L) : GAop P X μr Lr ops Q fuel listed i μ l L := fun a w hst hS => by
  unfold wpOp
  simp only [nthO_get ho, hst.wanted hw, Bool.false_eq_true, if_false, hd]
  exact ⟨hS, h _ _ (hst.put hn _) hS⟩

theorem Sm.later (h : Sm μr Lr w) {w' : World} (hb : Below w.heap.size w w') : Sm μr Lr w' := by
  have hlt : ∀ b o, w.heap[b]? = some o → w'.heap[b]? = some o := fun b o e => by rw [hb.block b (Array.getElem?_eq_some_iff.1 e).1]; exact e
  exact ⟨fun b o e => hlt _ _ (h.1 b o e), fun x hx => Bk.keep (h.2 x hx) (fun b hb' => hb.block b (Bk.lt (h.2 x hx) hb'))⟩

theorem gaop_val {i : Nat} {v : Value} (ho : nthO ops.toList i = some o) (hd : o.dst = some d) (hn : Nat.blt d X.n = true) (hw : wants ops l o = some true) (hv : Val P μ l L o v)
    (h : GA P X μr Lr ops Q fuel (listed.setIfInBounds i true) μ ((d, v) :: l) L) : GAop P X μr Lr ops Q fuel listed i μ l L :=
  ga_wp ho hw fun a w hs hS => by
    unfold Oper.wp
    rw [hv a w hs.rd, Oper.upon_value, hd]
    exact ⟨hS, h _ _ (hs.put hn _) hS⟩

theorem ga_split {t : Nat} {b : Bool} (hl : lk l t = some (.bool b)) (ht : b = true → GA P X μr Lr ops Q fuel listed μ ((t, .bool true) :: l) L) (hf : b = false → GA P X μr Lr ops Q fuel listed μ ((t, .bool false) :: l) L) : GA P X μr Lr ops Q fuel listed μ l L := by
  intro a w hs hS
  have hsz := hs.slots t _ hl
  have hn : Nat.blt t X.n = true := by
    have := (Array.getElem?_eq_some_iff.1 hsz).1
    rw [hs.size] at this
    simp [Nat.blt]; omega
  have he : a.put (some t) (.bool b) = a := by
    cases a; simp only [Act.put, Act.mk.injEq, and_true] at *
    exact Array.ext_getElem? fun i => by
      by_cases e : t = i
      · subst e
        rw [Array.getElem?_setIfInBounds_self_of_lt (Array.getElem?_eq_some_iff.1 hsz).1, hsz]
      · rw [Array.getElem?_setIfInBounds_ne e]
  have hp := hs.put hn (.bool b)
  rw [he] at hp
  cases b
  · exact hf rfl a w hp hS
  · exact ht rfl a w hp hS
/-- part on the guard of operation 'i' -/
theorem ga_guard (i : Nat) {t : Nat} {b : Bool} (_ho : nthO ops.toList i = some o) (_hg : guardSlot ops o = some t) (hl : lk l t = some (.bool b)) (_hb : NLit b) (ht : b = true → GA P X μr Lr ops Q fuel listed μ ((t, .bool true) :: l) L)
    (hf : b = false → GA P X μr Lr ops Q fuel listed μ ((t, .bool false) :: l) L) : GA P X μr Lr ops Q fuel listed μ l L := ga_split hl ht hf
end
end Go.Vcg
