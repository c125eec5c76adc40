/- Rules for a statement whose order Go leaves open, over the symbolic state of YtmihpkdhfomcgaaDoorVc. No statement of the seat is proved here. -/
import Derived.Test.YtmihpkdhfomcgaaDoorMem
set_option maxRecDepth 20000
namespace Go.Vcg
open Go.RowKit

/-- What is read in the region: it stays as it is while the region runs. -/
def Sm (μ : Mem) (L : List Bk) (w : World) : Prop := MOk μ w ∧ ∀ x ∈ L, Bk.at x w

def GA (P : Program) (X : Ctx) (μr : Mem) (Lr : List Bk) (ops : Array Oper) (Q : Exit → Act → World → Prop) (fuel : Nat) (listed : Array Bool) (μ : Mem) (l : Slots) (L : List Bk) : Prop :=
  ∀ a w, St X μ l L a w → Sm μr Lr w → wpAnyH P .any ops Q (Sm μr Lr) fuel listed a w

section
variable {P : Program} {X : Ctx} {ops : Array Oper} {Q : Exit → Act → World → Prop} {μ μr : Mem} {l : Slots} {L Lr : List Bk} {a : Act} {w : World} {o : Oper} {d fuel i : Nat} {listed : Array Bool}

theorem St.draw (h : St X μ l L a w) : St X μ l L a { w with drawn := w.drawn + 1 } :=
  ⟨h.size, h.defers, h.slots, ⟨h.keep.os, h.keep.tape, h.keep.output, h.keep.size, h.keep.block⟩, h.mem, h.from0, h.fresh, fun x hx => Bk.keep (h.own x hx) (fun _ _ => rfl), h.priv, h.new, h.diff⟩

theorem gc_draw {id : Nat} (n : Nat) (Lr : List Bk) (hm : P.follows .mixedOrders = true) (hn : ops.size = n) (hL : Lr.Sublist L) (h : GA P X μ Lr ops Q n (Array.replicate n false) μ l L) : GC P X (.region id ops true) Q μ l L :=
  fun a _ hs => wp_region_held hm (by subst hn; exact h a _ hs.draw ⟨hs.draw.mem, fun x hx => hs.draw.own x (hL.subset hx)⟩)

theorem nthO_get {i : Nat} (h : nthO ops.toList i = some o) : ops[i]? = some o := by rw [nthO_eq] at h; simpa using h

theorem ga_take (i : Nat) {v : Value} (ho : nthO ops.toList i = some o) (hd : o.dst = some d) (hn : Nat.blt d X.n = true) (hw : wants ops l o = some true) (hs : Region.noSelect ops = true) (hf : Region.free .any ops listed i = true)
    (hr : (Region.ready .any ops listed).contains i = true) (hQ : ∀ c a w, Q (.panic c) (Act.put a (some d) v) w → Q (.panic c) a w) (hv : Val P μr l Lr o v)
    (h : GA P X μr Lr ops Q fuel (listed.setIfInBounds i true) μ ((d, v) :: l) L) : GA P X μr Lr ops Q (fuel + 1) listed μ l L := fun a w hst hS => by
  refine wpAnyH_take (nthO_get ho) hs hf hr (by rw [hd]; exact hQ) (.inl ⟨hst.wanted hw, fun w' hw' => hv a w' ⟨hst.slots, hw'.1, hw'.2⟩⟩) hS ?_
  rw [hd]
  exact h _ _ (hst.put hn _) hS

theorem ga_skip (i : Nat) (ho : nthO ops.toList i = some o) (hd : o.dst = some d) (hn : Nat.blt d X.n = true) (hw : wants ops l o = some false) (hs : Region.noSelect ops = true) (hf : Region.free .any ops listed i = true)
    (hr : (Region.ready .any ops listed).contains i = true) (hQ : ∀ c a w, Q (.panic c) (Act.put a (some d) undef) w → Q (.panic c) a w)
    (h : GA P X μr Lr ops Q fuel (listed.setIfInBounds i true) μ ((d, undef) :: l) L) : GA P X μr Lr ops Q (fuel + 1) listed μ l L := fun a w hst hS => by
  refine wpAnyH_take (v := undef) (nthO_get ho) hs hf hr (by rw [hd]; exact hQ) (.inr ⟨hst.wanted hw, rfl⟩) hS ?_
  rw [hd]
  exact h _ _ (hst.put hn _) hS

theorem ga_done (hr : Region.ready .any ops listed = []) (h : GQ X Q .normal μ l L) : GA P X μr Lr ops Q fuel listed μ l L := fun a w hst _ => wpAnyH_done hr (h a w hst) _

/-- Operation 'i' comes up now. -/
def GAop (P : Program) (X : Ctx) (μr : Mem) (Lr : List Bk) (ops : Array Oper) (Q : Exit → Act → World → Prop) (fuel : Nat) (listed : Array Bool) (i : Nat) (μ : Mem) (l : Slots) (L : List Bk) : Prop :=
  ∀ a w, St X μ l L a w → Sm μr Lr w → wpOp P ops Q i (fun a' w' => Sm μr Lr w' ∧ wpAnyH P .any ops Q (Sm μr Lr) fuel (listed.setIfInBounds i true) a' w') a w

theorem ga_all1 (i : Nat) (hr : Region.ready .any ops listed = [i]) (h : GAop P X μr Lr ops Q fuel listed i μ l L) : GA P X μr Lr ops Q (fuel + 1) listed μ l L := fun a w hst hS => by
  refine wpAnyH_all hr (by simp) fun j hj => ?_
  simp only [List.mem_singleton] at hj
  subst hj
  exact h a w hst hS
theorem ga_all2 (i j : Nat) (hr : Region.ready .any ops listed = [i, j]) (h : GAop P X μr Lr ops Q fuel listed i μ l L) (h' : GAop P X μr Lr ops Q fuel listed j μ l L) : GA P X μr Lr ops Q (fuel + 1) listed μ l L := fun a w hst hS => by
  refine wpAnyH_all hr (by simp) fun k hk => ?_
  simp only [List.mem_cons, List.not_mem_nil, or_false] at hk
  rcases hk with rfl | rfl
  · exact h a w hst hS
  · exact h' a w hst hS
theorem ga_all3 (i j k : Nat) (hr : Region.ready .any ops listed = [i, j, k]) (h : GAop P X μr Lr ops Q fuel listed i μ l L) (h' : GAop P X μr Lr ops Q fuel listed j μ l L) (h'' : GAop P X μr Lr ops Q fuel listed k μ l L) : GA P X μr Lr ops Q (fuel + 1) listed μ l L := fun a w hst hS => by
  refine wpAnyH_all hr (by simp) fun m hm => ?_
  simp only [List.mem_cons, List.not_mem_nil, or_false] at hm
  rcases hm with rfl | rfl | rfl
  · exact h a w hst hS
  · exact h' a w hst hS
  · exact h'' a w hst hS

theorem ga_wp {i : Nat} (ho : nthO ops.toList i = some o) (hw : wants ops l o = some true)
    (h : ∀ a w, St X μ l L a w → Sm μr Lr w → o.wp P a w (fun a' w' => Sm μr Lr w' ∧ wpAnyH P .any ops Q (Sm μr Lr) fuel (listed.setIfInBounds i true) a' w') Q) : GAop P X μr Lr ops Q fuel listed i μ l L := fun a w hst hS => by
  unfold wpOp
  simp only [nthO_get ho, hst.wanted hw, if_true]
  exact .inl (h a w hst hS)

theorem gaop_skip {i : Nat} (ho : nthO ops.toList i = some o) (hd : o.dst = some d) (hn : Nat.blt d X.n = true) (hw : wants ops l o = some false)
    (h : GA P X μr Lr ops Q fuel (listed.setIfInBounds i true) μ ((d, undef) :: l) L) : GAop P X μr Lr ops Q fuel listed i μ l L := fun a w hst hS => by
  unfold wpOp
  simp only [nthO_get ho, hst.wanted hw, Bool.false_eq_true, if_false, hd]
  exact ⟨hS, h _ _ (hst.put hn _) hS⟩

theorem Sm.later (h : Sm μr Lr w) {w' : World} (hb : Below w.heap.size w w') : Sm μr Lr w' := by
  have hlt : ∀ b o, w.heap[b]? = some o → w'.heap[b]? = some o := fun b o e => by rw [hb.block b (Array.getElem?_eq_some_iff.1 e).1]; exact e
  exact ⟨fun b o e => hlt _ _ (h.1 b o e), fun x hx => Bk.keep (h.2 x hx) (fun b hb' => hb.block b (Bk.lt (h.2 x hx) hb'))⟩

theorem gaop_val {i : Nat} {v : Value} (ho : nthO ops.toList i = some o) (hd : o.dst = some d) (hn : Nat.blt d X.n = true) (hw : wants ops l o = some true) (hv : Val P μ l L o v)
    (h : GA P X μr Lr ops Q fuel (listed.setIfInBounds i true) μ ((d, v) :: l) L) : GAop P X μr Lr ops Q fuel listed i μ l L :=
  ga_wp ho hw fun a w hs hS => by
    unfold Oper.wp
    rw [hv a w hs.rd, Oper.upon_value, hd]
    exact ⟨hS, h _ _ (hs.put hn _) hS⟩

theorem gaop_enter_s {i : Nat} {f : FuncId} {vs : Array Value} {v : Value} (ho : nthO ops.toList i = some o) (hd : o.dst = some d) (hn : Nat.blt d X.n = true) (hw : wants ops l o = some true)
    (he : Ent P μ l L o f vs) (hc : ∀ w μc, MOk μc w → Sees μc μ L → Calls P f vs w fun e w' => e = .returned v ∧ Below w.heap.size w w')
    (h : GA P X μr Lr ops Q fuel (listed.setIfInBounds i true) μ ((d, v) :: l) L) : GAop P X μr Lr ops Q fuel listed i μ l L :=
  ga_wp ho hw fun a w hs hS => by
    unfold Oper.wp
    rw [he a w hs.rd, Oper.upon_enter]
    refine (hc w _ (fun _ _ h => h) hs.sees).mono fun e w' he => ?_
    obtain ⟨rfl, hb⟩ := he
    show Sm μr Lr w' ∧ wpAnyH P .any ops Q (Sm μr Lr) fuel (listed.setIfInBounds i true) (a.put o.dst v) w'
    rw [hd]
    exact ⟨hS.later hb, h _ _ ((hs.drop_world hb).put hn _) (hS.later hb)⟩

theorem gaop_enter_m {i : Nat} {f : FuncId} {vs : Array Value} {Post : Mem → Value → Prop} (ho : nthO ops.toList i = some o) (hd : o.dst = some d) (hn : Nat.blt d X.n = true) (hw : wants ops l o = some true)
    (he : Ent P μ l L o f vs) (hc : ∀ w, MOk μ w → Calls P f vs w fun e w' => ∃ v μ', e = .returned v ∧ Grow w w' μ μ' ∧ Post μ' v)
    (h : ∀ v μ', MLe μ μ' → Post μ' v → GA P X μr Lr ops Q fuel (listed.setIfInBounds i true) μ' ((d, v) :: l) L) : GAop P X μr Lr ops Q fuel listed i μ l L :=
  ga_wp ho hw fun a w hs hS => by
    unfold Oper.wp
    rw [he a w hs.rd, Oper.upon_enter]
    refine (hc w hs.mem).mono fun e w' he => ?_
    obtain ⟨v, μ', rfl, hg, hp⟩ := he
    show Sm μr Lr w' ∧ wpAnyH P .any ops Q (Sm μr Lr) fuel (listed.setIfInBounds i true) (a.put o.dst v) w'
    rw [hd]
    exact ⟨hS.later hg.below, h v μ' hg.le hp _ _ ((hs.grow hg).put hn _) (hS.later hg.below)⟩

theorem below_alloc (w : World) (o : Obj) : Below w.heap.size w (w.alloc o) := (Below.refl _ _).alloc (Nat.le_refl _) _

theorem gaop_new {i : Nat} {v : Nat → Value} {t : TypeId} {cs : List Value} (ho : nthO ops.toList i = some o) (hd : o.dst = some d) (hn : Nat.blt d X.n = true) (hw : wants ops l o = some true)
    (he : Alc P μ l L o v t cs) {n : Nat} (hl : nat16 cs.length some = some n) (h : ∀ b, GA P X μr Lr ops Q fuel (listed.setIfInBounds i true) μ ((d, v b) :: l) (.inl ⟨b, t, n, idx 0 cs⟩ :: L)) : GAop P X μr Lr ops Q fuel listed i μ l L :=
  ga_wp ho hw fun a w hs hS => by
    unfold Oper.wp
    rw [he a w hs.rd, Oper.upon_value, hd]
    rw [nat16_eq] at hl
    cases hl
    exact ⟨hS.later (below_alloc _ _), h _ _ _ ((hs.alloc t cs).put hn _) (hS.later (below_alloc _ _))⟩

theorem ga_split {t : Nat} {b : Bool} (hl : lk l t = some (.bool b)) (ht : b = true → GA P X μr Lr ops Q fuel listed μ ((t, .bool true) :: l) L) (hf : b = false → GA P X μr Lr ops Q fuel listed μ ((t, .bool false) :: l) L) : GA P X μr Lr ops Q fuel listed μ l L := by
  intro a w hs hS
  have hsz := hs.slots t _ hl
  have hn : Nat.blt t X.n = true := by
    have := (Array.getElem?_eq_some_iff.1 hsz).1
    rw [hs.size] at this
    simp [Nat.blt]; omega
  have he : a.put (some t) (.bool b) = a := by
    cases a; simp only [Act.put, Act.mk.injEq, and_true] at *
    exact Array.ext_getElem? fun i => by
      by_cases e : t = i
      · subst e
        rw [Array.getElem?_setIfInBounds_self_of_lt (Array.getElem?_eq_some_iff.1 hsz).1, hsz]
      · rw [Array.getElem?_setIfInBounds_ne e]
  have hp := hs.put hn (.bool b)
  rw [he] at hp
  cases b
  · exact hf rfl a w hp hS
  · exact ht rfl a w hp hS
/-- part on the guard of operation 'i' -/
theorem ga_guard (i : Nat) {t : Nat} {b : Bool} (_ho : nthO ops.toList i = some o) (_hg : guardSlot ops o = some t) (hl : lk l t = some (.bool b)) (_hb : NLit b) (ht : b = true → GA P X μr Lr ops Q fuel listed μ ((t, .bool true) :: l) L)
    (hf : b = false → GA P X μr Lr ops Q fuel listed μ ((t, .bool false) :: l) L) : GA P X μr Lr ops Q fuel listed μ l L := ga_split hl ht hf
theorem ga_guard_dec (i : Nat) {t : Nat} {p : Prop} {_ : Decidable p} (_ho : nthO ops.toList i = some o) (_hg : guardSlot ops o = some t) (hl : lk l t = some (.bool (decide p))) (ht : p → GA P X μr Lr ops Q fuel listed μ ((t, .bool true) :: l) L)
    (hf : ¬ p → GA P X μr Lr ops Q fuel listed μ ((t, .bool false) :: l) L) : GA P X μr Lr ops Q fuel listed μ l L := ga_split hl (fun h => ht (of_decide_eq_true h)) (fun h => hf (of_decide_eq_false h))
theorem ga_guard_decT (i : Nat) {t : Nat} {p : Prop} {_ : Decidable p} (ho : nthO ops.toList i = some o) (hg : guardSlot ops o = some t) (hl : lk l t = some (.bool (decide p))) (hp : p) (h : GA P X μr Lr ops Q fuel listed μ ((t, .bool true) :: l) L) : GA P X μr Lr ops Q fuel listed μ l L :=
  ga_guard_dec i ho hg hl (fun _ => h) (fun hn => absurd hp hn)
theorem ga_guard_decF (i : Nat) {t : Nat} {p : Prop} {_ : Decidable p} (ho : nthO ops.toList i = some o) (hg : guardSlot ops o = some t) (hl : lk l t = some (.bool (decide p))) (hp : ¬ p) (h : GA P X μr Lr ops Q fuel listed μ ((t, .bool false) :: l) L) : GA P X μr Lr ops Q fuel listed μ l L :=
  ga_guard_dec i ho hg hl (fun hn => absurd hn hp) (fun _ => h)
end
end Go.Vcg
