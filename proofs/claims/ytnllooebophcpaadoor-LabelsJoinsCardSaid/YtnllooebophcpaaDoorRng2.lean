/- Ranges over functions: the caller's side. No statement of the seat is proved here. -/
import Derived.Test.YtnllooebophcpaaDoorRng
import Derived.Test.YtnllooebophcpaaDoorSel
set_option maxRecDepth 20000
namespace Go.Vcg
open Go.RowKit
def isBk : Obj → Bool
  | .cells _ _ _ => true
  | .map _ _ => true
  | _ => false
theorem Bk.isBk {x : Bk} {w : World} {b : Nat} {o : Obj} (h : Bk.at x w) (hb : Bk.id x = some b) (ho : w.heap[b]? = some o) : Go.Vcg.isBk o = true := by
  cases x with
  | inl x =>
    obtain ⟨arr, hh, _⟩ := h
    cases hb
    rw [hh] at ho
    cases ho
    rfl
  | inr r =>
    rcases h.2 with ⟨hv, _⟩ | ⟨g, cap, cur, hv, _, hh, _⟩
    · simp [Bk.id, hv, Value.ownBlock] at hb
    · simp [Bk.id, hv, Value.ownBlock] at hb
      subst hb
      rw [hh] at ho
      cases ho
      rfl
  | mp m =>
    cases hb
    have h : w.heap[m.b]? = _ := h
    rw [h] at ho
    cases ho
    rfl
def setS : List (Nat × Value) → Slots → Slots
  | [], l => l
  | (p, v) :: r, l => setS r ((p, v) :: l)
theorem setS_ok : ∀ (pv : List (Nat × Value)) {l : Slots} {tmps : Array Value}, (∀ x ∈ pv, x.1 < tmps.size) → (∀ t v, lk l t = some v → tmps[t]? = some v) →
    (∀ t v, lk (setS pv l) t = some v → (pv.foldl (fun t (x : Nat × Value) => t.setIfInBounds x.1 x.2) tmps)[t]? = some v) ∧ (pv.foldl (fun t (x : Nat × Value) => t.setIfInBounds x.1 x.2) tmps).size = tmps.size
  | [], l, tmps, _, h => ⟨h, rfl⟩
  | (p, v) :: r, l, tmps, hp, h => by
    have h1 := setS_ok r (l := (p, v) :: l) (tmps := tmps.setIfInBounds p v) (fun x hx => by simpa using hp x (List.mem_cons_of_mem _ hx)) (fun t u hu => by
      by_cases e : p = t
      · subst e
        have h2 : lk ((p, v) :: l) p = some v := by simp [lk]
        rw [h2] at hu
        cases hu
        exact Array.getElem?_setIfInBounds_self_of_lt (hp _ (List.mem_cons_self ..))
      · have h2 : lk ((p, v) :: l) t = lk l t := by
          have : Nat.beq p t = false := by cases h' : Nat.beq p t with
            | false => rfl
            | true => exact absurd (Nat.eq_of_beq_eq_true h') e
          simp [lk, this]
        rw [h2] at hu
        rw [Array.getElem?_setIfInBounds_ne e]
        exact h t u hu)
    refine ⟨h1.1, ?_⟩
    have := h1.2
    rw [Array.size_setIfInBounds] at this
    exact this
theorem params_fold (ps : List Nat) (vs : List Value) (tmps : Array Value) : (ps.toArray.zip vs.toArray).foldl (fun t (p, v) => t.setIfInBounds p v) tmps = (ps.zip vs).foldl (fun t (x : Nat × Value) => t.setIfInBounds x.1 x.2) tmps := by
  simp [Array.foldl_toList]
/-- how a round may be left -/
def BQ {α ι : Type} (X2 : Ctx) (μ : Mem) (JJ : List α → ι → Prop) (JX : Code → List α → ι → Prop) (Ls : ι → List Bk) (xs : List α) : Exit → Act → World → Prop
  | .normal, a, w => ∃ j, JJ xs j ∧ St X2 μ [] (Ls j) a w
  | .ret, a, w => ∃ j, JX .ret xs j ∧ St X2 μ [] (Ls j) a w
  | .exit k, a, w => ∃ j, JX (.exit k) xs j ∧ St X2 μ [] (Ls j) a w
  | .goto _, _, _ => False
  | .panic _, _, _ => False
  | .outgrown, _, _ => False
def AQ {κ : Type} (X2 : Ctx) (μ : Mem) (l : κ → Slots) (L : κ → List Bk) : Exit → Act → World → Prop := Exit.then (fun a w => ∃ k, St X2 μ (l k) (L k) a w) (fun _ _ _ => False)
section
variable {P : Program} {X : Ctx} {Q : Exit → Act → World → Prop} {μ : Mem} {l : Slots} {L : List Bk} {a : Act} {w : World}
theorem Marks.none' {ds : List Deferred} (h : Marks X μ ds) (hM : ∀ D ∈ X.M, D < X.w0.heap.size) : ds = [] := by
  obtain ⟨Ds, h1, h2, h3⟩ := h
  cases Ds with
  | nil => exact h1
  | cons D r =>
    obtain ⟨h4, h5, _⟩ := h3 D (by simp)
    have := hM D (List.count_pos_iff.1 (by omega))
    omega
theorem gq_aq {κ : Type} {X2 : Ctx} {l' : κ → Slots} {L' : κ → List Bk} (k : κ) (hl : SubS (l' k) l) (hL : Sel (L' k) L) : GQ X2 (AQ X2 μ l' L') .normal μ l L := fun _ _ hs => ⟨k, hs.sel hl hL⟩
theorem gq_bqS {α ι : Type} {X2 : Ctx} {JJ : List α → ι → Prop} {JX : Code → List α → ι → Prop} {Ls : ι → List Bk} {xs : List α} (j : ι) (hJ : JJ xs j) (hL : Sel (Ls j) L) : GQ X2 (BQ X2 μ JJ JX Ls xs) .normal μ l L := fun _ _ hs =>
  ⟨j, hJ, hs.sel subS_nil hL⟩
theorem St.base {a' : Act} {l' : Slots} {w' : World} (h : St X μ l L a w) (hsz : a'.tmps.size = X.n) (hd : a'.defers = []) (hsl : ∀ t v, lk l' t = some v → a'.tmps[t]? = some v) (hmem : MOk μ w') (hown : ∀ x ∈ L, Bk.at x w') : St ⟨w', μ, idsOf L, X.n⟩ μ l' L a' w' :=
  ⟨hsz, by rw [hd]; exact Marks.nil, hsl, Keep.refl _ _, hmem, MLe.refl _, fun _ _ _ h => h, hown, h.priv, fun x hx b hb => .inl (mem_idsOf.2 ⟨x, hx, hb⟩), h.diff⟩
theorem St.unbase {L2 : List Bk} {l2 : Slots} {a2 : Act} {w2 w3 w4 : World} {M2 : List Nat} (h : St X μ l L a w) (h2 : St ⟨w2, μ, M2, X.n⟩ μ l2 L2 a2 w3) (hM : ∀ b ∈ M2, b ∈ idsOf L ∨ X.w0.heap.size ≤ b) (hmem : MOk μ w4) (hown : ∀ x ∈ L2, Bk.at x w4) (hsz2 : X.w0.heap.size ≤ w2.heap.size) (hk : Keep X.M X.w0 w4) : St X μ l L2 a w4 :=
  ⟨h.size, h.defers, h.slots, hk, hmem, h.from0, h.fresh, hown, h2.priv, fun x hx b hb => (h2.new x hx b hb).elim (fun hm => (hM b hm).elim (fun hm => let ⟨y, hy, hyb⟩ := mem_idsOf.1 hm; h.new y hy b hyb) .inr) (fun hle => .inr (Nat.le_trans hsz2 hle)), h2.diff⟩
theorem ids_ne {r : Loop} {b : Nat} (hown : ∀ x ∈ L, Bk.at x w) (hb : w.heap[b]? = some (.loop r)) : b ∉ idsOf L := fun hm => by
  obtain ⟨x, hx, hxb⟩ := mem_idsOf.1 hm
  have := Bk.isBk (hown x hx) hxb hb
  cases this
theorem own_put {r : Loop} {b : Nat} {o' : Obj} (hown : ∀ x ∈ L, Bk.at x w) (hb : w.heap[b]? = some (.loop r)) : ∀ x ∈ L, Bk.at x (w.putObj b o') := fun x hx =>
  Bk.keep (hown x hx) fun c hc => World.putObj_heap_other (fun e => by
    subst e
    have := Bk.isBk (hown x hx) hc hb
    cases this)
theorem mok_put {b : Nat} {o' : Obj} (hm : MOk μ w) (hb : μ b = none) : MOk μ (w.putObj b o') := fun c o e => by
  rw [World.putObj_heap_other (fun e' => by subst e'; rw [hb] at e; cases e)]
  exact hm c o e
theorem mok_new (hm : MOk μ w) {b : Nat} (hb : w.heap.size ≤ b) : μ b = none := by
  cases h : μ b with
  | none => rfl
  | some o =>
    have := (Array.getElem?_eq_some_iff.1 (hm b o h)).1
    omega
end
end Go.Vcg
