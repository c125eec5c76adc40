/- Rules for a callee that changes one int of its caller's through a pointer. No statement of the seat is proved here. -/
import Derived.Test.YtnllooebophcpaaDoorVs
set_option maxRecDepth 20000
namespace Go.Vcg
open Go.RowKit
/-- block 'B' is the int 'k' -/
def IntAt (B : Nat) (t : TypeId) (k : Int) (w : World) : Prop := w.heap[B]? = some (.cells #[.int .i64 k] t (0, 0))
structure GrowB (B : Nat) (w w' : World) (μ μ' : Mem) : Prop where
  os : w'.os = w.os
  tape : w'.tape = w.tape
  output : w'.output = w.output
  size : w.heap.size ≤ w'.heap.size
  block : ∀ b, b < w.heap.size → b ≠ B → w'.heap[b]? = w.heap[b]?
  le : MLe μ μ'
  ok : MOk μ' w'
  fresh : ∀ b, b < w.heap.size → μ b = none → μ' b = none
section
variable {P : Program} {X : Ctx} {ops : Array Oper} {Q : Exit → Act → World → Prop} {rest : List Oper} {μ : Mem} {l : Slots} {L : List Bk} {a : Act} {w : World} {o : Oper} {d : Nat}
theorem nthB_ne {x y : Bk} : ∀ {L : List Bk} {i j : Nat}, L.Pairwise (fun x y => ∀ b, Bk.id x = some b → Bk.id y ≠ some b) → nthB L i = some x → nthB L j = some y → j ≠ i → ∀ b, Bk.id x = some b → Bk.id y ≠ some b
  | [], _, _, _, h, _, _ => by simp [nthB] at h
  | z :: r, 0, 0, _, _, _, h => absurd rfl h
  | z :: r, 0, j + 1, hp, hx, hy, _ => by
    simp [nthB] at hx
    subst hx
    exact (List.pairwise_cons.1 hp).1 _ (nthB_mem hy)
  | z :: r, i + 1, 0, hp, hx, hy, _ => by
    simp [nthB] at hy
    subst hy
    intro b hb hz
    exact (List.pairwise_cons.1 hp).1 _ (nthB_mem hx) b hz hb
  | z :: r, i + 1, j + 1, hp, hx, hy, h => nthB_ne (List.pairwise_cons.1 hp).2 (by simpa [nthB] using hx) (by simpa [nthB] using hy) (by omega)
theorem IntAt.of {B : Nat} {t : TypeId} {cs : Slots} {k : Int} (h : Bk.at (.inl ⟨B, t, 1, cs⟩) w) (hk : lk cs 0 = some (.int .i64 k)) : IntAt B t k w := by
  obtain ⟨arr, h1, h2, h3⟩ := h
  have h2 : arr.size = 1 := h2
  have h4 := h3 0 _ hk
  have : arr = #[.int .i64 k] := by
    apply Array.ext_getElem?
    intro i
    cases i with
    | zero => rw [h4]; rfl
    | succ i => rw [Array.getElem?_eq_none (by omega), Array.getElem?_eq_none (by simp)]
  subst this
  exact h1
theorem IntAt.at {B : Nat} {t : TypeId} {k : Int} (h : IntAt B t k w) : Bk.at (.inl ⟨B, t, 1, [(0, .int .i64 k)]⟩) w := by
  refine ⟨_, h, rfl, fun i v hv => ?_⟩
  cases i with
  | zero => simp [lk] at hv; simp [hv]
  | succ i => simp [lk, beq_ne (show (0 : Nat) ≠ i + 1 by omega)] at hv
theorem St.growB (h : St X μ l L a w) {i B : Nat} {t : TypeId} {cs : Slots} {k : Int} {w' : World} {μ' : Mem} (hi : nthB L i = some (.inl ⟨B, t, 1, cs⟩)) (hg : GrowB B w w' μ μ') (hk : IntAt B t k w') :
    St X μ' l (updB L i (.inl ⟨B, t, 1, [(0, .int .i64 k)]⟩)) a w' := by
  have hlt : ∀ x ∈ L, ∀ b, Bk.id x = some b → b < w.heap.size := fun x hx b hb => Bk.lt (h.own x hx) hb
  have hBlt := hlt _ (nthB_mem hi) B rfl
  have h2 := h.upd hi hg.os hg.tape hg.output hg.size (fun b hb hne => hg.block b hb (fun e => hne (by rw [e]; rfl))) hk.at (y := .inl ⟨B, t, 1, [(0, .int .i64 k)]⟩) (fun b hb => .inl hb)
  refine ⟨h2.size, h2.defers.mono hg.le, h2.slots, h2.keep, hg.ok, h.from0.trans hg.le, fun b hb hm h0 => hg.fresh b (Nat.lt_of_lt_of_le hb h.keep.size) (h.fresh b hb hm h0), h2.own, fun x hx b hb => ?_, h2.new, h2.diff⟩
  have hbl : b < w.heap.size := by
    rcases mem_updB hx with rfl | hx'
    · have : B = b := Option.some.inj hb
      omega
    · exact hlt x hx' b hb
  exact hg.fresh b hbl (h2.priv x hx b hb)
/-- The callee returns a value of which something is known, in memory that it may have made, and has changed the int at block 'B'. -/
theorem g_enter_b {f : FuncId} {vs : Array Value} {Post : Mem → Value → Int → Prop} (i : Nat) {B : Nat} {t : TypeId} {cs : Slots} {k : Int} (hd : o.dst = some d) (hn : Nat.blt d X.n = true) (hw : wants ops l o = some true) (hr : Ent P μ l L o f vs)
    (hi : nthB L i = some (.inl ⟨B, t, 1, cs⟩)) (hk : lk cs 0 = some (.int .i64 k))
    (hc : ∀ w, MOk μ w → IntAt B t k w → μ B = none → Calls P f vs w fun e w' => ∃ v μ' k', e = .returned v ∧ GrowB B w w' μ μ' ∧ IntAt B t k' w' ∧ Post μ' v k')
    (h : ∀ v μ' k', MLe μ μ' → Post μ' v k' → G P X ops Q rest μ' ((d, v) :: l) (updB L i (.inl ⟨B, t, 1, [(0, .int .i64 k')]⟩))) : G P X ops Q (o :: rest) μ l L :=
  g_wp hw fun a w hs => by
    unfold Oper.wp
    rw [hr a w hs.rd, Oper.upon_enter]
    refine (hc w hs.mem (IntAt.of (hs.own _ (nthB_mem hi)) hk) (hs.priv _ (nthB_mem hi) B rfl)).mono fun e w' he => ?_
    obtain ⟨v, μ', k', rfl, hg, hk', hp⟩ := he
    show wpList P ops Q rest (a.put o.dst v) w'
    rw [hd]
    exact h v μ' k' hg.le hp _ _ ((hs.growB hi hg hk').put hn _)
/-- Entry, with a pointer to an int of the caller's. -/
theorem call_introB {f : FuncId} {fn : Func} {c : Code} {args : List Value} {n : Nat} {R : Ending → World → Prop} {B : Nat} {t : TypeId} {k : Int} (hf : P.funcs[f]? = some fn) (hb : fn.body = some c) (hn : fn.ntmps = n) (hsz : args.length ≤ n)
    (hμ : MOk μ w) (hB : IntAt B t k w) (hμB : μ B = none) (h : GC P ⟨w, μ, [B], n⟩ c (bodyPost P fn R) μ (idx 0 args) [.inl ⟨B, t, 1, [(0, .int .i64 k)]⟩]) : Calls P f args.toArray w R := by
  refine calls_of_wp hf hb (h _ _ ⟨?_, Marks.nil, fun t v hv => ?_, Keep.refl _ _, hμ, MLe.refl _, fun _ _ _ h => h, ?_, ?_, ?_, ?_⟩)
  · simp [hn]; omega
  · obtain ⟨_, h2⟩ := lk_idx _ _ _ _ hv
    have hlt : t < args.length := by have := (List.getElem?_eq_some_iff.1 h2).1; simpa using this
    simp only [Nat.sub_zero] at h2
    rw [Array.getElem?_append_left (by simpa using hlt)]
    simpa using h2
  · intro x hx
    rcases List.mem_singleton.1 hx with rfl
    exact hB.at
  · intro x hx b hb
    rcases List.mem_singleton.1 hx with rfl
    cases hb
    exact hμB
  · intro x hx b hb
    rcases List.mem_singleton.1 hx with rfl
    cases hb
    exact .inl (by simp)
  · exact List.pairwise_singleton _ _
/-- Return, where one int of the caller's has been changed. -/
theorem ret_b {fn : Func} {n : Nat} {r : ResultVar} {v : Value} {μ0 : Mem} {Post : Mem → Value → Int → Prop} (i : Nat) {B : Nat} {t : TypeId} {cs : Slots} {k : Int} (hr : fn.results = #[r]) (h : RV P μ l L r v) (hi : nthB L i = some (.inl ⟨B, t, 1, cs⟩)) (hk : lk cs 0 = some (.int .i64 k))
    (hp : ∀ μ', MLe μ μ' → (∀ j x, nthB L j = some x → j ≠ i → Bk.sh x μ') → Post μ' v k) :
    GQ ⟨w, μ0, [B], n⟩ (bodyPost P fn (fun e w' => ∃ v μ' k', e = .returned v ∧ GrowB B w w' μ0 μ' ∧ IntAt B t k' w' ∧ Post μ' v k')) .ret μ l L := fun a w' hs => by
  have hμ' : ∃ μ', GrowB B w w' μ0 μ' ∧ MLe μ μ' ∧ ∀ x ∈ L, Bk.id x ≠ some B → Bk.sh x μ' := by
    refine ⟨fun b => if b < w.heap.size then μ0 b else w'.heap[b]?, ⟨hs.keep.os, hs.keep.tape, hs.keep.output, hs.keep.size, fun b hb hne => hs.keep.block b hb (by simpa using hne), fun b o e => ?_, fun b o e => ?_, fun b hb h0 => by simp [hb, h0]⟩, fun b o e => ?_, fun x hx hid => ?_⟩
    · by_cases hb : b < w.heap.size
      · simp [hb, e]
      · simp [hb]; exact hs.mem b o (hs.from0 b o e)
    · by_cases hb : b < w.heap.size
      · simp [hb] at e; exact hs.mem b o (hs.from0 b o e)
      · simp [hb] at e; exact e
    · by_cases hb : b < w.heap.size
      · simp only [hb, if_true]
        cases h0 : μ0 b with
        | none =>
          by_cases hbB : b = B
          · rw [hbB, hs.priv _ (nthB_mem hi) B rfl] at e; cases e
          · rw [hs.fresh b hb (by simpa using hbB) h0] at e; cases e
        | some o' => have := hs.from0 b o' h0; rw [this] at e; exact e
      · simp [hb]; exact hs.mem b o e
    · refine Bk.sh_of (hs.own x hx) (fun b o hb ho => ?_)
      have : ¬ b < w.heap.size := by
        rcases hs.new x hx b hb with h3 | h3
        · have : b = B := by simpa using h3
          exact absurd (by rw [hb, this]) hid
        · simpa using h3
      simp [this, ho]
  obtain ⟨μ', hg, hle, hL⟩ := hμ'
  exact ⟨hs.defers.none (fun D => by simp only [List.count_cons, List.count_nil]; split <;> omega), v, results1 hr h hs.rd, v, μ', k, rfl, hg, IntAt.of (hs.own _ (nthB_mem hi)) hk, hp μ' hle (fun j x hx hj => hL x (nthB_mem hx) (nthB_ne hs.diff hi hx hj B rfl))⟩
end
end Go.Vcg
