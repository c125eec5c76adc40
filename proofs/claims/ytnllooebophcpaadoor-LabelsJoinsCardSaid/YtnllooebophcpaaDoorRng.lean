/- Ranges over functions: the loop's statement, the call of yield, the code of a round. No statement of the seat is proved here. -/
import Derived.Test.YtnllooebophcpaaDoorBor
import Derived.RangeFuncLeaves
import Derived.OwnWalkIn
import Derived.RangeFuncCalls
import Derived.OrdersIn
set_option maxRecDepth 20000
namespace Go.Vcg
open Go.RowKit
/-- a fence without bounds: outside all rounds, or in a round -/
structure WideF (F : Fence) : Prop where
  fn : ∀ f, F.fn f
  depth : F.depth = none
  calls : ∀ {n : Nat} {P : Program} {f : FuncId} {args : Array Value} {w : World} {R : Ending → World → Prop}, Calls P f args w R → CallsIn F n P f args w R
  rows : ∀ {n : Nat} {P : Program} {row : String} {args : Array Value} {w : World} {R : Value → World → Prop}, Rows P row args w R → RowsIn F n P row args w R
theorem rows_wide {n : Nat} {P : Program} {row : String} {args : Array Value} {w : World} {R : Value → World → Prop} (h : Rows P row args w R) : RowsIn Fence.wide n P row args w R := fun c cs _ =>
  let ⟨v, w', r, s⟩ := h c cs
  ⟨v, w', r, stepsIn_wide.2 s⟩
theorem wideF_wide : WideF Fence.wide := ⟨fun _ => trivial, rfl, fun h => callsIn_wide.2 h, fun h => rows_wide h⟩
theorem wideF_round (lr : Nat) : WideF (Fence.wide.inRound lr) := ⟨fun _ => trivial, rfl, fun h => CallsIn.inRound lr (callsIn_wide.2 h), fun {n} {_} {_} {_} {_} {_} h => (rows_wide (n := n) h)⟩
def NoOut (Q : Exit → Act → World → Prop) : Prop := ∀ a w, ¬ Q .outgrown a w
def noDefer (o : Oper) : Bool := match o.op with
  | .defer _ => false
  | _ => true
theorem noDefer_spec {o : Oper} (h : noDefer o = true) : ∀ c, o.op ≠ .defer c := fun c e => by simp [noDefer, e] at h
def GI (P : Program) (F : Fence) (n : Nat) (X : Ctx) (ops : Array Oper) (Q : Exit → Act → World → Prop) (rest : List Oper) (μ : Mem) (l : Slots) (L : List Bk) : Prop :=
  ∀ a w, St X μ l L a w → wpListIn F n P ops Q rest a w
def GCI (P : Program) (F : Fence) (n : Nat) (X : Ctx) (c : Code) (Q : Exit → Act → World → Prop) (μ : Mem) (l : Slots) (L : List Bk) : Prop :=
  ∀ a w, St X μ l L a w → c.wpIn F n P Q a w
section
variable {P : Program} {F : Fence} {n : Nat} {X : Ctx} {ops : Array Oper} {Q : Exit → Act → World → Prop} {rest : List Oper} {μ : Mem} {l : Slots} {L : List Bk} {a : Act} {w : World} {o : Oper} {d : Nat}
theorem op_in (hF : WideF F) (hnd : ∀ c, o.op ≠ .defer c) {K : Act → World → Prop} (h : o.wp P a w K Q) : o.wpIn F n P a w K Q := by
  refine ⟨fun f _ => hF.fn f, ?_⟩
  rw [Oper.semAt_plain F a.eval o hnd]
  unfold Oper.wp at h
  have hd : ∀ k : Nat, F.depth.isSome = true → 1 ≤ k := fun k e => by rw [hF.depth] at e; cases e
  generalize (execOp a.eval o).run P w = r at *
  cases r with
  | ok nx w' =>
    cases nx <;> first
      | exact h
      | exact h.elim
      | (refine ⟨hd _, hF.calls (Calls.mono h fun e w'' he => ?_)⟩
         cases e <;> exact he)
      | exact ⟨hd _, hF.rows h⟩
  | halt x w' => cases x <;> exact h
theorem list_in (hF : WideF F) (hQ : NoOut Q) : ∀ (rest : List Oper), rest.all noDefer = true → ∀ (a : Act) (w : World), wpList P ops Q rest a w → wpListIn F n P ops Q rest a w
  | [], _, a, w, h => h
  | o :: r, hnd, a, w, h => by
    simp only [List.all_cons, Bool.and_eq_true] at hnd
    unfold wpList at h
    unfold wpListIn
    split
    · rename_i hw
      rw [if_pos hw] at h
      rcases h with h | ⟨_, a', w', h⟩
      · have h2 := op_in (n := n) hF (noDefer_spec hnd.1) h
        refine ⟨h2.1, ?_⟩
        have h3 := h2.2
        revert h3
        generalize (o.semAt F.round a.eval).run P w = res
        intro h3
        cases res with
        | ok nx w' =>
          cases nx <;> first
            | exact h3
            | exact list_in hF hQ r hnd.2 _ _ h3
            | (refine ⟨h3.1, CallsIn.mono h3.2 fun e w'' he => ?_⟩
               cases e <;> first
                 | exact he
                 | exact list_in hF hQ r hnd.2 _ _ he)
            | (refine ⟨h3.1, RoundIn.mono h3.2 fun e w'' he => ?_⟩
               cases e <;> first
                 | exact he
                 | exact list_in hF hQ r hnd.2 _ _ he)
            | exact ⟨h3.1, RowsIn.mono h3.2 fun v w'' he => list_in hF hQ r hnd.2 _ _ he⟩
        | halt x w' => cases x <;> exact h3
      · exact absurd h (hQ a' w')
    · rename_i hw
      rw [if_neg hw] at h
      exact ⟨fun f _ => hF.fn f, list_in hF hQ r hnd.2 _ _ h⟩

theorem gci_seq {x y : Code} (h : GCI P F n X x (Exit.then (y.wpIn F n P Q) Q) μ l L) : GCI P F n X (.seq x y) Q μ l L := fun a w hs => wpIn_seq (h a w hs)
theorem gci_skip (h : GQ X Q .normal μ l L) : GCI P F n X .skip Q μ l L := fun a w hs => wpIn_skip (h a w hs)
theorem gci_exit {id : Nat} (h : GQ X Q (.exit id) μ l L) : GCI P F n X (.exit id) Q μ l L := fun a w hs => wpIn_exit (h a w hs)
theorem gci_ret (h : GQ X Q .ret μ l L) : GCI P F n X .ret Q μ l L := fun a w hs => wpIn_ret (h a w hs)
theorem gci_block {id : Nat} {c : Code} (h : GCI P F n X c (Exit.inBlock id Q) μ l L) : GCI P F n X (.block id c) Q μ l L := fun a w hs => wpIn_block (h a w hs)
theorem gci_region {id : Nat} {ops : List Oper} (hF : WideF F) (hQ : NoOut Q) (hnd : ops.all noDefer = true) (h : G P X ops.toArray Q ops μ l L) : GCI P F n X (.region id ops.toArray false) Q μ l L := fun a w hs =>
  wpIn_region_lit (list_in hF hQ ops hnd a w (h a w hs))
theorem gci_if {c : Operand} {x y : Code} {b : Bool} (hc : ev l c = some (.bool b)) (h : PIf b (GCI P F n X x Q μ l L) (GCI P F n X y Q μ l L)) : GCI P F n X (.cond c x y) Q μ l L := fun a w hs =>
  wpIn_cond_split (hs.eval hc) (fun e => h.1 e a w hs) (fun e => h.2 e a w hs)
theorem gqi_then {y : Code} (h : GCI P F n X y Q μ l L) : GQ X (Exit.then (y.wpIn F n P Q) Q) .normal μ l L := h

/-! an operation at a time -/
theorem gi_step (hF : WideF F) (hQ : NoOut Q) (hnd : noDefer o = true) (h : G P X ops (QA Q (wpListIn F n P ops Q rest)) [o] μ l L) : GI P F n X ops Q (o :: rest) μ l L := fun a w hs => by
  have h1 := h a w hs
  unfold wpList at h1
  unfold wpListIn
  split
  · rename_i hw
    rw [if_pos hw] at h1
    rcases h1 with h1 | ⟨_, a', w', h1⟩
    · exact op_in hF (noDefer_spec hnd) (wp_QA h1)
    · exact absurd h1 (hQ a' w')
  · rename_i hw
    rw [if_neg hw] at h1
    exact ⟨fun f _ => hF.fn f, h1⟩
theorem g_gi_nil (h : GI P F n X ops Q rest μ l L) : G P X ops (QA Q (wpListIn F n P ops Q rest)) [] μ l L := fun a w hs => h a w hs
theorem gi_nil (h : GQ X Q .normal μ l L) : GI P F n X ops Q [] μ l L := fun a w hs => h a w hs
theorem gc_region_i {id : Nat} {ops : List Oper} (h : GI P Fence.wide 0 X ops.toArray Q ops μ l L) : GC P X (.region id ops.toArray false) Q μ l L := fun a w hs =>
  wpIn_wide.1 (wpIn_region_lit (n := 0) (h a w hs))

theorem St.start {nt : Nat} {μ2 : Mem} {w' : World} (hsz : a.tmps.size = nt) (hdf : a.defers = []) (hsl : ∀ t v, lk l t = some v → a.tmps[t]? = some v) (hm : MOk μ2 w') : St ⟨w', μ2, [], nt⟩ μ2 l [] a w' :=
  ⟨hsz, by rw [hdf]; exact Marks.nil, hsl, Keep.refl _ _, hm, MLe.refl _, fun _ _ _ h => h, by simp, by simp, by simp, List.Pairwise.nil⟩
/-! the iterator's side -/
/-- what a round keeps: the shared memory; blocks that are newer than the last round -/
def YHyp (P : Program) {α : Type} (lr : Nat) (enc : α → List Value) (Ok : List α → α → Prop) (μ : Mem) (N : Nat) (J Jx : List α → World → Prop) : Prop :=
  ∀ (pre : List α) (x : α) (Wp W1 : World), Ok pre x → J pre Wp → Below Wp.heap.size Wp W1 → pre.length < N → YieldAt Fence.wide 0 P lr (enc x).toArray W1 fun e W' =>
    (e = .returned (.bool true) ∧ J (pre ++ [x]) W' ∧ MOk μ W' ∧ (∀ b, Wp.heap.size ≤ b → b < W1.heap.size → W'.heap[b]? = W1.heap[b]?)) ∨
    (e = .returned (.bool false) ∧ Jx (pre ++ [x]) W')
def JAb {α : Type} (J : List α → World → Prop) : Prop := ∀ pre W W1, J pre W → Below W.heap.size W W1 → J pre W1
def SeqW (P : Program) {α : Type} (gf : FuncId) (lb : List Value) (enc : α → List Value) (Ok : List α → α → Prop) (μ : Mem) (N : Nat) (S Sp : List α → Prop) : Prop :=
  ∀ (lr : Nat) (J Jx : List α → World → Prop) (W : World), MOk μ W → JAb J → JAb Jx → YHyp P lr enc Ok μ N J Jx → J [] W →
    Calls P gf ((Value.func (.yield lr) #[] #[] :: lb)).toArray W fun e W' => (∃ v, e = .returned v) ∧ ((∃ xs, S xs ∧ J xs W') ∨ (∃ pre, Sp pre ∧ Jx pre W'))
/-- the call of yield, all that is new since the call began becoming shared memory -/
theorem gi_yieldH {α : Type} {enc : α → List Value} {Ok : List α → α → Prop} {N lr nt : Nat} {J Jx : List α → World → Prop} {w0 : World} {μ0 : Mem} (hY : YHyp P lr enc Ok μ N J Jx) (x : α) (pre : List α) (hok : Ok pre x) (hJ : J pre w0) (hlen : pre.length < N)
    (hd : o.dst = some d) (hn : Nat.blt d nt = true) (hw : wants ops l o = some true) (hnd : noDefer o = true)
    (hr : ∀ a w, Rd μ l L a w → (execOp a.eval o).run P w = (Instr.yield lr (enc x).toArray).run P w)
    (ht : ∀ w' μ', MLe μ μ' → (∀ y ∈ L, Bk.sh y μ') → J (pre ++ [x]) w' → MOk μ' w' → GI P Fence.wide 0 ⟨w', μ', [], nt⟩ ops Q rest μ' ((d, .bool true) :: l) [])
    (hf : ∀ w', Jx (pre ++ [x]) w' → GI P Fence.wide 0 ⟨w', fun _ => none, [], nt⟩ ops Q rest (fun _ => none) ((d, .bool false) :: l) []) :
    GI P Fence.wide 0 ⟨w0, μ0, [], nt⟩ ops Q (o :: rest) μ l L := fun a w hs => by
  unfold wpListIn
  rw [if_pos (hs.wanted hw)]
  refine ⟨fun f _ => trivial, ?_⟩
  rw [Oper.semAt_plain Fence.wide a.eval o (noDefer_spec hnd), hr a w hs.rd]
  obtain ⟨fn, tmps, assign, body, hy, hR⟩ := hY pre x w0 w hok hJ hs.keep.below hlen
  rw [hy]
  refine ⟨fun e => by simp [Fence.wide] at e, hR.mono fun e w' he => ?_⟩
  have hdf : a.defers = [] := hs.defers.none (by simp)
  rcases he with ⟨rfl, hJ', hm, hk⟩ | ⟨rfl, hJ'⟩
  · have hmem : MOk (fun b => match μ b with
        | some o => some o
        | none => if w0.heap.size ≤ b ∧ b < w.heap.size then w.heap[b]? else none) w' := fun b o e => by
      dsimp only at e
      split at e
      · rename_i o' h1
        cases e
        exact hm b o h1
      · split at e
        · rename_i h1
          rw [hk b h1.1 h1.2]
          exact e
        · cases e
    show wpListIn _ _ P ops Q rest (a.put o.dst (.bool true)) w'
    rw [hd]
    refine ht w' _ (fun b o e => by simp [e]) (fun y hy => Bk.sh_of (hs.own y hy) (fun b o hb ho => ?_)) hJ' hmem _ _ (St.put (St.start hs.size hdf hs.slots hmem) hn _)
    have h1 : w0.heap.size ≤ b := by
      rcases hs.new y hy b hb with h1 | h1
      · cases h1
      · exact h1
    have h2 := (Array.getElem?_eq_some_iff.1 ho).1
    simp only [hs.priv y hy b hb, h1, h2, and_self, if_true]
    exact ho
  · show wpListIn _ _ P ops Q rest (a.put o.dst (.bool false)) w'
    rw [hd]
    exact hf w' hJ' _ _ (St.put (St.start hs.size hdf hs.slots (μ2 := fun _ => none) (fun _ _ e => (by cases e))) hn _)
theorem run_callYield {q : Operand} {lr : Nat} {ts : Array TypeId} {x0 x1 : Operand} {v0 v1 : Value} {ds : Option Nat} {ty : TypeId} {pos : String} {af : Array Edge} {gd : Option (Nat × Bool)} (hq : ev l q = some (.func (.yield lr) #[] #[])) (h0 : ev l x0 = some v0) (h1 : ev l x1 = some v1) (a : Act) (w : World) (hr : Rd μ l L a w) :
    (execOp a.eval ⟨ds, .call { callee := .value q, args := #[x0, x1], argTypes := ts }, ty, pos, af, gd⟩).run P w = (Instr.yield lr #[v0, v1]).run P w := by
  have e := hr.eval hq
  have e0 := hr.eval h0
  have e1 := hr.eval h1
  generalize a.eval = ρ at e e0 e1
  simp [execOp, resolve, e, e0, e1, Deferred.ofValue, invoke]
/-- a new start at a world in which nothing is the call's own -/
theorem gc_restart {w0 : World} {μ0 μ2 : Mem} {nt : Nat} {c : Code} (hle : MLe μ2 μ) (h : ∀ w', Below w0.heap.size w0 w' → MOk μ2 w' → GC P ⟨w', μ2, [], nt⟩ c Q μ2 l []) : GC P ⟨w0, μ0, [], nt⟩ c Q μ l L := fun a w hs =>
  have hm : MOk μ2 w := fun b o e => hs.mem b o (hle b o e)
  h w hs.keep.below hm a w ⟨hs.size, by rw [hs.defers.none (by simp)]; exact Marks.nil, hs.slots, Keep.refl _ _, hm, MLe.refl _, fun _ _ _ h => h, by simp, by simp, by simp, List.Pairwise.nil⟩
/-- A loop between whose rounds the world is another's: 'J' speaks of the world. -/
def BackW (nt : Nat) {ι : Type} (J : ι → World → Prop) (m : ι → Nat) (μ : Mem) (ls : ι → Slots) (i : ι) (a : Act) (w : World) : Prop :=
  ∃ j, J j w ∧ m j < m i ∧ St ⟨w, μ, [], nt⟩ μ (ls j) [] a w
theorem gc_loopW {nt : Nat} {c : Code} {ι : Type} (J : ι → World → Prop) (m : ι → Nat) (ls : ι → Slots) (i0 : ι) {w0 : World} (h0 : J i0 w0) (hs0 : SubS (ls i0) l)
    (hJ : ∀ i w w', J i w → Below w.heap.size w w' → J i w')
    (round : ∀ i w, J i w → MOk μ w → GC P ⟨w, μ, [], nt⟩ c (Exit.then (BackW nt J m μ ls i) Q) μ (ls i) []) : GC P ⟨w0, μ, [], nt⟩ (.loop c) Q μ l L := by
  intro a w hs b k cs
  have key : ∀ n i a w, m i = n → J i w → St ⟨w, μ, [], nt⟩ μ (ls i) [] a w →
      ∃ e a' w', Q e a' w' ∧ Arrives P (lone (b.at a (.code c :: .inLoop c :: k)) cs w) b k cs e a' w' := by
    intro n
    induction n using Nat.strongRecOn with
    | _ n ih =>
      intro i a w hn hJ hst
      obtain ⟨e, a₁, w₁, hq, harr⟩ := round i w hJ hst.mem a w hst b (.inLoop c :: k) cs
      cases e with
      | normal =>
        obtain ⟨j, hJj, hlt, hstj⟩ := hq
        obtain ⟨e₂, a₂, w₂, hq₂, harr₂⟩ := ih (m j) (hn ▸ hlt) j a₁ w₁ rfl hJj hstj
        exact ⟨e₂, a₂, w₂, hq₂, .of_steps (Steps.trans harr (.one step_inLoop)) harr₂⟩
      | exit id => exact ⟨_, a₁, w₁, hq, .pass (x := .inLoop c) rfl (fun _ _ => .inl (by simp)) harr⟩
      | goto l => exact ⟨_, a₁, w₁, hq, .pass (x := .inLoop c) rfl (fun _ _ => .inl (by simp)) harr⟩
      | ret => exact ⟨_, a₁, w₁, hq, .pass (x := .inLoop c) rfl (fun _ _ => .inl (by simp)) harr⟩
      | panic ch => exact ⟨_, a₁, w₁, hq, .pass (x := .inLoop c) rfl (fun _ _ => .inl (by simp)) harr⟩
      | outgrown => exact ⟨_, a₁, w₁, hq, .pass (x := .inLoop c) rfl (fun _ _ => .inl (by simp)) harr⟩
  have hs1 : St ⟨w, μ, [], nt⟩ μ (ls i0) [] a w := ⟨hs.size, by rw [hs.defers.none (by simp)]; exact Marks.nil, fun t v hv => hs.slots t v (hs0 t v hv), Keep.refl _ _, hs.mem, MLe.refl _, fun _ _ _ h => h, by simp, by simp, by simp, List.Pairwise.nil⟩
  obtain ⟨e, a', w', hq, harr⟩ := key _ i0 a w rfl (hJ _ _ _ h0 hs.keep.below) hs1
  exact ⟨e, a', w', hq, .of_steps (.one step_loop) harr⟩
theorem gq_backW {nt : Nat} {ι : Type} {J : ι → World → Prop} {m : ι → Nat} {ls : ι → Slots} {i : ι} {w0 : World} {μ0 : Mem} (j : ι) (hJ : ∀ w', Below w0.heap.size w0 w' → J j w') (hm : m j < m i) (hl : SubS (ls j) l) :
    GQ ⟨w0, μ0, [], nt⟩ (Exit.then (BackW nt J m μ ls i) Q) .normal μ l L := fun a w hs =>
  ⟨j, hJ w hs.keep.below, hm, hs.size, by rw [hs.defers.none (by simp)]; exact Marks.nil, fun t v hv => hs.slots t v (hl t v hv), Keep.refl _ _, hs.mem, MLe.refl _, fun _ _ _ h => h, by simp, by simp, by simp, List.Pairwise.nil⟩
theorem ret_w0 {fn : Func} {nt : Nat} {μ0 : Mem} {R : Ending → World → Prop} (hr : fn.results = #[]) (hp : ∀ w' v, MOk μ w' → Below w.heap.size w w' → R (.returned v) w') {e : Exit} (he : e = .ret ∨ e = .normal) :
    GQ ⟨w, μ0, [], nt⟩ (bodyPost P fn R) e μ l L := fun a w' hs => by
  have : ∃ v, (results fn a.tmps).run P w' = .ok v w' := by simp [results, hr]
  obtain ⟨v, hv⟩ := this
  rcases he with rfl | rfl
  all_goals exact ⟨hs.defers.none (by simp), v, hv, hp _ _ hs.mem hs.keep.below⟩
end
end Go.Vcg
