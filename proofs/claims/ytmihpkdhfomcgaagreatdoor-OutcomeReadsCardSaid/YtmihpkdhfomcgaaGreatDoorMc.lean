/- Panics: how one begins, a call that panics, a deferred call that recovers; a walk behind a defer statement. (and what leans on it). No statement of the seat is proved here. -/
import Derived.Test.YtmihpkdhfomcgaaGreatDoorBor
import Derived.Recover
set_option maxRecDepth 20000
namespace Go.Vcg
open Go.RowKit
abbrev pan (v : Value) : List PanicEntry := [{ v, recovered := false }]
section
variable {P : Program} {X : Ctx} {ops : Array Oper} {Q : Exit → Act → World → Prop} {rest : List Oper} {μ : Mem} {l : Slots} {L : List Bk} {a : Act} {w : World} {o : Oper} {d : Nat}
theorem gq_then_panic {K : Act → World → Prop} {ch : List PanicEntry} (h : GQ X Q (.panic ch) μ l L) : GQ X (Exit.then K Q) (.panic ch) μ l L := h
theorem gq_block_panic {i : Nat} {ch : List PanicEntry} (h : GQ X Q (.panic ch) μ l L) : GQ X (Exit.inBlock i Q) (.panic ch) μ l L := h
theorem qa_panic {K : Act → World → Prop} {ch : List PanicEntry} (h : GQ X Q (.panic ch) μ l L) : GQ X (QA Q K) (.panic ch) μ l L := h
theorem g_panic {x : Operand} {t : TypeId} {v : Value} {ds : Option Nat} {ty : TypeId} {pos : String} {af : Array Edge} {gd : Option (Nat × Bool)} (hw : wants ops l ⟨ds, .panic x, ty, pos, af, gd⟩ = some true) (hx : ev l x = some (.iface t v))
    (h : GQ X Q (.panic (pan (.iface t v))) μ l L) : G P X ops Q (⟨ds, .panic x, ty, pos, af, gd⟩ :: rest) μ l L :=
  g_wp hw fun a w hs => by
    have e := hs.eval hx
    unfold Oper.wp
    generalize hρ : a.eval = ρ at e
    have hr : (execOp ρ ⟨ds, .panic x, ty, pos, af, gd⟩).run P w = .halt (.panic (.iface t v)) w := by
      simp [execOp, resolve, invoke, builtin, e, Instr.panic, goPanic]
    rw [hr, Oper.upon_panic]
    exact h a w hs
theorem v_iface {x : Operand} {t : TypeId} {v : Value} {fs : Array Field} {ds : Option Nat} {ty : TypeId} {pos : String} {af : Array Edge} {gd : Option (Nat × Bool)} (hx : ev l x = some v) (ht : P.underlying t = some (.struct fs)) : Val P μ l L ⟨ds, .makeInterface t x, ty, pos, af, gd⟩ (.iface t v) := fun a w hs => by
  have e := hs.eval hx
  generalize a.eval = ρ at e
  simp [execOp, e, Instr.makeInterface, run_underlying ht]
theorem g_enter_pan {f : FuncId} {vs : Array Value} {ch : List PanicEntry} {LB Lr : List Bk} (k : Nat) (hw : wants ops l o = some true) (hr : Ent P μ l L o f vs) (hL : splitB k L = some (LB, Lr))
    (hc : ∀ w, MOk μ w → Own μ LB w → Calls P f vs w fun e w' => e = .panicked ch ∧ GrowM (idsOf LB) w w' μ μ) (h : GQ X Q (.panic ch) μ l Lr) : G P X ops Q (o :: rest) μ l L :=
  g_wp hw fun a w hs => by
    unfold Oper.wp
    rw [hr a w hs.rd, Oper.upon_enter]
    have he := splitB_eq hL
    subst he
    have hO : Own μ LB w := ⟨fun x hx => hs.own x (List.mem_append_left _ hx), fun x hx => hs.priv x (List.mem_append_left _ hx), (List.pairwise_append.1 hs.diff).1⟩
    refine (hc w hs.mem hO).mono fun e w' he => ?_
    obtain ⟨rfl, hg⟩ := he
    exact h a w' (by simpa using hs.borrow (L' := []) ⟨hg, ⟨by simp, by simp, List.Pairwise.nil⟩, by simp⟩)
theorem gq_pan {fn : Func} {n : Nat} {μ0 : Mem} {M : List Nat} {ch : List PanicEntry} {R : Ending → World → Prop} (hM : ∀ D, M.count D ≤ 1) (hR : ∀ w', GrowM M w w' μ0 μ0 → R (.panicked ch) w') :
    GQ ⟨w, μ0, M, n⟩ (bodyPost P fn R) (.panic ch) μ l L := fun a w' hs =>
  ⟨hs.defers.none hM, hR w' ⟨hs.keep.os, hs.keep.tape, hs.keep.output, hs.keep.size, hs.keep.block, MLe.refl _, fun b o e => hs.mem b o (hs.from0 b o e), fun _ _ _ h => h⟩⟩
def addD (a : Act) (ds : List Deferred) : Act := ⟨a.tmps, a.defers ++ ds⟩
theorem addD_put (a : Act) (ds : List Deferred) (d : Option Nat) (v : Value) : (addD a ds).put d v = addD (a.put d v) ds := by
  cases d <;> rfl
theorem upon_add {ds : List Deferred} {K K' : Act → World → Prop} {Q' : Exit → Act → World → Prop} (hK : ∀ a w, K a w → K' (addD a ds) w) (hQ : ∀ e a w, Q e a w → Q' e (addD a ds) w) {r : Result Next} (h : o.upon P a K Q r) : o.upon P (addD a ds) K' Q' r := by
  unfold Oper.upon at *
  split at h
  · rw [addD_put]; exact hK _ _ h
  · rw [addD_put]; exact hK _ _ h
  · have := hK _ _ h
    rw [← addD_put] at this
    exact this
  · refine Calls.mono h fun e w' he => ?_
    cases e with
    | returned v => dsimp only at he ⊢; rw [addD_put]; exact hK _ _ he
    | panicked ch => exact hQ _ _ _ he
    | outgrown => obtain ⟨a0, w0, h0⟩ := he; exact ⟨_, w0, hQ _ _ _ h0⟩
  · refine Rows.mono h fun v w' he => ?_
    rw [addD_put]; exact hK _ _ he
  · exact hQ _ _ _ h
  · exact h.elim
theorem wpList_add {ds : List Deferred} {Q' : Exit → Act → World → Prop} (hQ : ∀ e a w, Q e a w → Q' e (addD a ds) w) : ∀ (rest : List Oper) (a : Act) (w : World), wpList P ops Q rest a w → wpList P ops Q' rest (addD a ds) w
  | [], a, w, h => hQ _ _ _ h
  | o :: r, a, w, h => by
    unfold wpList at *
    have ht : (addD a ds).tmps = a.tmps := rfl
    have he : (addD a ds).eval = a.eval := rfl
    rw [ht]
    split at h
    · rename_i hw
      rw [if_pos hw]
      rcases h with h | ⟨h1, a0, w0, h0⟩
      · left
        unfold Oper.wp at *
        rw [he]
        exact upon_add (wpList_add hQ r) hQ h
      · right
        exact ⟨h1, _, w0, hQ _ _ _ h0⟩
    · rename_i hw
      rw [if_neg hw, addD_put]
      exact wpList_add hQ r _ _ h
def GD (P : Program) (X : Ctx) (ds : List Deferred) (c : Code) (Q : Exit → Act → World → Prop) (μ : Mem) (l : Slots) (L : List Bk) : Prop :=
  ∀ a w, St X μ l L a w → c.wp P Q (addD a ds) w
def QD (ds : List Deferred) (Q : Exit → Act → World → Prop) (e : Exit) (a : Act) (w : World) : Prop := Q e (addD a ds) w
theorem gd_seq {ds : List Deferred} {x y : Code} (h : GD P X ds x (Exit.then (y.wp P Q) Q) μ l L) : GD P X ds (.seq x y) Q μ l L := fun a w hs => wp_seq (h a w hs)
theorem gd_region {ds : List Deferred} {id : Nat} {os : List Oper} (h : G P X os.toArray (QD ds Q) os μ l L) : GD P X ds (.region id os.toArray false) Q μ l L := fun a w hs =>
  wp_region_lit (wpList_add (fun _ _ _ h => h) os a w (h a w hs))
theorem qd_then {ds : List Deferred} {y : Code} (h : GD P X ds y Q μ l L) : GQ X (QD ds (Exit.then (y.wp P Q) Q)) .normal μ l L := h
theorem qd_then_panic {ds : List Deferred} {K : Act → World → Prop} {ch : List PanicEntry} (h : GQ X (QD ds Q) (.panic ch) μ l L) : GQ X (QD ds (Exit.then K Q)) (.panic ch) μ l L := h
theorem gd_skip {ds : List Deferred} (h : GQ X (QD ds Q) .normal μ l L) : GD P X ds .skip Q μ l L := fun a w hs => wp_skip (h a w hs)
theorem gd_ret {ds : List Deferred} (h : GQ X (QD ds Q) .ret μ l L) : GD P X ds .ret Q μ l L := fun a w hs => wp_ret (h a w hs)
theorem g_defer {c : Call} {ty : TypeId} {pos : String} {af : Array Edge} {gd : Option (Nat × Bool)} {ds : Option Nat} {dd : Deferred} (hw : wants ops l ⟨ds, .defer c, ty, pos, af, gd⟩ = some true) (hn : ds = none) (hr : ∀ a w, Rd μ l L a w → (execOp a.eval ⟨ds, .defer c, ty, pos, af, gd⟩).run P w = .ok (.defer dd) w)
    (h : G P X ops (QD [dd] Q) rest μ l L) (hX : ∀ D, X.M.count D ≤ 1) : G P X ops Q (⟨ds, .defer c, ty, pos, af, gd⟩ :: rest) μ l L :=
  g_wp hw fun a w hs => by
    unfold Oper.wp
    rw [hr a w hs.rd, Oper.upon_defer]
    have h2 := wpList_add (Q' := Q) (fun _ _ _ h => h) rest a w (h a w hs)
    subst hn
    have h3 := hs.defers.none hX
    have : ({ a with defers := dd :: a.defers } : Act).put none undef = addD a [dd] := by
      simp [Act.put, addD, h3]
    rw [show (⟨none, Op.defer c, ty, pos, af, gd⟩ : Oper).dst = none from rfl, this]
    exact h2
theorem wpOpsS_of_list {QS : Exit → Act → List Frame → World → Prop} {cs : List Frame} (hno : ∀ a w, ¬QS .outgrown a cs w) : ∀ (os : List Oper) (k : Nat), (∀ j, os[j]? = ops[k + j]?) → ∀ a w, wpList P ops (fun e a w => QS e a cs w) os a w → wpOpsS P ops QS (List.range' k os.length) a cs w
  | [], k, _, a, w, h => h
  | o :: r, k, ho, a, w, h => by
    have h0 : ops[k]? = some o := by simpa using (ho 0).symm
    have ih := wpOpsS_of_list hno r (k + 1) (fun j => by have := ho (j + 1); simpa [Nat.add_assoc, Nat.add_comm 1 j] using this)
    simp only [List.length_cons, List.range'_succ, wpOpsS, h0]
    unfold wpList at h
    split at h
    · rename_i hw
      rw [if_pos hw]
      rcases h with h | ⟨_, a0, w0, h0⟩
      · unfold Oper.wp at h
        cases hr : (execOp a.eval o).run P w with
        | halt e w' =>
          rw [hr] at h
          cases e <;> exact h
        | ok x w' =>
          rw [hr] at h
          cases x with
          | recover => exact h.elim
          | value v => exact ih _ _ h
          | skip => exact ih _ _ h
          | defer dd => exact ih _ _ h
          | enter f args =>
            refine Calls.mono h fun e w'' he => ?_
            cases e with
            | returned v => exact ih _ _ he
            | panicked ch => exact he
            | outgrown => obtain ⟨a0, w0, h0⟩ := he; exact (hno _ _ h0).elim
          | row row args => exact Rows.mono h fun v w'' he => ih _ _ he
          | _ => exact h
      · exact (hno _ _ h0).elim
    · rename_i hw
      rw [if_neg hw]
      exact ih _ _ h
end
end Go.Vcg
set_option maxRecDepth 20000
namespace Go.Vcg
open Go.RowKit
section
variable {P : Program} {X : Ctx} {ops : Array Oper} {Q : Exit → Act → World → Prop} {rest : List Oper} {μ : Mem} {l : Slots} {L : List Bk} {a : Act} {w : World} {o : Oper} {d : Nat}
theorem g_enter_panB {f : FuncId} {vs : Array Value} {ι : Type} {Ls : ι → List Bk} {ch : List PanicEntry} {LB Lr : List Bk} (k : Nat) (hw : wants ops l o = some true) (hr : Ent P μ l L o f vs) (hL : splitB k L = some (LB, Lr))
    (hc : ∀ w, MOk μ w → Own μ LB w → Calls P f vs w fun e w' => ∃ μ' i, e = .panicked ch ∧ BackM (idsOf LB) w w' μ (Ls i) μ') (h : ∀ μ' i, MLe μ μ' → GQ X Q (.panic ch) μ' l (Ls i ++ Lr)) : G P X ops Q (o :: rest) μ l L :=
  g_wp hw fun a w hs => by
    unfold Oper.wp
    rw [hr a w hs.rd, Oper.upon_enter]
    have he := splitB_eq hL
    subst he
    have hO : Own μ LB w := ⟨fun x hx => hs.own x (List.mem_append_left _ hx), fun x hx => hs.priv x (List.mem_append_left _ hx), (List.pairwise_append.1 hs.diff).1⟩
    refine (hc w hs.mem hO).mono fun e w' he => ?_
    obtain ⟨μ', i, rfl, hb⟩ := he
    exact h μ' i hb.1.le a w' (hs.borrow hb)
theorem gq_panB {fn : Func} {n : Nat} {μ0 : Mem} {M : List Nat} {ch : List PanicEntry} {ι : Type} {Ls : ι → List Bk} {L' Lr : List Bk} (k : Nat) (i : ι) (hM : ∀ D, M.count D ≤ 1) (hL : splitB k L = some (L', Lr)) (hLs : Ls i = L') :
    GQ ⟨w, μ0, M, n⟩ (bodyPost P fn (fun e w' => ∃ μ' i, e = .panicked ch ∧ BackM M w w' μ0 (Ls i) μ')) (.panic ch) μ l L := fun a w' hs => by
  have he := splitB_eq hL
  subst he
  obtain ⟨μ', hb, _⟩ := hs.giveBack
  subst hLs
  exact ⟨hs.defers.none hM, μ', i, rfl, hb⟩
end
end Go.Vcg
