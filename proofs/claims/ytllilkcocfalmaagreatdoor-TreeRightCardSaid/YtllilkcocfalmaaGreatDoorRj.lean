/- A machine for closed runs: a row of operations. No statement of the seat is proved here. -/
import Derived.Test.YtllilkcocfalmaaGreatDoorRi
import Derived.Defers
set_option maxRecDepth 20000
namespace Go.Rex
open Go.RowKit
open Go.Vcg (Keep callable)

/-- the names below 'n' stay -/
def Ext (n : Nat) (ρ ρ' : Env) : Prop := ∀ c, c < n → ρ' c = ρ c
structure Ev (ρ : Env) (h : Heap) (nx : Nat) (ρ' : Env) (h' : Heap) (nx' : Nat) : Prop where
  ext : Ext nx ρ ρ'
  le : nx ≤ nx'
  pr : Pr h h'
theorem Ev.refl (ρ : Env) (h : Heap) (nx : Nat) : Ev ρ h nx ρ h nx := ⟨fun _ _ => rfl, Nat.le_refl _, Pr.refl _⟩
theorem Ev.trans {ρ ρ' ρ'' : Env} {h h' h'' : Heap} {nx nx' nx'' : Nat} (p : Ev ρ h nx ρ' h' nx') (q : Ev ρ' h' nx' ρ'' h'' nx'') : Ev ρ h nx ρ'' h'' nx'' :=
  ⟨fun c hc => (q.ext c (Nat.lt_of_lt_of_le hc p.le)).trans (p.ext c hc), Nat.le_trans p.le q.le, p.pr.trans q.pr⟩
section
variable {P : Program} {qs : List FuncId} {N : Nat} {w0 : World} {ρ ρ' : Env} {h h' : Heap} {l : Sls} {a : Act} {w w' : World} {nx nx' : Nat}
theorem Ev.ele (r : Rel w0 ρ h nx w) (e : Ev ρ h nx ρ' h' nx') : ELe ρ ρ' := fun b x hb => by
  rcases Nat.lt_or_ge b nx with h1 | h1
  · rw [e.ext b h1]; exact hb
  · rw [r.new b h1] at hb; cases hb

/-- a deferred call that changes nothing where nobody panics -/
def QuietF (P : Program) (f : FuncId) : Prop := ∀ (args : Array Value) (w : World), CallsD P f args .returning w fun e u' w' => (∃ v, e = .returned v) ∧ u' = .returning ∧ Below w.heap.size w w'
def QuietD (P : Program) (qs : List FuncId) (d : Deferred) : Prop := ∃ f cap, f ∈ qs ∧ d.target = .fn (.func f) cap ∧ callable P f = true ∧ QuietF P f
/-- the machine's state and the real one -/
structure R (P : Program) (qs : List FuncId) (w0 : World) (N : Nat) (ρ : Env) (h : Heap) (nx : Nat) (l : Sls) (a : Act) (w : World) : Prop where
  rel : Rel w0 ρ h nx w
  sl : Sl N ρ l a
  df : ∀ d ∈ a.defers, QuietD P qs d
def putL (l : Sls) (d : Option Nat) (v : Value) : Sls := match d with
  | some d => sset l d v
  | none => l
theorem TR.put {t : Array Value} (ht : TR ρ l t) {v V : Value} (hv : rv ρ v = some V) (d : Nat) : TR ρ (sset l d v) (t.setIfInBounds d V) := by
  obtain ⟨ln, lt⟩ := l
  have old : ∀ i u, i ≠ d → sget ⟨ln, lt⟩ i = some u → isHole u = false → ∃ V', (t.setIfInBounds d V)[i]? = some V' ∧ rv ρ u = some V' := fun i u hi hu hh => by
    obtain ⟨V', h1, h2⟩ := ht.2 i u hu hh
    exact ⟨V', by rw [Array.getElem?_setIfInBounds_ne (Ne.symm hi)]; exact h1, h2⟩
  by_cases hn : Nat.blt d ln = true
  · by_cases hs : Nat.blt d 512 = true
    · have e : sset ⟨ln, lt⟩ d v = ⟨ln, tset 9 lt d (some v)⟩ := by simp [sset, hn, hs]
      rw [e]
      refine ⟨by simpa using ht.1, fun i u hu hh => ?_⟩
      by_cases hi : i = d
      · subst hi
        have : u = v := by
          unfold sget at hu
          rw [hs] at hu
          simp only [tget_set_same] at hu
          cases hu; rfl
        subst this
        exact ⟨V, by rw [Array.getElem?_setIfInBounds_self_of_lt (by rw [ht.1]; exact blt_t hn)], hv⟩
      · refine old i u hi ?_ hh
        unfold sget at hu ⊢
        split at hu
        · rename_i hi5
          rw [tget_set_other 9 lt d i (some v) (blt_t hs) (blt_t hi5) hi] at hu
          exact hu
        · cases hu
    · have e : sset ⟨ln, lt⟩ d v = ⟨ln, lt⟩ := by simp [sset, hn, hs]
      have hs' : ¬ d < 512 := fun h => hs (by rw [Nat.blt, Nat.ble_eq]; exact h)
      rw [e]
      refine ⟨by simpa using ht.1, fun i u hu hh => old i u (fun hi => ?_) hu hh⟩
      subst hi
      unfold sget at hu
      split at hu
      · rename_i h5; exact hs (h5)
      · cases hu
  · have e : sset ⟨ln, lt⟩ d v = ⟨ln, lt⟩ := by simp [sset, hn]
    rw [e]
    refine ⟨by simpa using ht.1, fun i u hu hh => old i u (fun hi => ?_) hu hh⟩
    subst hi
    obtain ⟨V', h1, _⟩ := ht.2 i u hu hh
    have := (Array.getElem?_eq_some_iff.1 h1).1
    rw [ht.1] at this
    exact hn (by rw [Nat.blt, Nat.ble_eq]; exact this)
theorem R.put (r : R P qs w0 N ρ h nx l a w) {v V : Value} (hv : rv ρ v = some V) (d : Option Nat) : R P qs w0 N ρ h nx (putL l d v) (a.put d V) w := by
  cases d with
  | none => exact r
  | some d => exact ⟨r.rel, ⟨r.sl.glob, r.sl.tmps.put hv d⟩, r.df⟩
theorem R.go (r : R P qs w0 N ρ h nx l a w) (hle : ELe ρ ρ') (hr : Rel w0 ρ' h' nx' w') : R P qs w0 N ρ' h' nx' l a w' := ⟨hr, ⟨r.sl.glob.mono hle, r.sl.tmps.mono hle⟩, r.df⟩
def undefV : Value := .tuple ⟨[]⟩
theorem rv_undef : rv ρ undefV = some undef := by simp [undefV, undef, rv, rvs]

/-- is the operation carried out? -/
def gwants (ops : List Oper) (l : Sls) (o : Oper) : Option Bool := match o.guard with
  | none => some true
  | some (g, want) => match nth ops g with
    | some o' => match o'.dst with
      | some t => match sget l t with
        | some (.bool b) => some (b == want)
        | some (.tuple ⟨[]⟩) => some false
        | _ => none
      | none => none
    | none => none
theorem gwants_sound (hs : Sl N ρ l a) {ops : List Oper} {o : Oper} {b : Bool} (e : gwants ops l o = some b) : Region.wanted o (yielded ops.toArray a.tmps) = b := by
  unfold gwants at e
  unfold Region.wanted
  split at e
  · rename_i hg; cases e; simp [hg]
  · rename_i g want hg
    split at e
    · rename_i o' ho
      rw [nth_eq] at ho
      split at e
      · rename_i t ht
        have hy : (((ops.toArray[g]?).bind (·.dst)) : Option Nat) = some t := by simp [ho, ht]
        split at e
        · rename_i b' hb
          cases e
          obtain ⟨V, h1, h2⟩ := hs.tmps.2 t _ hb rfl
          cases rv_nil h2 rfl
          simp only [hg, yielded, hy, Option.bind_some, h1]
          cases b' <;> cases want <;> rfl
        · rename_i hb
          cases e
          obtain ⟨V, h1, h2⟩ := hs.tmps.2 t _ hb rfl
          have : V = .tuple ⟨[]⟩ := rv_flat2_eq rfl h2
          subst this
          simp only [hg, yielded, hy, Option.bind_some, h1]
          rfl
        · cases e
      · cases e
    · cases e

abbrev CallF := FuncId → List Value → Heap → Nat → Option (Value × Heap × Nat)
def CallOk (P : Program) (w0 : World) (N : Nat) (call : CallF) : Prop :=
  ∀ ρ h nx f vs VS w v h' nx', call f vs h nx = some (v, h', nx') → Rel w0 ρ h nx w → Glob N ρ → rvs ρ vs = some VS →
    ∀ R' : Ending → World → Prop, (∀ ρ' V w', Ev ρ h nx ρ' h' nx' → rv ρ' v = some V → Rel w0 ρ' h' nx' w' → R' (.returned V) w') → Calls P f VS.toArray w R'

theorem Rel.fresh (r : Rel w0 ρ h nx w) (hn : nx < 1048576) : Fresh ρ nx nx (nx + 1) := ⟨r.new nx (Nat.le_refl _), Nat.le_succ _, Nat.lt_succ_self _, hn⟩
theorem ev_of {b0 : Nat} (hb : nx ≤ b0) (ho : ∀ c, c ≠ b0 → ρ' c = ρ c) (hn : nx ≤ nx') (hp : Pr h h') : Ev ρ h nx ρ' h' nx' :=
  ⟨fun c hc => ho c (by omega), hn, hp⟩

/-- a call is deferred: of a function that is known to be quiet -/
def dop (P : Program) (N : Nat) (qs : List FuncId) (l : Sls) (o : Oper) : Bool := match o.op with
  | .defer { callee := .value q, args := ⟨[]⟩, .. } => match aev N l q with
    | some (.func (.func f) ⟨[]⟩ _) => match qs.any (Nat.beq f) with
      | true => callable P f
      | false => false
    | _ => false
  | _ => false
theorem dop_sound (hq : ∀ f ∈ qs, QuietF P f) (hs : Sl N ρ l a) {o : Oper} (e : dop P N qs l o = true) : ∃ d, QuietD P qs d ∧ (execOp a.eval o).run P w = .ok (.defer d) w := by
  obtain ⟨ds, op, ty, pos, af, gd⟩ := o
  unfold dop at e
  dsimp only at e
  split at e
  · rename_i q ts
    split at e
    · rename_i f cs hf
      split at e
      · rename_i hany
        obtain ⟨g, hg, hfg⟩ := List.any_eq_true.1 hany
        have hfg := Nat.eq_of_beq_eq_true hfg
        subst hfg
        obtain ⟨X, Y, h1, h2, h3⟩ := rv_func (aev_sound hs hf)
        simp [rvs] at h1
        subst h1
        refine ⟨{ target := .fn (.func f) ⟨Y⟩, args := #[] }, ⟨f, ⟨Y⟩, hg, rfl, e, hq f hg⟩, ?_⟩
        generalize a.eval = ev at h3
        simp [execOp, resolve, h3, Deferred.ofValue]
      · cases e
    · cases e
  · cases e
/-- operations in a row -/
def runOps (P : Program) (N : Nat) (qs : List FuncId) (call : CallF) (ops : List Oper) : List Oper → Heap → Nat → Sls → Option (Heap × Nat × Sls)
  | [], h, nx, l => some (h, nx, l)
  | o :: r, h, nx, l => match gwants ops l o with
    | some true => match rop P N h l o with
      | some v => runOps P N qs call ops r h nx (putL l o.dst v)
      | none => match cop P N l o with
        | some (f, vs) => match call f vs h nx with
          | some (v, h', nx') => runOps P N qs call ops r h' nx' (putL l o.dst v)
          | none => none
        | none => match Nat.blt nx 1048576 with
          | true => match eop P N h nx nx (nx + 1) l o with
            | some (.val v h' nx') => match Nat.ble nx nx' with
              | true => runOps P N qs call ops r h' nx' (putL l o.dst v)
              | false => none
            | some (.skip h' nx') => match Nat.ble nx nx' with
              | true => runOps P N qs call ops r h' nx' (putL l o.dst undefV)
              | false => none
            | none => match dop P N qs l o with
              | true => runOps P N qs call ops r h nx (putL l o.dst undefV)
              | false => none
          | false => none
    | some false => runOps P N qs call ops r h nx (putL l o.dst undefV)
    | none => none
theorem runOps_sound {call : CallF} (hc : CallOk P w0 N call) (hq : ∀ f ∈ qs, QuietF P f) {ops : List Oper} {h' : Heap} {nx' : Nat} {l' : Sls} : ∀ {r : List Oper} {h : Heap} {nx : Nat} {l : Sls} {ρ : Env} {a : Act} {w : World} {Q : Exit → Act → World → Prop},
    runOps P N qs call ops r h nx l = some (h', nx', l') → R P qs w0 N ρ h nx l a w → (∀ ρ' a' w', Ev ρ h nx ρ' h' nx' → R P qs w0 N ρ' h' nx' l' a' w' → Q .normal a' w') → wpList P ops.toArray Q r a w
  | [], h, nx, l, ρ, a, w, Q, e, r, hQ => by
    unfold runOps at e
    cases e
    exact hQ ρ a w (Ev.refl _ _ _) r
  | o :: rest, h, nx, l, ρ, a, w, Q, e, r, hQ => by
    unfold runOps at e
    unfold wpList
    split at e
    · rename_i hg
      rw [if_pos (gwants_sound r.sl hg)]
      split at e
      · rename_i v hv
        obtain ⟨V, h1, h2⟩ := rop_sound r.sl r.rel.ok hv
        refine .inl ?_
        unfold Oper.wp
        rw [h2, Oper.upon_value]
        exact runOps_sound hc hq e (r.put h1 o.dst) hQ
      · split at e
        · rename_i f vs hf
          obtain ⟨hcl, VS, h1, h2⟩ := cop_sound (w := w) r.sl hf
          split at e
          · rename_i v h1' nx1 hcall
            refine .inl ?_
            unfold Oper.wp
            rw [h2, Oper.upon_enter]
            refine hc ρ h nx f vs VS w v h1' nx1 hcall r.rel r.sl.glob h1 _ fun ρ1 V w1 hev hv hr => ?_
            show wpList P ops.toArray Q rest (a.put o.dst V) w1
            exact runOps_sound hc hq e ((r.go (hev.ele r.rel) hr).put hv o.dst) fun ρ' a' w' hev' hR => hQ ρ' a' w' (hev.trans hev') hR
          · cases e
        · split at e
          · rename_i hn
            have hn := blt_t hn
            split at e
            · rename_i v h1' nx1 he
              split at e
              · rename_i hle
                obtain ⟨ρ1, V, w1, g1, g2, g3, g4, g5, g6⟩ := eop_sound r.rel (r.rel.fresh hn) r.sl he
                have hev : Ev ρ h nx ρ1 h1' nx1 := ev_of (Nat.le_refl _) g2 (ble_t hle) g3
                refine .inl ?_
                unfold Oper.wp
                rw [g6, Oper.upon_value]
                exact runOps_sound hc hq e ((r.go g1 g5).put g4 o.dst) fun ρ' a' w' hev' hR => hQ ρ' a' w' (hev.trans hev') hR
              · cases e
            · rename_i h1' nx1 he
              split at e
              · rename_i hle
                obtain ⟨w1, g3, g5, g6⟩ := eop_sound r.rel (r.rel.fresh hn) r.sl he
                have hev : Ev ρ h nx ρ h1' nx1 := ⟨fun _ _ => rfl, ble_t hle, g3⟩
                refine .inl ?_
                unfold Oper.wp
                rw [g6, Oper.upon_skip]
                exact runOps_sound hc hq e ((r.go (ELe.refl _) g5).put rv_undef o.dst) fun ρ' a' w' hev' hR => hQ ρ' a' w' (hev.trans hev') hR
              · cases e
            · split at e
              · rename_i hd
                obtain ⟨d, hd1, hd2⟩ := dop_sound (w := w) hq r.sl hd
                refine .inl ?_
                unfold Oper.wp
                rw [hd2, Oper.upon_defer]
                have r' : R P qs w0 N ρ h nx l { a with defers := d :: a.defers } w := ⟨r.rel, ⟨r.sl.glob, r.sl.tmps⟩, fun x hx => by
                  rcases List.mem_cons.1 hx with rfl | hx
                  · exact hd1
                  · exact r.df x hx⟩
                exact runOps_sound hc hq e (r'.put rv_undef o.dst) hQ
              · cases e
          · cases e
    · rename_i hg
      rw [if_neg (by rw [gwants_sound r.sl hg]; simp)]
      exact runOps_sound hc hq e (r.put rv_undef o.dst) hQ
    · cases e
end
end Go.Rex
