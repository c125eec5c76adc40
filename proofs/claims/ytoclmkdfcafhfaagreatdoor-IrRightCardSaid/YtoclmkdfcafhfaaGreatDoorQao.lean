/- A machine for closed runs: a row of operations. -/
import Derived.Test.YtoclmkdfcafhfaaGreatDoorQan
import Derived.Defers
set_option maxRecDepth 20000
namespace Go.Rex
section
open Go.RowKit
open Go.Vcg (Keep callable)
def Ext (n : Nat) (ρ ρ' : Env) : Prop := ∀ c, c < n → ρ' c = ρ c
structure Ev (ρ : Env) (h : Heap) (nx : Nat) (ρ' : Env) (h' : Heap) (nx' : Nat) : Prop where
  ext : Ext nx ρ ρ'
  le : nx ≤ nx'
  pr : Pr h h'
theorem Ev.refl (ρ : Env) (h : Heap) (nx : Nat) : Ev ρ h nx ρ h nx := ⟨fun _ _ => rfl, Nat.le_refl _, Pr.refl _⟩
theorem Ev.trans {ρ ρ' ρ'' : Env} {h h' h'' : Heap} {nx nx' nx'' : Nat} (p : Ev ρ h nx ρ' h' nx') (q : Ev ρ' h' nx' ρ'' h'' nx'') : Ev ρ h nx ρ'' h'' nx'' :=
  ⟨fun c hc => (q.ext c (Nat.lt_of_lt_of_le hc p.le)).trans (p.ext c hc), Nat.le_trans p.le q.le, p.pr.trans q.pr⟩
section
variable {P : Program} {qs : List FuncId} {N : Nat} {w0 : World} {ρ ρ' : Env} {h h' : Heap} {l : Sls} {a : Act} {w w' : World} {nx nx' : Nat}
theorem Ev.ele (r : Rel w0 ρ h nx w) (e : Ev ρ h nx ρ' h' nx') : ELe ρ ρ' := fun b x hb => by
  rcases Nat.lt_or_ge b nx with h1 | h1
  · rw [e.ext b h1]; exact hb
  · rw [r.new b h1] at hb; cases hb
def QuietF (P : Program) (f : FuncId) : Prop := ∀ (args : Array Value) (w : World), CallsD P f args .returning w fun e u' w' => (∃ v, e = .returned v) ∧ u' = .returning ∧ Below w.heap.size w w'
def QuietD (P : Program) (qs : List FuncId) (d : Deferred) : Prop := ∃ f cap, f ∈ qs ∧ d.target = .fn (.func f) cap ∧ callable P f = true ∧ QuietF P f
structure R (P : Program) (qs : List FuncId) (w0 : World) (N : Nat) (ρ : Env) (h : Heap) (nx : Nat) (l : Sls) (a : Act) (w : World) : Prop where
  rel : Rel w0 ρ h nx w
  sl : Sl N ρ l a
  df : ∀ d ∈ a.defers, QuietD P qs d
def putL (l : Sls) (d : Option Nat) (v : Value) : Sls := match d with
  | some d => sset l d v
  | none => l
theorem TR.put {t : Array Value} (ht : TR ρ l t) {v V : Value} (hv : rv ρ v = some V) (d : Nat) : TR ρ (sset l d v) (t.setIfInBounds d V) := by
  obtain ⟨ln, lt⟩ := l
  have old : ∀ i u, i ≠ d → sget ⟨ln, lt⟩ i = some u → isHole u = false → ∃ V', (t.setIfInBounds d V)[i]? = some V' ∧ rv ρ u = some V' := fun i u hi hu hh => by
    obtain ⟨V', h1, h2⟩ := ht.2 i u hu hh
    exact ⟨V', by rw [Array.getElem?_setIfInBounds_ne (Ne.symm hi)]; exact h1, h2⟩
  by_cases hn : Nat.blt d ln = true
  · by_cases hs : Nat.blt d 512 = true
    · have e : sset ⟨ln, lt⟩ d v = ⟨ln, tset 9 lt d (some v)⟩ := by simp [sset, hn, hs]
      rw [e]
      refine ⟨by simpa using ht.1, fun i u hu hh => ?_⟩
      by_cases hi : i = d
      · subst hi
        have : u = v := by
          unfold sget at hu
          rw [hs] at hu
          simp only [tget_set_same] at hu
          cases hu; rfl
        subst this
        exact ⟨V, by rw [Array.getElem?_setIfInBounds_self_of_lt (by rw [ht.1]; exact blt_t hn)], hv⟩
      · refine old i u hi ?_ hh
        unfold sget at hu ⊢
        split at hu
        · rename_i hi5
          rw [tget_set_other 9 lt d i (some v) (blt_t hs) (blt_t hi5) hi] at hu
          exact hu
        · cases hu
    · have e : sset ⟨ln, lt⟩ d v = ⟨ln, lt⟩ := by simp [sset, hn, hs]
      have hs' : ¬ d < 512 := fun h => hs (by rw [Nat.blt, Nat.ble_eq]; exact h)
      rw [e]
      refine ⟨by simpa using ht.1, fun i u hu hh => old i u (fun hi => ?_) hu hh⟩
      subst hi
      unfold sget at hu
      split at hu
      · rename_i h5; exact hs (h5)
      · cases hu
  · have e : sset ⟨ln, lt⟩ d v = ⟨ln, lt⟩ := by simp [sset, hn]
    rw [e]
    refine ⟨by simpa using ht.1, fun i u hu hh => old i u (fun hi => ?_) hu hh⟩
    subst hi
    obtain ⟨V', h1, _⟩ := ht.2 i u hu hh
    have := (Array.getElem?_eq_some_iff.1 h1).1
    rw [ht.1] at this
    exact hn (by rw [Nat.blt, Nat.ble_eq]; exact this)
theorem R.put (r : R P qs w0 N ρ h nx l a w) {v V : Value} (hv : rv ρ v = some V) (d : Option Nat) : R P qs w0 N ρ h nx (putL l d v) (a.put d V) w := by
  cases d with
  | none => exact r
  | some d => exact ⟨r.rel, ⟨r.sl.glob, r.sl.tmps.put hv d⟩, r.df⟩
theorem R.go (r : R P qs w0 N ρ h nx l a w) (hle : ELe ρ ρ') (hr : Rel w0 ρ' h' nx' w') : R P qs w0 N ρ' h' nx' l a w' := ⟨hr, ⟨r.sl.glob.mono hle, r.sl.tmps.mono hle⟩, r.df⟩
def undefV : Value := .tuple ⟨[]⟩
theorem rv_undef : rv ρ undefV = some undef := by simp [undefV, undef, rv, rvs]
def gwants (ops : List Oper) (l : Sls) (o : Oper) : Option Bool := match o.guard with
  | none => some true
  | some (g, want) => match nth ops g with
    | some o' => match o'.dst with
      | some t => match sget l t with
        | some (.bool b) => some (b == want)
        | some (.tuple ⟨[]⟩) => some false
        | _ => none
      | none => none
    | none => none
theorem gwants_sound (hs : Sl N ρ l a) {ops : List Oper} {o : Oper} {b : Bool} (e : gwants ops l o = some b) : Region.wanted o (yielded ops.toArray a.tmps) = b := by
  unfold gwants at e
  unfold Region.wanted
  split at e
  · rename_i hg; cases e; simp [hg]
  · rename_i g want hg
    split at e
    · rename_i o' ho
      rw [nth_eq] at ho
      split at e
      · rename_i t ht
        have hy : (((ops.toArray[g]?).bind (·.dst)) : Option Nat) = some t := by simp [ho, ht]
        split at e
        · rename_i b' hb
          cases e
          obtain ⟨V, h1, h2⟩ := hs.tmps.2 t _ hb rfl
          cases rv_nil h2 rfl
          simp only [hg, yielded, hy, Option.bind_some, h1]
          cases b' <;> cases want <;> rfl
        · rename_i hb
          cases e
          obtain ⟨V, h1, h2⟩ := hs.tmps.2 t _ hb rfl
          have : V = .tuple ⟨[]⟩ := rv_flat2_eq rfl h2
          subst this
          simp only [hg, yielded, hy, Option.bind_some, h1]
          rfl
        · cases e
      · cases e
    · cases e
abbrev CallF := FuncId → List Value → Heap → Nat → Option (Value × Heap × Nat)
def CallOk (P : Program) (w0 : World) (N : Nat) (call : CallF) : Prop :=
  ∀ ρ h nx f vs VS w v h' nx', call f vs h nx = some (v, h', nx') → Rel w0 ρ h nx w → Glob N ρ → rvs ρ vs = some VS →
    ∀ R' : Ending → World → Prop, (∀ ρ' V w', Ev ρ h nx ρ' h' nx' → rv ρ' v = some V → Rel w0 ρ' h' nx' w' → R' (.returned V) w') → Calls P f VS.toArray w R'
theorem Rel.fresh (r : Rel w0 ρ h nx w) (hn : nx < 1048576) : Fresh ρ nx nx (nx + 1) := ⟨r.new nx (Nat.le_refl _), Nat.le_succ _, Nat.lt_succ_self _, hn⟩
theorem ev_of {b0 : Nat} (hb : nx ≤ b0) (ho : ∀ c, c ≠ b0 → ρ' c = ρ c) (hn : nx ≤ nx') (hp : Pr h h') : Ev ρ h nx ρ' h' nx' :=
  ⟨fun c hc => ho c (by omega), hn, hp⟩
def dop (P : Program) (N : Nat) (qs : List FuncId) (l : Sls) (o : Oper) : Bool := match o.op with
  | .defer { callee := .value q, args := ⟨[]⟩, .. } => match aev N l q with
    | some (.func (.func f) ⟨[]⟩ _) => match qs.any (Nat.beq f) with
      | true => callable P f
      | false => false
    | _ => false
  | _ => false
theorem dop_sound (hq : ∀ f ∈ qs, QuietF P f) (hs : Sl N ρ l a) {o : Oper} (e : dop P N qs l o = true) : ∃ d, QuietD P qs d ∧ (execOp a.eval o).run P w = .ok (.defer d) w := by
  obtain ⟨ds, op, ty, pos, af, gd⟩ := o
  unfold dop at e
  dsimp only at e
  split at e
  · rename_i q ts
    split at e
    · rename_i f cs hf
      split at e
      · rename_i hany
        obtain ⟨g, hg, hfg⟩ := List.any_eq_true.1 hany
        have hfg := Nat.eq_of_beq_eq_true hfg
        subst hfg
        obtain ⟨X, Y, h1, h2, h3⟩ := rv_func (aev_sound hs hf)
        simp [rvs] at h1
        subst h1
        refine ⟨{ target := .fn (.func f) ⟨Y⟩, args := #[] }, ⟨f, ⟨Y⟩, hg, rfl, e, hq f hg⟩, ?_⟩
        generalize a.eval = ev at h3
        simp [execOp, resolve, h3, Deferred.ofValue]
      · cases e
    · cases e
  · cases e
def runOps (P : Program) (N : Nat) (qs : List FuncId) (call : CallF) (ops : List Oper) : List Oper → Heap → Nat → Sls → Option (Heap × Nat × Sls)
  | [], h, nx, l => some (h, nx, l)
  | o :: r, h, nx, l => match gwants ops l o with
    | some true => match rop P N h l o with
      | some v => runOps P N qs call ops r h nx (putL l o.dst v)
      | none => match cop P N l o with
        | some (f, vs) => match call f vs h nx with
          | some (v, h', nx') => runOps P N qs call ops r h' nx' (putL l o.dst v)
          | none => none
        | none => match Nat.blt nx 1048576 with
          | true => match eop P N h nx nx (nx + 1) l o with
            | some (.val v h' nx') => match Nat.ble nx nx' with
              | true => runOps P N qs call ops r h' nx' (putL l o.dst v)
              | false => none
            | some (.skip h' nx') => match Nat.ble nx nx' with
              | true => runOps P N qs call ops r h' nx' (putL l o.dst undefV)
              | false => none
            | none => match dop P N qs l o with
              | true => runOps P N qs call ops r h nx (putL l o.dst undefV)
              | false => none
          | false => none
    | some false => runOps P N qs call ops r h nx (putL l o.dst undefV)
    | none => none
theorem runOps_sound {call : CallF} (hc : CallOk P w0 N call) (hq : ∀ f ∈ qs, QuietF P f) {ops : List Oper} {h' : Heap} {nx' : Nat} {l' : Sls} : ∀ {r : List Oper} {h : Heap} {nx : Nat} {l : Sls} {ρ : Env} {a : Act} {w : World} {Q : Exit → Act → World → Prop},
    runOps P N qs call ops r h nx l = some (h', nx', l') → R P qs w0 N ρ h nx l a w → (∀ ρ' a' w', Ev ρ h nx ρ' h' nx' → R P qs w0 N ρ' h' nx' l' a' w' → Q .normal a' w') → wpList P ops.toArray Q r a w
  | [], h, nx, l, ρ, a, w, Q, e, r, hQ => by
    unfold runOps at e
    cases e
    exact hQ ρ a w (Ev.refl _ _ _) r
  | o :: rest, h, nx, l, ρ, a, w, Q, e, r, hQ => by
    unfold runOps at e
    unfold wpList
    split at e
    · rename_i hg
      rw [if_pos (gwants_sound r.sl hg)]
      split at e
      · rename_i v hv
        obtain ⟨V, h1, h2⟩ := rop_sound r.sl r.rel.ok hv
        refine .inl ?_
        unfold Oper.wp
        rw [h2, Oper.upon_value]
        exact runOps_sound hc hq e (r.put h1 o.dst) hQ
      · split at e
        · rename_i f vs hf
          obtain ⟨hcl, VS, h1, h2⟩ := cop_sound (w := w) r.sl hf
          split at e
          · rename_i v h1' nx1 hcall
            refine .inl ?_
            unfold Oper.wp
            rw [h2, Oper.upon_enter]
            refine hc ρ h nx f vs VS w v h1' nx1 hcall r.rel r.sl.glob h1 _ fun ρ1 V w1 hev hv hr => ?_
            show wpList P ops.toArray Q rest (a.put o.dst V) w1
            exact runOps_sound hc hq e ((r.go (hev.ele r.rel) hr).put hv o.dst) fun ρ' a' w' hev' hR => hQ ρ' a' w' (hev.trans hev') hR
          · cases e
        · split at e
          · rename_i hn
            have hn := blt_t hn
            split at e
            · rename_i v h1' nx1 he
              split at e
              · rename_i hle
                obtain ⟨ρ1, V, w1, g1, g2, g3, g4, g5, g6⟩ := eop_sound r.rel (r.rel.fresh hn) r.sl he
                have hev : Ev ρ h nx ρ1 h1' nx1 := ev_of (Nat.le_refl _) g2 (ble_t hle) g3
                refine .inl ?_
                unfold Oper.wp
                rw [g6, Oper.upon_value]
                exact runOps_sound hc hq e ((r.go g1 g5).put g4 o.dst) fun ρ' a' w' hev' hR => hQ ρ' a' w' (hev.trans hev') hR
              · cases e
            · rename_i h1' nx1 he
              split at e
              · rename_i hle
                obtain ⟨w1, g3, g5, g6⟩ := eop_sound r.rel (r.rel.fresh hn) r.sl he
                have hev : Ev ρ h nx ρ h1' nx1 := ⟨fun _ _ => rfl, ble_t hle, g3⟩
                refine .inl ?_
                unfold Oper.wp
                rw [g6, Oper.upon_skip]
                exact runOps_sound hc hq e ((r.go (ELe.refl _) g5).put rv_undef o.dst) fun ρ' a' w' hev' hR => hQ ρ' a' w' (hev.trans hev') hR
              · cases e
            · split at e
              · rename_i hd
                obtain ⟨d, hd1, hd2⟩ := dop_sound (w := w) hq r.sl hd
                refine .inl ?_
                unfold Oper.wp
                rw [hd2, Oper.upon_defer]
                have r' : R P qs w0 N ρ h nx l { a with defers := d :: a.defers } w := ⟨r.rel, ⟨r.sl.glob, r.sl.tmps⟩, fun x hx => by
                  rcases List.mem_cons.1 hx with rfl | hx
                  · exact hd1
                  · exact r.df x hx⟩
                exact runOps_sound hc hq e (r'.put rv_undef o.dst) hQ
              · cases e
          · cases e
    · rename_i hg
      rw [if_neg (by rw [gwants_sound r.sl hg]; simp)]
      exact runOps_sound hc hq e (r.put rv_undef o.dst) hQ
    · cases e
end
end
section
open Go.RowKit
open Go.Vcg (Keep)
def NoP (Q : Exit → Act → World → Prop) : Exit → Act → World → Prop
  | .panic _, _, _ => False
  | e, a, w => Q e a w
theorem wp_noP {P : Program} {c : Code} {Q : Exit → Act → World → Prop} {a : Act} {w : World} (h : c.wp P (NoP Q) a w) : c.wp P Q a w :=
  Code.wp_mono (fun e a w h => by cases e <;> first | exact h | exact (h : False).elim) h
def bseq : List UInt8 → List UInt8 → Bool
  | [], [] => true
  | a :: r, b :: s => match Nat.beq a.toNat b.toNat with
    | true => bseq r s
    | false => false
  | _, _ => false
theorem bseq_eq : ∀ {a b : List UInt8}, bseq a b = true → a = b
  | [], [], _ => rfl
  | [], _ :: _, h => by simp [bseq] at h
  | _ :: _, [], h => by simp [bseq] at h
  | a :: r, b :: s, h => by
    unfold bseq at h
    split at h
    · rename_i h1
      rw [UInt8.toNat_inj.1 (Nat.eq_of_beq_eq_true h1), bseq_eq h]
    · cases h
mutual
def veq : Value → Value → Bool
  | .bool a, .bool b => match a, b with
    | true, true => true
    | false, false => true
    | _, _ => false
  | .int j a, .int k b => decide (j = k) && decide (a = b)
  | .string ⟨⟨a⟩⟩, .string ⟨⟨b⟩⟩ => bseq a b
  | .pointer none, .pointer none => true
  | .pointer (some ⟨a, i, none⟩), .pointer (some ⟨b, j, none⟩) => Nat.beq a b && Nat.beq i j
  | .slice none n c, .slice none m d => Nat.beq n m && Nat.beq c d
  | .slice (some ⟨a, i, none⟩) n c, .slice (some ⟨b, j, none⟩) m d => Nat.beq a b && Nat.beq i j && Nat.beq n m && Nat.beq c d
  | .map none, .map none => true
  | .map (some a), .map (some b) => Nat.beq a b
  | .func (.func f) ⟨x⟩ ⟨y⟩, .func (.func g) ⟨u⟩ ⟨v⟩ => Nat.beq f g && leq x u && leq y v
  | .nilFunc, .nilFunc => true
  | .iface t v, .iface u w => Nat.beq t u && veq v w
  | .nilIface, .nilIface => true
  | .agg ⟨x⟩, .agg ⟨y⟩ => leq x y
  | .tuple ⟨x⟩, .tuple ⟨y⟩ => leq x y
  | _, _ => false
def leq : List Value → List Value → Bool
  | [], [] => true
  | v :: r, w :: s => match veq v w with
    | true => leq r s
    | false => false
  | _, _ => false
end
mutual
theorem veq_eq : ∀ {v w : Value}, veq v w = true → v = w := by
  intro v w h
  unfold veq at h
  split at h
  · split at h <;> first | rfl | cases h
  · simp at h; rw [h.1, h.2]
  · rw [bseq_eq h]
  · rfl
  · simp at h; rw [h.1, h.2]
  · simp at h; rw [h.1, h.2]
  · simp at h; rw [h.1.1.1, h.1.1.2, h.1.2, h.2]
  · rfl
  · simp at h; rw [h]
  · rename_i f x y g u v
    simp at h; rw [h.1.1, leq_eq h.1.2, leq_eq h.2]
  · rfl
  · rename_i t v u w
    simp at h; rw [h.1, veq_eq h.2]
  · rfl
  · rename_i x y
    rw [leq_eq h]
  · rename_i x y
    rw [leq_eq h]
  · cases h
  termination_by v => SizeOf.sizeOf v
theorem leq_eq : ∀ {v w : List Value}, leq v w = true → v = w := by
  intro v w h
  unfold leq at h
  split at h
  · rfl
  · rename_i v r w s
    split at h
    · rename_i h1
      rw [veq_eq h1, leq_eq h]
    · cases h
  · cases h
  termination_by v => SizeOf.sizeOf v
end
def peq : List (Value × Value) → List (Value × Value) → Bool
  | [], [] => true
  | (a, b) :: r, (c, d) :: s => match veq a c with
    | true => match veq b d with
      | true => peq r s
      | false => false
    | false => false
  | _, _ => false
theorem peq_eq : ∀ {v w : List (Value × Value)}, peq v w = true → v = w
  | [], [], _ => rfl
  | [], _ :: _, h => by simp [peq] at h
  | _ :: _, [], h => by simp [peq] at h
  | (a, b) :: r, (c, d) :: s, h => by
    unfold peq at h
    split at h
    · rename_i h1
      split at h
      · rename_i h2
        rw [veq_eq h1, veq_eq h2, peq_eq h]
      · cases h
    · cases h
def oeq : AObj → AObj → Bool
  | .cells a t r, .cells b u s => leq a b && Nat.beq t u && decide (r = s)
  | .row a t n, .row b u m => leq a b && Nat.beq t u && Nat.beq n m
  | .map a, .map b => peq a b
  | .tab a, .tab b => leq a b
  | _, _ => false
theorem oeq_eq {a b : AObj} (h : oeq a b = true) : a = b := by
  unfold oeq at h
  split at h
  · simp at h; rw [leq_eq h.1.1, h.1.2, h.2]
  · simp at h; rw [leq_eq h.1.1, h.1.2, h.2]
  · rw [peq_eq h]
  · rw [leq_eq h]
  · cases h
def teq : T AObj → T AObj → Bool
  | .e, .e => true
  | .v a, .v b => oeq a b
  | .n a b, .n c d => match teq a c with
    | true => teq b d
    | false => false
  | _, _ => false
theorem teq_eq : ∀ {a b : T AObj}, teq a b = true → a = b
  | .e, .e, _ => rfl
  | .v a, .v b, h => by unfold teq at h; rw [oeq_eq h]
  | .n a b, .n c d, h => by
    unfold teq at h
    split at h
    · rename_i h1; rw [teq_eq h1, teq_eq h]
    · cases h
  | .e, .v _, h => by simp [teq] at h
  | .e, .n _ _, h => by simp [teq] at h
  | .v _, .e, h => by simp [teq] at h
  | .v _, .n _ _, h => by simp [teq] at h
  | .n _ _, .e, h => by simp [teq] at h
  | .n _ _, .v _, h => by simp [teq] at h
def seq : T Value → T Value → Bool
  | .e, .e => true
  | .v a, .v b => veq a b
  | .n a b, .n c d => match seq a c with
    | true => seq b d
    | false => false
  | _, _ => false
theorem seq_eq : ∀ {a b : T Value}, seq a b = true → a = b
  | .e, .e, _ => rfl
  | .v a, .v b, h => by unfold seq at h; rw [veq_eq h]
  | .n a b, .n c d, h => by
    unfold seq at h
    split at h
    · rename_i h1; rw [seq_eq h1, seq_eq h]
    · cases h
  | .e, .v _, h => by simp [seq] at h
  | .e, .n _ _, h => by simp [seq] at h
  | .v _, .e, h => by simp [seq] at h
  | .v _, .n _ _, h => by simp [seq] at h
  | .n _ _, .e, h => by simp [seq] at h
  | .n _ _, .v _, h => by simp [seq] at h
def sleq : Sls → Sls → Bool
  | ⟨n, a⟩, ⟨m, b⟩ => match Nat.beq n m with
    | true => seq a b
    | false => false
theorem sleq_eq {a b : Sls} (h : sleq a b = true) : a = b := by
  obtain ⟨n, a⟩ := a
  obtain ⟨m, b⟩ := b
  unfold sleq at h
  simp only at h
  split at h
  · rename_i h1; rw [Nat.eq_of_beq_eq_true h1, seq_eq h]
  · cases h
def heq : Heap → Heap → Bool
  | ⟨a, m⟩, ⟨b, n⟩ => match Nat.beq m n with
    | true => teq a b
    | false => false
theorem heq_eq {a b : Heap} (h : heq a b = true) : a = b := by
  obtain ⟨a, m⟩ := a
  obtain ⟨b, n⟩ := b
  unfold heq at h
  simp only at h
  split at h
  · rename_i h1; rw [Nat.eq_of_beq_eq_true h1, teq_eq h]
  · cases h
def small (hr : Heap) : List Nat → Heap
  | [] => ⟨.e, 0⟩
  | b :: r => match Nat.blt b 1048576 with
    | true => match hget hr b with
      | some o => hset (small hr r) b (some o)
      | none => small hr r
    | false => small hr r
theorem small_spec {hr : Heap} : ∀ {bs : List Nat} {c : Nat} {o : AObj}, hget (small hr bs) c = some o → c ∈ bs ∧ hget hr c = some o
  | [], c, o, h => by
    unfold small hget at h
    split at h
    · rw [tget_e] at h; cases h
    · cases h
  | b :: r, c, o, h => by
    unfold small at h
    split at h
    · rename_i hb
      split at h
      · rename_i o' ho
        by_cases hc : c = b
        · subst hc
          rw [hget_set_same (blt_t hb)] at h
          cases h
          exact ⟨by simp, ho⟩
        · rw [hget_set_other (blt_t hb) hc] at h
          obtain ⟨h1, h2⟩ := small_spec h
          exact ⟨by simp [h1], h2⟩
      · obtain ⟨h1, h2⟩ := small_spec h
        exact ⟨by simp [h1], h2⟩
    · obtain ⟨h1, h2⟩ := small_spec h
      exact ⟨by simp [h1], h2⟩
def SOk (ρ : Env) (bs : List Nat) (hr : Heap) (w : World) : Prop := ∀ b, b ∈ bs → ∀ o, hget hr b = some o → ∃ B C, ρ b = some (B, C, 0) ∧ ObjOk ρ C o w.heap[B]?
def agree (bs : List Nat) (hr h : Heap) : Bool := bs.all fun b => match hget hr b with
  | none => true
  | some o => match hget h b with
    | some o' => oeq o o'
    | none => false
theorem ObjOk.back {ρ ρ' : Env} (hle : ELe ρ ρ') {C C0 : Nat} {o : AObj} {x x0 : Option Obj} (k : ObjOk ρ' C o x) (k0 : ObjOk ρ C0 o x0) : ObjOk ρ C o x := by
  cases o with
  | cells cs t r =>
    obtain ⟨CS, h1, h2⟩ := k
    obtain ⟨CS0, g1, _⟩ := k0
    have := rvs_mono hle g1
    rw [h1] at this; cases this
    exact ⟨_, g1, h2⟩
  | row cs t sz =>
    obtain ⟨CS, arr, h1, h2⟩ := k
    obtain ⟨CS0, arr0, g1, _⟩ := k0
    have := rvs_mono hle g1
    rw [h1] at this; cases this
    exact ⟨_, arr, g1, h2⟩
  | map es =>
    obtain ⟨ES, h1, h2⟩ := k
    obtain ⟨ES0, g1, _⟩ := k0
    have := rvp_mono hle g1
    rw [h1] at this; cases this
    exact ⟨_, g1, h2⟩
  | tab cs =>
    obtain ⟨CS, t, f, h1, h2⟩ := k
    obtain ⟨CS0, t0, f0, g1, _⟩ := k0
    have := rvs_mono hle g1
    rw [h1] at this; cases this
    exact ⟨_, t, f, g1, h2⟩
section
variable {P : Program} {qs : List FuncId} {N : Nat} {w0 : World} {ρ ρ' : Env} {h h' : Heap} {l : Sls} {a : Act} {w w' : World} {nx nx' : Nat}
theorem SOk.of_rel {ρ0 : Env} {hr : Heap} {nxr : Nat} {wr : World} (rr : Rel w0 ρ0 hr nxr wr) (hle : ELe ρ0 ρ) (r : Rel w0 ρ h nx w) {bs : List Nat} (ha : agree bs hr h = true) : SOk ρ0 bs hr w := fun b hb o ho => by
  have h1 := List.all_eq_true.1 ha b hb
  rw [ho] at h1
  simp only at h1
  split at h1
  · rename_i o' ho'
    have := oeq_eq h1
    subst this
    obtain ⟨B, C, g1, g2⟩ := r.ok b o ho'
    obtain ⟨B0, C0, k1, k2⟩ := rr.ok b o ho
    have := hle _ _ k1
    rw [g1] at this
    cases this
    exact ⟨B, C, k1, g2.back hle k2⟩
  · cases h1
theorem SOk.start (rr : Rel w0 ρ h nx w) (bs : List Nat) : SOk ρ bs h w := fun b _ o ho => rr.ok b o ho
theorem SOk.heap {ρ0 : Env} {hr : Heap} {bs Bs : List Nat} (hS : SOk ρ0 Bs hr w) (hle : ELe ρ0 ρ) (hb : ∀ b ∈ bs, b ∈ Bs) : HeapOk ρ (small hr bs) w := fun b o ho => by
  obtain ⟨h1, h2⟩ := small_spec ho
  obtain ⟨B, C, g1, g2⟩ := hS b (hb b h1) o h2
  exact ⟨B, C, hle _ _ g1, g2.mono hle⟩
def rids (N : Nat) (l : Sls) (o : Oper) : List Nat := match o.op with
  | .load _ x => match aev N l x with
    | some (.pointer (some ⟨b, _, _⟩)) => [b]
    | _ => []
  | .lookup _ x _ _ => match aev N l x with
    | some (.map (some b)) => [b]
    | _ => []
  | _ => []
def notIn (E : List Nat) : List Nat → Bool
  | [] => true
  | b :: r => match E.any (Nat.beq b) with
    | true => false
    | false => notIn E r
def takeOp (P : Program) (N : Nat) (hr : Heap) (E : List Nat) (ops : List Oper) (l : Sls) (o : Oper) : Option (Value × List Nat) := match gwants ops l o with
  | some false => some (undefV, [])
  | some true => match notIn E (rids N l o) with
    | true => match rop P N (small hr (rids N l o)) l o with
      | some v => some (v, rids N l o)
      | none => none
    | false => none
  | none => none
def pickT (f : Nat → Option (Value × List Nat)) : List Nat → Option (Nat × Value × List Nat)
  | [] => none
  | i :: r => match f i with
    | some (v, bs) => some (i, v, bs)
    | none => pickT f r
theorem pickT_spec {f : Nat → Option (Value × List Nat)} : ∀ {rs : List Nat} {i : Nat} {v : Value} {bs : List Nat}, pickT f rs = some (i, v, bs) → i ∈ rs ∧ f i = some (v, bs)
  | [], i, v, bs, e => by simp [pickT] at e
  | j :: r, i, v, bs, e => by
    unfold pickT at e
    split at e
    · rename_i h1; cases e; exact ⟨by simp, h1⟩
    · obtain ⟨h1, h2⟩ := pickT_spec e
      exact ⟨by simp [h1], h2⟩
def doOp (P : Program) (N : Nat) (call : CallF) (ops : List Oper) (b0 : Nat) (h : Heap) (nx : Nat) (l : Sls) (o : Oper) : Option (Heap × Nat × Sls) := match gwants ops l o with
  | some false => some (h, nx, putL l o.dst undefV)
  | some true => match rop P N h l o with
    | some v => some (h, nx, putL l o.dst v)
    | none => match cop P N l o with
      | some (f, vs) => match call f vs h nx with
        | some (v, h', nx') => some (h', nx', putL l o.dst v)
        | none => none
      | none => match eop P N h b0 nx nx l o with
        | some (.val v h' nx') => match Nat.beq nx nx' with
          | true => some (h', nx, putL l o.dst v)
          | false => none
        | some (.skip h' nx') => match Nat.beq nx nx' with
          | true => some (h', nx, putL l o.dst undefV)
          | false => none
        | none => none
  | none => none
structure DRes where
  h : Heap
  nx : Nat
  l : Sls
  Bs : List Nat
  Hs : List Heap
def sameRes (x y : DRes) : Bool := match Nat.beq x.nx y.nx with
  | true => match sleq x.l y.l with
    | true => heq x.h y.h
    | false => false
  | false => false
def allOf (f : Nat → Option DRes) : List Nat → Option DRes
  | [] => none
  | i :: r => match r with
    | [] => f i
    | _ :: _ => match f i with
      | some x => match allOf f r with
        | some y => match sameRes x y with
          | true => some ⟨x.h, x.nx, x.l, x.Bs ++ y.Bs, x.Hs ++ y.Hs⟩
          | false => none
        | none => none
      | none => none
theorem allOf_spec {f : Nat → Option DRes} : ∀ {rs : List Nat} {z : DRes}, allOf f rs = some z → ∀ i, i ∈ rs → ∃ x, f i = some x ∧ x.h = z.h ∧ x.nx = z.nx ∧ x.l = z.l ∧ (∀ b ∈ x.Bs, b ∈ z.Bs) ∧ (∀ b ∈ x.Hs, b ∈ z.Hs)
  | [], z, e, i, hi => by cases hi
  | [j], z, e, i, hi => by
    unfold allOf at e
    simp only at e
    have : i = j := by simpa using hi
    subst this
    exact ⟨z, e, rfl, rfl, rfl, fun _ h => h, fun _ h => h⟩
  | j :: k :: r, z, e, i, hi => by
    unfold allOf at e
    simp only at e
    split at e
    · rename_i x hx
      split at e
      · rename_i y hy
        split at e
        · rename_i hs
          cases e
          unfold sameRes at hs
          split at hs
          · rename_i h1
            split at hs
            · rename_i h2
              have h1 := Nat.eq_of_beq_eq_true h1
              have h2 := sleq_eq h2
              have h3 := heq_eq hs
              rcases List.mem_cons.1 hi with rfl | hi
              · exact ⟨x, hx, rfl, rfl, rfl, fun b hb => by simp [hb], fun b hb => by simp [hb]⟩
              · obtain ⟨u, g1, g2, g3, g4, g5, g6⟩ := allOf_spec hy i hi
                exact ⟨u, g1, g2.trans h3.symm, g3.trans h1.symm, g4.trans h2.symm, fun b hb => by simp [g5 b hb], fun b hb => by simp [g6 b hb]⟩
            · cases hs
          · cases hs
        · cases e
      · cases e
    · cases e
def drawR (P : Program) (N : Nat) (call : CallF) (E : List Nat) (base : Nat) (hr : Heap) (ops : List Oper) : Nat → Array Bool → Heap → Nat → Sls → Option DRes
  | 0, listed, h, nx, l => match Region.ready .any ops.toArray listed with
    | [] => some ⟨h, nx, l, [], []⟩
    | _ :: _ => none
  | n + 1, listed, h, nx, l => match Region.ready .any ops.toArray listed with
    | [] => some ⟨h, nx, l, [], []⟩
    | r :: rs => match pickT (fun i => match Region.free .any ops.toArray listed i with
        | true => match nth ops i with
          | some o => takeOp P N hr E ops l o
          | none => none
        | false => none) (r :: rs) with
      | some (i, v, bs) => match nth ops i with
        | some o => match drawR P N call E base hr ops n (listed.setIfInBounds i true) h nx (putL l o.dst v) with
          | some z => some ⟨z.h, z.nx, z.l, bs ++ z.Bs, z.Hs⟩
          | none => none
        | none => none
      | none => allOf (fun i => match nth ops i with
        | some o => match doOp P N call ops (base + i) h nx l o with
          | some (h1, nx1, l1) => match drawR P N call E base hr ops n (listed.setIfInBounds i true) h1 nx1 l1 with
            | some z => some ⟨z.h, z.nx, z.l, z.Bs, h1 :: z.Hs⟩
            | none => none
          | none => none
        | none => none) (r :: rs)
theorem drawR_sound {call : CallF} (hc : CallOk P w0 N call) {E : List Nat} {base : Nat} {hr : Heap} {ops : List Oper} {ρ0 : Env} {nxr : Nat} {wr : World} (rr : Rel w0 ρ0 hr nxr wr) (hns : Region.noSelect ops.toArray = true) {Bs : List Nat} {Q : Exit → Act → World → Prop} :
    ∀ (n : Nat) {listed : Array Bool} {h : Heap} {nx : Nat} {l : Sls} {ρ : Env} {a : Act} {w : World} {z : DRes}, drawR P N call E base hr ops n listed h nx l = some z → (∀ b, b ∈ z.Bs → b ∈ Bs) → (∀ x, x ∈ z.Hs → agree Bs hr x = true) →
      ELe ρ0 ρ → R P qs w0 N ρ h nx l a w → (∀ i, i < ops.length → listed.getD i true = false → ρ (base + i) = none) → base + ops.length ≤ nx → SOk ρ0 Bs hr w →
      (∀ ρ' a' w', Ext base ρ ρ' → nx ≤ z.nx → Pr h z.h → R P qs w0 N ρ' z.h z.nx z.l a' w' → Q .normal a' w') → wpAnyH P .any ops.toArray (NoP Q) (SOk ρ0 Bs hr) n listed a w := by
  intro n
  induction n with
  | zero =>
    intro listed h nx l ρ a w z e hB hH hle r hres hbase hS hQ
    unfold drawR at e
    split at e
    · rename_i hrd
      cases e
      exact ⟨hrd, hQ ρ a w (fun _ _ => rfl) (Nat.le_refl _) (Pr.refl _) r⟩
    · cases e
  | succ n ih =>
    intro listed h nx l ρ a w z e hB hH hle r hres hbase hS hQ
    unfold drawR at e
    split at e
    · rename_i hrd
      cases e
      exact wpAnyH_done (Q := NoP Q) hrd (hQ ρ a w (fun _ _ => rfl) (Nat.le_refl _) (Pr.refl _) r) _
    · rename_i r0 rs hrd
      have hres' : ∀ (i : Nat) (ρ1 : Env), (∀ c, c < base + ops.length → c ≠ base + i → ρ1 c = ρ c) → ∀ j, j < ops.length → (listed.setIfInBounds i true).getD j true = false → ρ1 (base + j) = none := fun i ρ1 h1 j hj hl => by
        have hji : j ≠ i := fun e => by
          subst e
          by_cases hs : j < listed.size
          · rw [Array.getD_eq_getD_getElem?, Array.getElem?_setIfInBounds_self_of_lt hs] at hl; cases hl
          · rw [Array.getD_eq_getD_getElem?, Array.getElem?_eq_none (by simp; omega)] at hl; cases hl
        rw [h1 (base + j) (by omega) (by omega)]
        refine hres j hj ?_
        rwa [Array.getD_eq_getD_getElem?, Array.getElem?_setIfInBounds_ne (Ne.symm hji), ← Array.getD_eq_getD_getElem?] at hl
      split at e
      · rename_i i v bs hpick
        obtain ⟨hi, hf⟩ := pickT_spec hpick
        split at hf
        · rename_i hfree
          split at e
          · rename_i o ho
            rw [ho] at hf
            simp only at hf
            split at e
            · rename_i z' hz'
              cases e
              have hoi : ops.toArray[i]? = some o := by rw [nth_eq] at ho; simpa using ho
              unfold takeOp at hf
              split at hf
              · rename_i hg
                cases hf
                refine wpAnyH_take (v := undef) hoi hns hfree (by rw [hrd]; simpa using hi) (fun _ _ _ h => h) (.inr ⟨gwants_sound r.sl hg, rfl⟩) hS ?_
                exact ih hz' (fun b hb => hB b (by simp [hb])) hH hle (r.put rv_undef o.dst) (hres' i ρ (fun _ _ _ => rfl)) hbase hS hQ
              · rename_i hg
                split at hf
                · split at hf
                  · rename_i v' hv
                    cases hf
                    have hbs : ∀ b, b ∈ rids N l o → b ∈ Bs := fun b hb => hB b (by simp [hb])
                    obtain ⟨V, h1, h2⟩ := rop_sound r.sl (hS.heap hle hbs) hv
                    refine wpAnyH_take (v := V) hoi hns hfree (by rw [hrd]; simpa using hi) (fun _ _ _ h => h) (.inl ⟨gwants_sound r.sl hg, fun w' hS' => ?_⟩) hS ?_
                    · obtain ⟨V', h1', h2'⟩ := rop_sound r.sl (hS'.heap hle hbs) hv
                      rw [h1] at h1'; cases h1'
                      exact h2'
                    · exact ih hz' (fun b hb => hB b (by simp [hb])) hH hle (r.put h1 o.dst) (hres' i ρ (fun _ _ _ => rfl)) hbase hS hQ
                  · cases hf
                · cases hf
              · cases hf
            · cases e
          · cases e
        · cases hf
      · refine wpAnyH_all hrd (by simp) fun i hi => ?_
        obtain ⟨x, hx, e1, e2, e3, e4, e5⟩ := allOf_spec e i hi
        split at hx
        · rename_i o ho
          have hoi : ops.toArray[i]? = some o := by rw [nth_eq] at ho; simpa using ho
          have hil : i < ops.length := by rw [nth_eq] at ho; exact (List.getElem?_eq_some_iff.1 ho).1
          have hlisted : listed.getD i true = false := by
            have : i ∈ Region.ready .any ops.toArray listed := by rw [hrd]; exact hi
            exact (mem_ready.1 this).1
          split at hx
          · rename_i h1 nx1 l1 hdo
            split at hx
            · rename_i z' hz'
              cases hx
              simp only at e1 e2 e3 e4 e5
              have hB' : ∀ b, b ∈ z'.Bs → b ∈ Bs := fun b hb => hB b (e4 b hb)
              have hH' : ∀ y, y ∈ z'.Hs → agree Bs hr y = true := fun y hy => hH y (e5 y (by simp [hy]))
              have hag : agree Bs hr h1 = true := hH h1 (e5 h1 (by simp))
              unfold wpOp
              simp only [hoi]
              unfold doOp at hdo
              split at hdo
              · rename_i hg
                cases hdo
                rw [if_neg (by rw [gwants_sound r.sl hg]; simp)]
                exact ⟨hS, ih hz' hB' hH' hle (r.put rv_undef o.dst) (hres' i ρ (fun _ _ _ => rfl)) hbase hS fun ρ' a' w' q1 q2 q3 q4 => hQ ρ' a' w' q1 (by rw [← e2]; exact q2) (by rw [← e1]; exact q3) (by rw [← e1, ← e2, ← e3]; exact q4)⟩
              · rename_i hg
                rw [if_pos (gwants_sound r.sl hg)]
                refine .inl ?_
                unfold Oper.wp
                split at hdo
                · rename_i v hv
                  cases hdo
                  obtain ⟨V, g1, g2⟩ := rop_sound r.sl r.rel.ok hv
                  rw [g2, Oper.upon_value]
                  exact ⟨hS, ih hz' hB' hH' hle (r.put g1 o.dst) (hres' i ρ (fun _ _ _ => rfl)) hbase hS fun ρ' a' w' q1 q2 q3 q4 => hQ ρ' a' w' q1 (by rw [← e2]; exact q2) (by rw [← e1]; exact q3) (by rw [← e1, ← e2, ← e3]; exact q4)⟩
                · split at hdo
                  · rename_i f vs hf
                    obtain ⟨hcl, VS, g1, g2⟩ := cop_sound (w := w) r.sl hf
                    split at hdo
                    · rename_i v h1' nx1' hcall
                      cases hdo
                      rw [g2, Oper.upon_enter]
                      refine hc ρ h nx f vs VS w v h1 nx1 hcall r.rel r.sl.glob g1 _ fun ρ1 V w1 hev hv hr1 => ?_
                      show SOk ρ0 Bs hr w1 ∧ wpAnyH P .any ops.toArray (NoP Q) (SOk ρ0 Bs hr) n (listed.setIfInBounds i true) (a.put o.dst V) w1
                      have hle1 : ELe ρ0 ρ1 := hle.trans (hev.ele r.rel)
                      have hS1 : SOk ρ0 Bs hr w1 := SOk.of_rel rr hle1 hr1 hag
                      refine ⟨hS1, ih hz' hB' hH' hle1 ((r.go (hev.ele r.rel) hr1).put hv o.dst) (hres' i ρ1 (fun c hc _ => hev.ext c (by omega))) (by have := hev.le; omega) hS1 fun ρ' a' w' q1 q2 q3 q4 => hQ ρ' a' w' (fun c hc => (q1 c hc).trans (hev.ext c (by omega))) (by rw [← e2]; have := hev.le; omega) (by rw [← e1]; exact hev.pr.trans q3) (by rw [← e1, ← e2, ← e3]; exact q4)⟩
                    · cases hdo
                  · have hf : Fresh ρ nx (base + i) nx := ⟨hres i hil hlisted, Nat.le_refl _, by omega, r.rel.small⟩
                    split at hdo
                    · rename_i v h1' nx1' he
                      split at hdo
                      · rename_i hnn
                        have hnn := Nat.eq_of_beq_eq_true hnn
                        cases hdo
                        subst hnn
                        obtain ⟨ρ1, V, w1, g1, g2, g3, g4, g5, g6⟩ := eop_sound r.rel hf r.sl he
                        rw [g6, Oper.upon_value]
                        have hle1 : ELe ρ0 ρ1 := hle.trans g1
                        have hS1 : SOk ρ0 Bs hr w1 := SOk.of_rel rr hle1 g5 hag
                        exact ⟨hS1, ih hz' hB' hH' hle1 ((r.go g1 g5).put g4 o.dst) (hres' i ρ1 (fun c _ hc => g2 c hc)) hbase hS1 fun ρ' a' w' q1 q2 q3 q4 => hQ ρ' a' w' (fun c hc => (q1 c hc).trans (g2 c (by omega))) (by rw [← e2]; exact q2) (by rw [← e1]; exact g3.trans q3) (by rw [← e1, ← e2, ← e3]; exact q4)⟩
                      · cases hdo
                    · rename_i h1' nx1' he
                      split at hdo
                      · rename_i hnn
                        have hnn := Nat.eq_of_beq_eq_true hnn
                        cases hdo
                        subst hnn
                        obtain ⟨w1, g3, g5, g6⟩ := eop_sound r.rel hf r.sl he
                        rw [g6, Oper.upon_skip]
                        have hS1 : SOk ρ0 Bs hr w1 := SOk.of_rel rr hle g5 hag
                        exact ⟨hS1, ih hz' hB' hH' hle ((r.go (ELe.refl _) g5).put rv_undef o.dst) (hres' i ρ (fun _ _ _ => rfl)) hbase hS1 fun ρ' a' w' q1 q2 q3 q4 => hQ ρ' a' w' q1 (by rw [← e2]; exact q2) (by rw [← e1]; exact g3.trans q3) (by rw [← e1, ← e2, ← e3]; exact q4)⟩
                      · cases hdo
                    · cases hdo
              · cases hdo
            · cases hx
          · cases hx
        · cases hx
def badIds (hr : Heap) (Hs : List Heap) (Bs : List Nat) : List Nat := Bs.filter fun b => !(Hs.all fun x => agree [b] hr x)
theorem badIds_nil {hr : Heap} {Hs : List Heap} {Bs : List Nat} (h : badIds hr Hs Bs = []) : ∀ x, x ∈ Hs → agree Bs hr x = true := fun x hx => by
  unfold agree
  refine List.all_eq_true.2 fun b hb => ?_
  unfold badIds at h
  rw [List.filter_eq_nil_iff] at h
  have h1 : (Hs.all fun x => agree [b] hr x) = true := by
    cases hh : (Hs.all fun x => agree [b] hr x) with
    | true => rfl
    | false => exact absurd (by simp [hh]) (h b hb)
  have h2 := List.all_eq_true.1 h1 x hx
  unfold agree at h2
  exact List.all_eq_true.1 h2 b (by simp)
def drawT (P : Program) (N : Nat) (call : CallF) (ops : List Oper) (h : Heap) (nx : Nat) (l : Sls) : Option DRes := match Region.noSelect ops.toArray with
  | true => match Nat.ble (nx + ops.length) 1048576 with
    | true => match drawR P N call [] nx h ops ops.length (Array.replicate ops.length false) h (nx + ops.length) l with
      | some z => match badIds h z.Hs z.Bs with
        | [] => some z
        | b :: E => match drawR P N call (b :: E) nx h ops ops.length (Array.replicate ops.length false) h (nx + ops.length) l with
          | some z => match badIds h z.Hs z.Bs with
            | [] => some z
            | _ :: _ => none
          | none => none
      | none => none
    | false => none
  | false => none
theorem drawT_sound {call : CallF} (hc : CallOk P w0 N call) (hm : P.follows .mixedOrders = true) {id : Nat} {ops : List Oper} {z : DRes} {Q : Exit → Act → World → Prop} (e : drawT P N call ops h nx l = some z) (r : R P qs w0 N ρ h nx l a w)
    (hQ : ∀ ρ' a' w', Ev ρ h nx ρ' z.h z.nx → R P qs w0 N ρ' z.h z.nx z.l a' w' → Q .normal a' w') : (Code.region id ops.toArray true).wp P Q a w := by
  have fin : ∀ E, Region.noSelect ops.toArray = true → nx + ops.length ≤ 1048576 → drawR P N call E nx h ops ops.length (Array.replicate ops.length false) h (nx + ops.length) l = some z → badIds h z.Hs z.Bs = [] → (Code.region id ops.toArray true).wp P Q a w := fun E hns hle hz hbad => by
    have rel0 : Rel w0 ρ h nx { w with drawn := w.drawn + 1 } := r.rel.after ⟨rfl, rfl, rfl, Nat.le_refl _, fun _ _ _ => rfl⟩
    have rel1 : Rel w0 ρ h (nx + ops.length) { w with drawn := w.drawn + 1 } := ⟨rel0.ok, rel0.inj, fun b hb => rel0.new b (by omega), hle, rel0.own, rel0.old, rel0.keep⟩
    have r1 : R P qs w0 N ρ h (nx + ops.length) l a { w with drawn := w.drawn + 1 } := ⟨rel1, r.sl, r.df⟩
    refine wp_noP (wp_region_held (S := SOk ρ z.Bs h) hm ?_)
    have hsz : ops.toArray.size = ops.length := by simp
    rw [hsz]
    exact drawR_sound hc rel0 hns ops.length hz (fun _ h => h) (badIds_nil hbad) (ELe.refl _) r1 (fun i _ _ => rel0.new _ (by omega)) (Nat.le_refl _) (SOk.start rel0 _) fun ρ' a' w' q1 q2 q3 q4 => hQ ρ' a' w' ⟨q1, by omega, q3⟩ q4
  unfold drawT at e
  split at e
  · rename_i hns
    split at e
    · rename_i hle
      have hle := ble_t hle
      split at e
      · rename_i z1 hz1
        split at e
        · rename_i hb
          cases e
          exact fin _ hns hle hz1 hb
        · split at e
          · rename_i z2 hz2
            split at e
            · rename_i hb2
              cases e
              exact fin _ hns hle hz2 hb2
            · cases e
          · cases e
      · cases e
    · cases e
  · cases e
end
end
end Go.Rex
namespace Go.Proofs.YtoclmkdfcafhfaaGreatDoor
end Go.Proofs.YtoclmkdfcafhfaaGreatDoor
