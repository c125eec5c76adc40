/- A machine for closed runs: the operations that only read. No statement of the seat is proved here. -/
import Derived.Test.YtllilkcocfalmaaGreatDoorRa
import Derived.MapKept
set_option maxRecDepth 20000
namespace Go.Rex
open Go.RowKit Go.MapKept
open Go.Vcg (Keep aggOf sizeT zeroT run_isAgg run_zeroValue run_loadScalar run_loadAgg fieldT run_fieldAt add_lit cellsL cellsL_eq placesT placesL run_places callable)

/-- a computation that asks nothing of the world -/
def psem (P : Program) {α : Type} : Sem α → Option α
  | .pure a => some a
  | .program k => psem P (k P)
  | .mark _ k => psem P k
  | _ => none
theorem psem_run {P : Program} {α : Type} : ∀ {s : Sem α} {x : α}, psem P s = some x → ∀ w : World, s.run P w = .ok x w
  | .pure a, x, h, w => by simp [psem] at h; simp [Sem.run, h]
  | .program k, x, h, w => by
    unfold psem at h
    show (k P).run P w = _
    exact psem_run h w
  | .mark _ k, x, h, w => by
    unfold psem at h
    show k.run P w = _
    exact psem_run h w
  | .load _ _ _, x, h, w => by simp [psem] at h
  | .store _ _ _ _, x, h, w => by simp [psem] at h
  | .new _ _, x, h, w => by simp [psem] at h
  | .shape _ _, x, h, w => by simp [psem] at h
  | .freeze _ _ _, x, h, w => by simp [psem] at h
  | .frozen _ _, x, h, w => by simp [psem] at h
  | .getObj _ _, x, h, w => by simp [psem] at h
  | .setObj _ _ _, x, h, w => by simp [psem] at h
  | .choose _ _, x, h, w => by simp [psem] at h
  | .sys _ _, x, h, w => by simp [psem] at h
  | .halt _, x, h, w => by simp [psem] at h

/-! slots -/
def Glob (N : Nat) (ρ : Env) : Prop := ∀ g, g < N → ρ g = some (g, 0, 0)
theorem Glob.mono {N : Nat} {ρ ρ' : Env} (h : Glob N ρ) (k : ELe ρ ρ') : Glob N ρ' := fun g hg => k _ _ (h g hg)
def isHole : Value → Bool
  | .complex _ _ _ => true
  | _ => false
/-- the slots are what ours stand for; a hole stands for anything -/
structure Sls where
  n : Nat
  t : T Value
def sget (l : Sls) (k : Nat) : Option Value := match Nat.blt k 512 with
  | true => tget 9 l.t k
  | false => none
def sset (l : Sls) (k : Nat) (v : Value) : Sls := match l with
  | ⟨n, t⟩ => match Nat.blt k n with
    | true => match Nat.blt k 512 with
      | true => ⟨n, tset 9 t k (some v)⟩
      | false => ⟨n, t⟩
    | false => ⟨n, t⟩
def TR (ρ : Env) (l : Sls) (t : Array Value) : Prop := t.size = l.n ∧ ∀ (i : Nat) (v : Value), sget l i = some v → isHole v = false → ∃ V, t[i]? = some V ∧ rv ρ v = some V
theorem TR.mono {ρ ρ' : Env} {l : Sls} {t : Array Value} (h : TR ρ l t) (k : ELe ρ ρ') : TR ρ' l t :=
  ⟨h.1, fun i v hv hh => let ⟨V, h1, h2⟩ := h.2 i v hv hh; ⟨V, h1, rv_mono k h2⟩⟩
structure Sl (N : Nat) (ρ : Env) (l : Sls) (a : Act) : Prop where
  glob : Glob N ρ
  tmps : TR ρ l a.tmps
def aev (N : Nat) (l : Sls) : Operand → Option Value
  | .tmp t => match sget l t with
    | some v => match isHole v with
      | true => none
      | false => some v
    | none => none
  | .const v => match flat2 v with
    | true => some v
    | false => none
  | .global g => match Nat.blt g N with
    | true => some (.pointer (some ⟨g, 0, none⟩))
    | false => none
  | .func f => some (.func (.func f) ⟨[]⟩ ⟨[]⟩)
section
variable {P : Program} {N : Nat} {ρ : Env} {h : Heap} {l : Sls} {a : Act} {w : World} {v : Value} {x : Operand}
theorem aev_sound (hs : Sl N ρ l a) (e : aev N l x = some v) : rv ρ v = some (a.eval x) := by
  unfold aev at e
  cases x with
  | tmp t =>
    simp only at e
    split at e
    · rename_i u hu
      split at e
      · cases e
      · rename_i hh
        cases e
        obtain ⟨V, h1, h2⟩ := hs.tmps.2 t v hu hh
        simp [Act.eval, h1, h2]
    · cases e
  | const u =>
    simp only at e
    split at e
    · rename_i hf; cases e; simpa [Act.eval] using rv_flat2 hf
    · cases e
  | global g =>
    simp only at e
    split at e
    · rename_i hg
      cases e
      have : g < N := by simp [Nat.blt] at hg; omega
      simp [rv, hs.glob g this, Act.eval]
    · cases e
  | func f => simp only at e; cases e; simp [rv, rvs, Act.eval]
def aevs (N : Nat) (l : Sls) : List Operand → Option (List Value)
  | [] => some []
  | x :: r => match aev N l x with
    | some v => match aevs N l r with
      | some vs => some (v :: vs)
      | none => none
    | none => none
theorem aevs_sound (hs : Sl N ρ l a) : ∀ {xs : List Operand} {vs : List Value}, aevs N l xs = some vs → rvs ρ vs = some (xs.map a.eval)
  | [], vs, e => by unfold aevs at e; cases e; simp [rvs]
  | x :: r, vs, e => by
    unfold aevs at e
    split at e
    · rename_i v hv
      split at e
      · rename_i us hu
        cases e
        unfold rvs
        rw [aev_sound hs hv, aevs_sound hs hu]
        rfl
      · cases e
    · cases e
theorem rv_flat2_eq {V : Value} (hf : flat2 v = true) (e : rv ρ v = some V) : V = v := by rw [rv_flat2 hf] at e; cases e; rfl

/-- 'it yields v and leaves the world alone' -/
def Yes (P : Program) (ρ : Env) (a : Act) (w : World) (o : Oper) (v : Value) : Prop := ∃ V, rv ρ v = some V ∧ (execOp a.eval o).run P w = .ok (.value V) w

/-! memory -/
def hcells (h : Heap) (b : Nat) : Option (List Value) := match hget h b with
  | some (.cells cs _ _) => some cs
  | some (.row cs _ _) => some cs
  | some (.tab cs) => some cs
  | _ => none
theorem hcells_sound (hk : HeapOk ρ h w) {b : Nat} {cs : List Value} (e : hcells h b = some cs) : ∃ B C CS, ρ b = some (B, C, 0) ∧ rvs ρ cs = some CS ∧ ∀ (j : Nat) (V : Value), CS[j]? = some V → w.cell? ⟨B, j, none⟩ = some V := by
  unfold hcells at e
  split at e
  · rename_i cs' t r hg
    cases e
    obtain ⟨B, C, h1, CS, h2, h3⟩ := hk b _ hg
    exact ⟨B, C, CS, h1, h2, fun j V hV => by simp [World.cell?, h3, hV]⟩
  · rename_i cs' t sz hg
    cases e
    obtain ⟨B, C, h1, CS, arr, h2, h3, h4, h5, h6, h7⟩ := hk b _ hg
    refine ⟨B, C, CS, h1, h2, fun j V hV => ?_⟩
    have hj := (List.getElem?_eq_some_iff.1 hV).1
    rw [← h7, List.getElem?_take, if_pos hj] at hV
    simp [World.cell?, h3]
    simpa using hV
  · rename_i cs' hg
    cases e
    obtain ⟨B, C, h1, CS, t, f, h2, h3⟩ := hk b _ hg
    exact ⟨B, C, CS, h1, h2, fun j V hV => by simp [World.cell?, h3, hV]⟩
  · cases e
/-- a variable of type 't' at 'off' among the cells -/
def varAt (P : Program) (t : TypeId) (cs : List Value) (off : Nat) : Option Value := match aggOf P t with
  | some false => nth cs off
  | some true => match sizeT P t with
    | some n => match takeD off n cs with
      | some xs => some (.agg ⟨xs⟩)
      | none => none
    | none => none
  | none => none
def ald (P : Program) (h : Heap) (t : TypeId) (v : Value) : Option Value := match v with
  | .pointer (some ⟨b, o, none⟩) => match hcells h b with
    | some cs => varAt P t cs o
    | none => none
  | _ => none
theorem rv_ptr {b o : Nat} {V : Value} {x : Nat × Nat × Nat} (hb : ρ b = some x) (e : rv ρ (.pointer (some ⟨b, o, none⟩)) = some V) : V = .pointer (some ⟨x.1, x.2.2 + o, none⟩) := by
  unfold rv at e
  rw [hb] at e
  cases e; rfl
theorem ald_sound (hk : HeapOk ρ h w) {t : TypeId} {u U : Value} (hu : rv ρ u = some U) (e : ald P h t u = some v) : ∃ V, rv ρ v = some V ∧ (Instr.loadAt t U).run P w = .ok V w := by
  unfold ald at e
  split at e
  · rename_i b o
    split at e
    · rename_i cs hc
      obtain ⟨B, C, CS, h1, h2, h3⟩ := hcells_sound hk hc
      have hU := rv_ptr h1 hu
      simp only [Nat.zero_add] at hU
      subst hU
      unfold varAt at e
      split at e
      · rename_i ha
        rw [nth_eq] at e
        obtain ⟨V, g1, g2⟩ := rvs_get h2 o v e
        exact ⟨V, g2, run_loadScalar ha (h3 o V g1)⟩
      · rename_i ha
        split at e
        · rename_i n hn
          split at e
          · rename_i xs hx
            cases e
            obtain ⟨XS, g1, g2, g3⟩ := rvs_takeD h2 hx
            refine ⟨.agg ⟨XS⟩, by simp [rv, g1], ?_⟩
            exact run_loadAgg XS ha (by rw [g2]; exact hn) fun j V hV => by rw [add_lit]; exact h3 _ _ (g3 j V hV)
          · cases e
        · cases e
      · cases e
    · cases e
  · cases e
theorem run_part {t : TypeId} {CS : List Value} {cs : List Value} {off : Nat} (hc : rvs ρ cs = some CS) (e : varAt P t cs off = some v) : ∃ V, rv ρ v = some V ∧ (part t ⟨CS⟩ off).run P w = .ok V w := by
  unfold varAt at e
  split at e
  · rename_i ha
    rw [nth_eq] at e
    obtain ⟨V, g1, g2⟩ := rvs_get hc off v e
    exact ⟨V, g2, by simp [part, run_isAgg ha, g1]⟩
  · rename_i ha
    split at e
    · rename_i n hn
      split at e
      · rename_i xs hx
        cases e
        obtain ⟨XS, g1, g2, g3⟩ := rvs_takeD hc hx
        refine ⟨.agg ⟨XS⟩, by simp [rv, g1], ?_⟩
        have : (CS.drop off).take n = XS := by
          apply List.ext_getElem?
          intro j
          rw [List.getElem?_take]
          by_cases hj : j < n
          · rw [if_pos (by omega), List.getElem?_drop]
            have : XS[j]? = some XS[j] := List.getElem?_eq_getElem (by omega)
            rw [this]; exact g3 _ _ this
          · rw [if_neg (by omega), List.getElem?_eq_none (by omega)]
        simp [part, run_isAgg ha, Go.Vcg.run_sizeOf hn, this]
      · cases e
    · cases e
  · cases e

/-! the operations -/
def qbin (P : Program) (op : BinOp) (t : TypeId) (x y : Operand) (u v : Value) : Option Value := match flat2 u with
  | true => match flat2 v with
    | true => match psem P (do eqGuard op t x y u v; binOp op t u v) with
      | some r => match flat r with
        | true => some r
        | false => none
      | none => none
    | false => none
  | false => none
theorem rv_slice_some {b o n c : Nat} {V : Value} (e : rv ρ (.slice (some ⟨b, o, none⟩) n c) = some V) : ∃ A C, V = .slice (some A) n C := by
  unfold rv at e
  split at e
  · split at e
    · cases e; exact ⟨_, _, rfl⟩
    · split at e
      · cases e; exact ⟨_, _, rfl⟩
      · cases e
  · cases e
theorem rv_pointer_some {b o : Nat} {V : Value} (e : rv ρ (.pointer (some ⟨b, o, none⟩)) = some V) : ∃ A, V = .pointer (some A) := by
  unfold rv at e
  split at e
  · cases e; exact ⟨_, rfl⟩
  · cases e
theorem rv_map_some {b : Nat} {V : Value} (e : rv ρ (.map (some b)) = some V) : ∃ B C O, ρ b = some (B, C, O) ∧ V = .map (some B) := by
  unfold rv at e
  split at e
  · rename_i B C O hb; cases e; exact ⟨B, C, O, hb, rfl⟩
  · cases e
theorem rv_func {f : FuncId} {p q : Array Value} {V : Value} (e : rv ρ (.func (.func f) p q) = some V) : ∃ X Y, rvs ρ p.toList = some X ∧ rvs ρ q.toList = some Y ∧ V = .func (.func f) ⟨X⟩ ⟨Y⟩ := by
  obtain ⟨p⟩ := p
  obtain ⟨q⟩ := q
  unfold rv at e
  split at e
  · rename_i X Y h1 h2; cases e; exact ⟨X, Y, h1, h2, rfl⟩
  · cases e
theorem rv_iface {t : TypeId} {u V : Value} (e : rv ρ (.iface t u) = some V) : ∃ U, rv ρ u = some U ∧ V = .iface t U := by
  unfold rv at e
  split at e
  · rename_i U h1; cases e; exact ⟨U, h1, rfl⟩
  · cases e
theorem rv_nil {V : Value} (e : rv ρ v = some V) (hv : flat v = true) : V = v := by rw [rv_flat hv] at e; cases e; rfl
theorem rv_agg {p : Array Value} {V : Value} (e : rv ρ (.agg p) = some V) : ∃ X, rvs ρ p.toList = some X ∧ V = .agg ⟨X⟩ := by
  obtain ⟨p⟩ := p
  unfold rv at e
  split at e
  · rename_i X h1; cases e; exact ⟨X, h1, rfl⟩
  · cases e
theorem rv_tuple {p : Array Value} {V : Value} (e : rv ρ (.tuple p) = some V) : ∃ X, rvs ρ p.toList = some X ∧ V = .tuple ⟨X⟩ := by
  obtain ⟨p⟩ := p
  unfold rv at e
  split at e
  · rename_i X h1; cases e; exact ⟨X, h1, rfl⟩
  · cases e
theorem psem_bind {α β : Type} {s : Sem α} {f : α → Sem β} {y : β} (h : psem P (s >>= f) = some y) : ∃ x, psem P s = some x ∧ psem P (f x) = some y := by
  induction s with
  | pure a => exact ⟨a, rfl, h⟩
  | program k ih => exact ih P h
  | mark m k ih => exact ih h
  | load => simp [psem, bind, Sem.bind] at h
  | store => simp [psem, bind, Sem.bind] at h
  | new => simp [psem, bind, Sem.bind] at h
  | shape => simp [psem, bind, Sem.bind] at h
  | freeze => simp [psem, bind, Sem.bind] at h
  | frozen => simp [psem, bind, Sem.bind] at h
  | getObj => simp [psem, bind, Sem.bind] at h
  | setObj => simp [psem, bind, Sem.bind] at h
  | choose => simp [psem, bind, Sem.bind] at h
  | sys => simp [psem, bind, Sem.bind] at h
  | halt => simp [psem, bind, Sem.bind] at h
theorem qbin_sound {op : BinOp} {t t2 : TypeId} {x y : Operand} {u v r : Value} {ds : Option Nat} {ty : TypeId} {pos : String} {af : Array Edge} {gd : Option (Nat × Bool)} (hu : rv ρ u = some (a.eval x)) (hv : rv ρ v = some (a.eval y)) (e : qbin P op t x y u v = some r) :
    Yes P ρ a w ⟨ds, .binOp op t x y t2, ty, pos, af, gd⟩ r := by
  unfold qbin at e
  split at e
  · rename_i h1
    split at e
    · rename_i h2
      split at e
      · rename_i r' hr
        split at e
        · rename_i hf
          cases e
          refine ⟨r, rv_flat hf, ?_⟩
          have e1 := rv_flat2_eq h1 hu
          have e2 := rv_flat2_eq h2 hv
          have := psem_run hr w
          simp only [execOp, e1, e2]
          simp only [Sem.run_bind] at this ⊢
          rw [this]
          rfl
        · cases e
      · cases e
    · cases e
  · cases e

/-- == and != of nil and what is not nil -/
def qnilT (P : Program) (t : TypeId) (u v : Value) : Bool := match P.underlying t with
  | some (.pointer _) => match u, v with
    | .pointer (some ⟨_, _, none⟩), .pointer none => true
    | .pointer none, .pointer (some ⟨_, _, none⟩) => true
    | _, _ => false
  | some (.slice _) => match u, v with
    | .slice (some ⟨_, _, none⟩) _ _, .slice none _ _ => true
    | _, _ => false
  | some (.map _ _) => match u, v with
    | .map (some _), .map none => true
    | _, _ => false
  | some (.func _ _ _) => match u, v with
    | .func (.func _) _ _, .nilFunc => true
    | _, _ => false
  | some (.interface _) => match u, v with
    | .iface _ _, .nilIface => true
    | _, _ => false
  | _ => false
def qnil (P : Program) (op : BinOp) (t : TypeId) (u v : Value) : Option Value := match op with
  | .eql => match qnilT P t u v with
    | true => some (.bool false)
    | false => none
  | .neq => match qnilT P t u v with
    | true => some (.bool true)
    | false => none
  | _ => none
theorem qnilT_sound {t : TypeId} {u v U V : Value} (hu : rv ρ u = some U) (hv : rv ρ v = some V) (e : qnilT P t u v = true) : (Op.equal t U V).run P w = .ok false w ∧ (∀ op x y, (eqGuard op t x y U V).run P w = .ok () w) ∧ binOp .eql t U V = (do pure (.bool (← Op.equal t U V))) ∧ binOp .neq t U V = (do pure (.bool (!(← Op.equal t U V)))) := by
  have hd : Op.maxDepth = 9999 + 1 := rfl
  unfold qnilT at e
  unfold Op.equal
  rw [hd]
  unfold Op.equalIn
  split at e
  · rename_i hT
    split at e
    · obtain ⟨A, rfl⟩ := rv_pointer_some hu
      cases rv_nil hv rfl
      exact ⟨by simp [run_underlying hT], fun op x y => by cases op <;> rfl, rfl, rfl⟩
    · obtain ⟨A, rfl⟩ := rv_pointer_some hv
      cases rv_nil hu rfl
      exact ⟨by simp [run_underlying hT], fun op x y => by cases op <;> rfl, rfl, rfl⟩
    · cases e
  · rename_i hT
    split at e
    · obtain ⟨A, C, rfl⟩ := rv_slice_some hu
      cases rv_nil hv rfl
      exact ⟨by simp [run_underlying hT], fun op x y => by cases op <;> rfl, rfl, rfl⟩
    · cases e
  · rename_i hT
    split at e
    · obtain ⟨A, C, O, _, rfl⟩ := rv_map_some hu
      cases rv_nil hv rfl
      exact ⟨by simp [run_underlying hT], fun op x y => by cases op <;> rfl, rfl, rfl⟩
    · cases e
  · rename_i hT
    split at e
    · obtain ⟨X, Y, _, _, rfl⟩ := rv_func hu
      cases rv_nil hv rfl
      exact ⟨by simp [run_underlying hT], fun op x y => by cases op <;> rfl, rfl, rfl⟩
    · cases e
  · rename_i hT
    split at e
    · obtain ⟨X, _, rfl⟩ := rv_iface hu
      cases rv_nil hv rfl
      exact ⟨by simp [run_underlying hT], fun op x y => by cases op <;> rfl, rfl, rfl⟩
    · cases e
  · cases e
theorem qnil_sound {op : BinOp} {t t2 : TypeId} {x y : Operand} {u v r : Value} {ds : Option Nat} {ty : TypeId} {pos : String} {af : Array Edge} {gd : Option (Nat × Bool)} (hu : rv ρ u = some (a.eval x)) (hv : rv ρ v = some (a.eval y)) (e : qnil P op t u v = some r) :
    Yes P ρ a w ⟨ds, .binOp op t x y t2, ty, pos, af, gd⟩ r := by
  unfold qnil at e
  split at e
  · split at e
    · rename_i hT
      cases e
      obtain ⟨h1, h2, h3, h4⟩ := qnilT_sound (w := w) hu hv hT
      exact ⟨_, rv_flat rfl, by simp [execOp, h2, h3, h1]⟩
    · cases e
  · split at e
    · rename_i hT
      cases e
      obtain ⟨h1, h2, h3, h4⟩ := qnilT_sound (w := w) hu hv hT
      exact ⟨_, rv_flat rfl, by simp [execOp, h2, h4, h1]⟩
    · cases e
  · cases e

theorem rv_slice {b o n c : Nat} {V : Value} (e : rv ρ (.slice (some ⟨b, o, none⟩) n c) = some V) : ∃ B C O, ρ b = some (B, C, O) ∧ ((c < capU ∧ V = .slice (some ⟨B, O + o, none⟩) n c) ∨ (capU ≤ c ∧ n + (c - capU) ≤ C ∧ V = .slice (some ⟨B, O + o, none⟩) n (C - (c - capU)))) := by
  unfold rv at e
  split at e
  · rename_i B C O hb
    split at e
    · rename_i hc; cases e; exact ⟨B, C, O, hb, .inl ⟨hc, rfl⟩⟩
    · rename_i hc
      split at e
      · rename_i hn; cases e; exact ⟨B, C, O, hb, .inr ⟨by omega, hn, rfl⟩⟩
      · cases e
  · cases e
end
end Go.Rex
