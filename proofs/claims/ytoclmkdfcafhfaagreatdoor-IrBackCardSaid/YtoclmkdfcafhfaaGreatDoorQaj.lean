/- A machine for closed runs: the operations that only read. -/
import Derived.Test.YtoclmkdfcafhfaaGreatDoorQai
set_option maxRecDepth 20000
namespace Go.Rex
section
open Go.RowKit Go.MapKept
open Go.Vcg (Keep aggOf sizeT zeroT run_isAgg run_zeroValue run_loadScalar run_loadAgg fieldT run_fieldAt add_lit cellsL cellsL_eq placesT placesL run_places callable)
def psem (P : Program) {α : Type} : Sem α → Option α
  | .pure a => some a
  | .program k => psem P (k P)
  | .mark _ k => psem P k
  | _ => none
theorem psem_run {P : Program} {α : Type} : ∀ {s : Sem α} {x : α}, psem P s = some x → ∀ w : World, s.run P w = .ok x w
  | .pure a, x, h, w => by simp [psem] at h; simp [Sem.run, h]
  | .program k, x, h, w => by
    unfold psem at h
    show (k P).run P w = _
    exact psem_run h w
  | .mark _ k, x, h, w => by
    unfold psem at h
    show k.run P w = _
    exact psem_run h w
  | .load _ _ _, x, h, w => by simp [psem] at h
  | .store _ _ _ _, x, h, w => by simp [psem] at h
  | .new _ _, x, h, w => by simp [psem] at h
  | .shape _ _, x, h, w => by simp [psem] at h
  | .freeze _ _ _, x, h, w => by simp [psem] at h
  | .frozen _ _, x, h, w => by simp [psem] at h
  | .getObj _ _, x, h, w => by simp [psem] at h
  | .setObj _ _ _, x, h, w => by simp [psem] at h
  | .choose _ _, x, h, w => by simp [psem] at h
  | .sys _ _, x, h, w => by simp [psem] at h
  | .halt _, x, h, w => by simp [psem] at h
def Glob (N : Nat) (ρ : Env) : Prop := ∀ g, g < N → ρ g = some (g, 0, 0)
theorem Glob.mono {N : Nat} {ρ ρ' : Env} (h : Glob N ρ) (k : ELe ρ ρ') : Glob N ρ' := fun g hg => k _ _ (h g hg)
def isHole : Value → Bool
  | .complex _ _ _ => true
  | _ => false
structure Sls where
  n : Nat
  t : T Value
def sget (l : Sls) (k : Nat) : Option Value := match Nat.blt k 512 with
  | true => tget 9 l.t k
  | false => none
def sset (l : Sls) (k : Nat) (v : Value) : Sls := match l with
  | ⟨n, t⟩ => match Nat.blt k n with
    | true => match Nat.blt k 512 with
      | true => ⟨n, tset 9 t k (some v)⟩
      | false => ⟨n, t⟩
    | false => ⟨n, t⟩
def TR (ρ : Env) (l : Sls) (t : Array Value) : Prop := t.size = l.n ∧ ∀ (i : Nat) (v : Value), sget l i = some v → isHole v = false → ∃ V, t[i]? = some V ∧ rv ρ v = some V
theorem TR.mono {ρ ρ' : Env} {l : Sls} {t : Array Value} (h : TR ρ l t) (k : ELe ρ ρ') : TR ρ' l t :=
  ⟨h.1, fun i v hv hh => let ⟨V, h1, h2⟩ := h.2 i v hv hh; ⟨V, h1, rv_mono k h2⟩⟩
structure Sl (N : Nat) (ρ : Env) (l : Sls) (a : Act) : Prop where
  glob : Glob N ρ
  tmps : TR ρ l a.tmps
def aev (N : Nat) (l : Sls) : Operand → Option Value
  | .tmp t => match sget l t with
    | some v => match isHole v with
      | true => none
      | false => some v
    | none => none
  | .const v => match flat2 v with
    | true => some v
    | false => none
  | .global g => match Nat.blt g N with
    | true => some (.pointer (some ⟨g, 0, none⟩))
    | false => none
  | .func f => some (.func (.func f) ⟨[]⟩ ⟨[]⟩)
section
variable {P : Program} {N : Nat} {ρ : Env} {h : Heap} {l : Sls} {a : Act} {w : World} {v : Value} {x : Operand}
theorem aev_sound (hs : Sl N ρ l a) (e : aev N l x = some v) : rv ρ v = some (a.eval x) := by
  unfold aev at e
  cases x with
  | tmp t =>
    simp only at e
    split at e
    · rename_i u hu
      split at e
      · cases e
      · rename_i hh
        cases e
        obtain ⟨V, h1, h2⟩ := hs.tmps.2 t v hu hh
        simp [Act.eval, h1, h2]
    · cases e
  | const u =>
    simp only at e
    split at e
    · rename_i hf; cases e; simpa [Act.eval] using rv_flat2 hf
    · cases e
  | global g =>
    simp only at e
    split at e
    · rename_i hg
      cases e
      have : g < N := by simp [Nat.blt] at hg; omega
      simp [rv, hs.glob g this, Act.eval]
    · cases e
  | func f => simp only at e; cases e; simp [rv, rvs, Act.eval]
def aevs (N : Nat) (l : Sls) : List Operand → Option (List Value)
  | [] => some []
  | x :: r => match aev N l x with
    | some v => match aevs N l r with
      | some vs => some (v :: vs)
      | none => none
    | none => none
theorem aevs_sound (hs : Sl N ρ l a) : ∀ {xs : List Operand} {vs : List Value}, aevs N l xs = some vs → rvs ρ vs = some (xs.map a.eval)
  | [], vs, e => by unfold aevs at e; cases e; simp [rvs]
  | x :: r, vs, e => by
    unfold aevs at e
    split at e
    · rename_i v hv
      split at e
      · rename_i us hu
        cases e
        unfold rvs
        rw [aev_sound hs hv, aevs_sound hs hu]
        rfl
      · cases e
    · cases e
theorem rv_flat2_eq {V : Value} (hf : flat2 v = true) (e : rv ρ v = some V) : V = v := by rw [rv_flat2 hf] at e; cases e; rfl
def Yes (P : Program) (ρ : Env) (a : Act) (w : World) (o : Oper) (v : Value) : Prop := ∃ V, rv ρ v = some V ∧ (execOp a.eval o).run P w = .ok (.value V) w
def hcells (h : Heap) (b : Nat) : Option (List Value) := match hget h b with
  | some (.cells cs _ _) => some cs
  | some (.row cs _ _) => some cs
  | some (.tab cs) => some cs
  | _ => none
theorem hcells_sound (hk : HeapOk ρ h w) {b : Nat} {cs : List Value} (e : hcells h b = some cs) : ∃ B C CS, ρ b = some (B, C, 0) ∧ rvs ρ cs = some CS ∧ ∀ (j : Nat) (V : Value), CS[j]? = some V → w.cell? ⟨B, j, none⟩ = some V := by
  unfold hcells at e
  split at e
  · rename_i cs' t r hg
    cases e
    obtain ⟨B, C, h1, CS, h2, h3⟩ := hk b _ hg
    exact ⟨B, C, CS, h1, h2, fun j V hV => by simp [World.cell?, h3, hV]⟩
  · rename_i cs' t sz hg
    cases e
    obtain ⟨B, C, h1, CS, arr, h2, h3, h4, h5, h6, h7⟩ := hk b _ hg
    refine ⟨B, C, CS, h1, h2, fun j V hV => ?_⟩
    have hj := (List.getElem?_eq_some_iff.1 hV).1
    rw [← h7, List.getElem?_take, if_pos hj] at hV
    simp [World.cell?, h3]
    simpa using hV
  · rename_i cs' hg
    cases e
    obtain ⟨B, C, h1, CS, t, f, h2, h3⟩ := hk b _ hg
    exact ⟨B, C, CS, h1, h2, fun j V hV => by simp [World.cell?, h3, hV]⟩
  · cases e
def varAt (P : Program) (t : TypeId) (cs : List Value) (off : Nat) : Option Value := match aggOf P t with
  | some false => nth cs off
  | some true => match sizeT P t with
    | some n => match takeD off n cs with
      | some xs => some (.agg ⟨xs⟩)
      | none => none
    | none => none
  | none => none
def ald (P : Program) (h : Heap) (t : TypeId) (v : Value) : Option Value := match v with
  | .pointer (some ⟨b, o, none⟩) => match hcells h b with
    | some cs => varAt P t cs o
    | none => none
  | _ => none
theorem rv_ptr {b o : Nat} {V : Value} {x : Nat × Nat × Nat} (hb : ρ b = some x) (e : rv ρ (.pointer (some ⟨b, o, none⟩)) = some V) : V = .pointer (some ⟨x.1, x.2.2 + o, none⟩) := by
  unfold rv at e
  rw [hb] at e
  cases e; rfl
theorem ald_sound (hk : HeapOk ρ h w) {t : TypeId} {u U : Value} (hu : rv ρ u = some U) (e : ald P h t u = some v) : ∃ V, rv ρ v = some V ∧ (Instr.loadAt t U).run P w = .ok V w := by
  unfold ald at e
  split at e
  · rename_i b o
    split at e
    · rename_i cs hc
      obtain ⟨B, C, CS, h1, h2, h3⟩ := hcells_sound hk hc
      have hU := rv_ptr h1 hu
      simp only [Nat.zero_add] at hU
      subst hU
      unfold varAt at e
      split at e
      · rename_i ha
        rw [nth_eq] at e
        obtain ⟨V, g1, g2⟩ := rvs_get h2 o v e
        exact ⟨V, g2, run_loadScalar ha (h3 o V g1)⟩
      · rename_i ha
        split at e
        · rename_i n hn
          split at e
          · rename_i xs hx
            cases e
            obtain ⟨XS, g1, g2, g3⟩ := rvs_takeD h2 hx
            refine ⟨.agg ⟨XS⟩, by simp [rv, g1], ?_⟩
            exact run_loadAgg XS ha (by rw [g2]; exact hn) fun j V hV => by rw [add_lit]; exact h3 _ _ (g3 j V hV)
          · cases e
        · cases e
      · cases e
    · cases e
  · cases e
theorem run_part {t : TypeId} {CS : List Value} {cs : List Value} {off : Nat} (hc : rvs ρ cs = some CS) (e : varAt P t cs off = some v) : ∃ V, rv ρ v = some V ∧ (part t ⟨CS⟩ off).run P w = .ok V w := by
  unfold varAt at e
  split at e
  · rename_i ha
    rw [nth_eq] at e
    obtain ⟨V, g1, g2⟩ := rvs_get hc off v e
    exact ⟨V, g2, by simp [part, run_isAgg ha, g1]⟩
  · rename_i ha
    split at e
    · rename_i n hn
      split at e
      · rename_i xs hx
        cases e
        obtain ⟨XS, g1, g2, g3⟩ := rvs_takeD hc hx
        refine ⟨.agg ⟨XS⟩, by simp [rv, g1], ?_⟩
        have : (CS.drop off).take n = XS := by
          apply List.ext_getElem?
          intro j
          rw [List.getElem?_take]
          by_cases hj : j < n
          · rw [if_pos (by omega), List.getElem?_drop]
            have : XS[j]? = some XS[j] := List.getElem?_eq_getElem (by omega)
            rw [this]; exact g3 _ _ this
          · rw [if_neg (by omega), List.getElem?_eq_none (by omega)]
        simp [part, run_isAgg ha, Go.Vcg.run_sizeOf hn, this]
      · cases e
    · cases e
  · cases e
def qbin (P : Program) (op : BinOp) (t : TypeId) (x y : Operand) (u v : Value) : Option Value := match flat2 u with
  | true => match flat2 v with
    | true => match psem P (do eqGuard op t x y u v; binOp op t u v) with
      | some r => match flat r with
        | true => some r
        | false => none
      | none => none
    | false => none
  | false => none
theorem rv_slice_some {b o n c : Nat} {V : Value} (e : rv ρ (.slice (some ⟨b, o, none⟩) n c) = some V) : ∃ A C, V = .slice (some A) n C := by
  unfold rv at e
  split at e
  · split at e
    · cases e; exact ⟨_, _, rfl⟩
    · split at e
      · cases e; exact ⟨_, _, rfl⟩
      · cases e
  · cases e
theorem rv_pointer_some {b o : Nat} {V : Value} (e : rv ρ (.pointer (some ⟨b, o, none⟩)) = some V) : ∃ A, V = .pointer (some A) := by
  unfold rv at e
  split at e
  · cases e; exact ⟨_, rfl⟩
  · cases e
theorem rv_map_some {b : Nat} {V : Value} (e : rv ρ (.map (some b)) = some V) : ∃ B C O, ρ b = some (B, C, O) ∧ V = .map (some B) := by
  unfold rv at e
  split at e
  · rename_i B C O hb; cases e; exact ⟨B, C, O, hb, rfl⟩
  · cases e
theorem rv_func {f : FuncId} {p q : Array Value} {V : Value} (e : rv ρ (.func (.func f) p q) = some V) : ∃ X Y, rvs ρ p.toList = some X ∧ rvs ρ q.toList = some Y ∧ V = .func (.func f) ⟨X⟩ ⟨Y⟩ := by
  obtain ⟨p⟩ := p
  obtain ⟨q⟩ := q
  unfold rv at e
  split at e
  · rename_i X Y h1 h2; cases e; exact ⟨X, Y, h1, h2, rfl⟩
  · cases e
theorem rv_iface {t : TypeId} {u V : Value} (e : rv ρ (.iface t u) = some V) : ∃ U, rv ρ u = some U ∧ V = .iface t U := by
  unfold rv at e
  split at e
  · rename_i U h1; cases e; exact ⟨U, h1, rfl⟩
  · cases e
theorem rv_nil {V : Value} (e : rv ρ v = some V) (hv : flat v = true) : V = v := by rw [rv_flat hv] at e; cases e; rfl
theorem rv_agg {p : Array Value} {V : Value} (e : rv ρ (.agg p) = some V) : ∃ X, rvs ρ p.toList = some X ∧ V = .agg ⟨X⟩ := by
  obtain ⟨p⟩ := p
  unfold rv at e
  split at e
  · rename_i X h1; cases e; exact ⟨X, h1, rfl⟩
  · cases e
theorem rv_tuple {p : Array Value} {V : Value} (e : rv ρ (.tuple p) = some V) : ∃ X, rvs ρ p.toList = some X ∧ V = .tuple ⟨X⟩ := by
  obtain ⟨p⟩ := p
  unfold rv at e
  split at e
  · rename_i X h1; cases e; exact ⟨X, h1, rfl⟩
  · cases e
theorem qbin_sound {op : BinOp} {t t2 : TypeId} {x y : Operand} {u v r : Value} {ds : Option Nat} {ty : TypeId} {pos : String} {af : Array Edge} {gd : Option (Nat × Bool)} (hu : rv ρ u = some (a.eval x)) (hv : rv ρ v = some (a.eval y)) (e : qbin P op t x y u v = some r) :
    Yes P ρ a w ⟨ds, .binOp op t x y t2, ty, pos, af, gd⟩ r := by
  unfold qbin at e
  split at e
  · rename_i h1
    split at e
    · rename_i h2
      split at e
      · rename_i r' hr
        split at e
        · rename_i hf
          cases e
          refine ⟨r, rv_flat hf, ?_⟩
          have e1 := rv_flat2_eq h1 hu
          have e2 := rv_flat2_eq h2 hv
          have := psem_run hr w
          simp only [execOp, e1, e2]
          simp only [Sem.run_bind] at this ⊢
          rw [this]
          rfl
        · cases e
      · cases e
    · cases e
  · cases e
def qnilT (P : Program) (t : TypeId) (u v : Value) : Bool := match P.underlying t with
  | some (.pointer _) => match u, v with
    | .pointer (some ⟨_, _, none⟩), .pointer none => true
    | .pointer none, .pointer (some ⟨_, _, none⟩) => true
    | _, _ => false
  | some (.slice _) => match u, v with
    | .slice (some ⟨_, _, none⟩) _ _, .slice none _ _ => true
    | _, _ => false
  | some (.map _ _) => match u, v with
    | .map (some _), .map none => true
    | _, _ => false
  | some (.func _ _ _) => match u, v with
    | .func (.func _) _ _, .nilFunc => true
    | _, _ => false
  | some (.interface _) => match u, v with
    | .iface _ _, .nilIface => true
    | _, _ => false
  | _ => false
def qnil (P : Program) (op : BinOp) (t : TypeId) (u v : Value) : Option Value := match op with
  | .eql => match qnilT P t u v with
    | true => some (.bool false)
    | false => none
  | .neq => match qnilT P t u v with
    | true => some (.bool true)
    | false => none
  | _ => none
theorem qnilT_sound {t : TypeId} {u v U V : Value} (hu : rv ρ u = some U) (hv : rv ρ v = some V) (e : qnilT P t u v = true) : (Op.equal t U V).run P w = .ok false w ∧ (∀ op x y, (eqGuard op t x y U V).run P w = .ok () w) ∧ binOp .eql t U V = (do pure (.bool (← Op.equal t U V))) ∧ binOp .neq t U V = (do pure (.bool (!(← Op.equal t U V)))) := by
  have hd : Op.maxDepth = 9999 + 1 := rfl
  unfold qnilT at e
  unfold Op.equal
  rw [hd]
  unfold Op.equalIn
  split at e
  · rename_i hT
    split at e
    · obtain ⟨A, rfl⟩ := rv_pointer_some hu
      cases rv_nil hv rfl
      exact ⟨by simp [run_underlying hT], fun op x y => by cases op <;> rfl, rfl, rfl⟩
    · obtain ⟨A, rfl⟩ := rv_pointer_some hv
      cases rv_nil hu rfl
      exact ⟨by simp [run_underlying hT], fun op x y => by cases op <;> rfl, rfl, rfl⟩
    · cases e
  · rename_i hT
    split at e
    · obtain ⟨A, C, rfl⟩ := rv_slice_some hu
      cases rv_nil hv rfl
      exact ⟨by simp [run_underlying hT], fun op x y => by cases op <;> rfl, rfl, rfl⟩
    · cases e
  · rename_i hT
    split at e
    · obtain ⟨A, C, O, _, rfl⟩ := rv_map_some hu
      cases rv_nil hv rfl
      exact ⟨by simp [run_underlying hT], fun op x y => by cases op <;> rfl, rfl, rfl⟩
    · cases e
  · rename_i hT
    split at e
    · obtain ⟨X, Y, _, _, rfl⟩ := rv_func hu
      cases rv_nil hv rfl
      exact ⟨by simp [run_underlying hT], fun op x y => by cases op <;> rfl, rfl, rfl⟩
    · cases e
  · rename_i hT
    split at e
    · obtain ⟨X, _, rfl⟩ := rv_iface hu
      cases rv_nil hv rfl
      exact ⟨by simp [run_underlying hT], fun op x y => by cases op <;> rfl, rfl, rfl⟩
    · cases e
  · cases e
theorem qnil_sound {op : BinOp} {t t2 : TypeId} {x y : Operand} {u v r : Value} {ds : Option Nat} {ty : TypeId} {pos : String} {af : Array Edge} {gd : Option (Nat × Bool)} (hu : rv ρ u = some (a.eval x)) (hv : rv ρ v = some (a.eval y)) (e : qnil P op t u v = some r) :
    Yes P ρ a w ⟨ds, .binOp op t x y t2, ty, pos, af, gd⟩ r := by
  unfold qnil at e
  split at e
  · split at e
    · rename_i hT
      cases e
      obtain ⟨h1, h2, h3, h4⟩ := qnilT_sound (w := w) hu hv hT
      exact ⟨_, rv_flat rfl, by simp [execOp, h2, h3, h1]⟩
    · cases e
  · split at e
    · rename_i hT
      cases e
      obtain ⟨h1, h2, h3, h4⟩ := qnilT_sound (w := w) hu hv hT
      exact ⟨_, rv_flat rfl, by simp [execOp, h2, h4, h1]⟩
    · cases e
  · cases e
theorem rv_slice {b o n c : Nat} {V : Value} (e : rv ρ (.slice (some ⟨b, o, none⟩) n c) = some V) : ∃ B C O, ρ b = some (B, C, O) ∧ ((c < capU ∧ V = .slice (some ⟨B, O + o, none⟩) n c) ∨ (capU ≤ c ∧ n + (c - capU) ≤ C ∧ V = .slice (some ⟨B, O + o, none⟩) n (C - (c - capU)))) := by
  unfold rv at e
  split at e
  · rename_i B C O hb
    split at e
    · rename_i hc; cases e; exact ⟨B, C, O, hb, .inl ⟨hc, rfl⟩⟩
    · rename_i hc
      split at e
      · rename_i hn; cases e; exact ⟨B, C, O, hb, .inr ⟨by omega, hn, rfl⟩⟩
      · cases e
  · cases e
end
end
section
open Go.RowKit Go.MapKept
open Go.Vcg (Keep beq_ne add_lit sizeT zeroT bytesT run_sizeOf)
def ext (ρ : Env) (b : Nat) (x : Nat × Nat × Nat) : Env := fun c => bif Nat.beq c b then some x else ρ c
theorem ext_same {ρ : Env} {b : Nat} {x : Nat × Nat × Nat} : ext ρ b x b = some x := by simp [ext]
theorem ext_ne {ρ : Env} {b c : Nat} {x : Nat × Nat × Nat} (h : c ≠ b) : ext ρ b x c = ρ c := by simp [ext, beq_ne h]
theorem ext_le {ρ : Env} {b : Nat} {x : Nat × Nat × Nat} (h : ρ b = none) : ELe ρ (ext ρ b x) := fun c y e => by
  by_cases hc : c = b
  · subst hc; rw [h] at e; cases e
  · rw [ext_ne hc]; exact e
structure Fresh (ρ : Env) (nx b nx' : Nat) : Prop where
  free : ρ b = none
  le : nx ≤ nx'
  lt : b < nx'
  small : nx' ≤ 1048576
def Pr (h h' : Heap) : Prop := h'.mw ≤ h.mw ∧ ∀ b, b < h'.mw → hget h' b = hget h b
theorem Pr.refl (h : Heap) : Pr h h := ⟨Nat.le_refl _, fun _ _ => rfl⟩
theorem Pr.trans {h h' h'' : Heap} (p : Pr h h') (q : Pr h' h'') : Pr h h'' := ⟨Nat.le_trans q.1 p.1, fun b hb => (q.2 b hb).trans (p.2 b (Nat.lt_of_lt_of_le hb q.1))⟩
theorem hset_mw (h : Heap) (b : Nat) (o : Option AObj) : (hset h b o).mw ≤ h.mw ∧ (hset h b o).mw ≤ b := by
  show (bif Nat.blt b h.mw then b else h.mw) ≤ h.mw ∧ (bif Nat.blt b h.mw then b else h.mw) ≤ b
  cases hb : Nat.blt b h.mw with
  | true => have : b < h.mw := by simp [Nat.blt] at hb; omega
            simp; omega
  | false =>
    have : h.mw ≤ b := Nat.le_of_not_lt fun hlt => by
      rw [show Nat.blt b h.mw = true from (by rw [Nat.blt, Nat.ble_eq]; exact hlt)] at hb; cases hb
    simpa using this
theorem Pr.set {h : Heap} {b : Nat} (hb : b < 1048576) (o : Option AObj) : Pr h (hset h b o) := ⟨(hset_mw h b o).1, fun c hc => hget_set_other hb (by have := (hset_mw h b o).2; omega)⟩
structure Fr (B : Nat) (w w' : World) : Prop where
  os : w'.os = w.os
  tape : w'.tape = w.tape
  output : w'.output = w.output
  size : w.heap.size ≤ w'.heap.size
  block : ∀ b, b < w.heap.size → b ≠ B → w'.heap[b]? = w.heap[b]?
structure Fr2 (B B2 : Nat) (w w' : World) : Prop where
  os : w'.os = w.os
  tape : w'.tape = w.tape
  output : w'.output = w.output
  size : w.heap.size ≤ w'.heap.size
  block : ∀ b, b < w.heap.size → b ≠ B → b ≠ B2 → w'.heap[b]? = w.heap[b]?
theorem Fr.two {B : Nat} {w w' : World} (h : Fr B w w') : Fr2 B B w w' := ⟨h.os, h.tape, h.output, h.size, fun b hb h1 _ => h.block b hb h1⟩
theorem ObjOk.lt {ρ : Env} {C : Nat} {o : AObj} {w : World} {B : Nat} (h : ObjOk ρ C o w.heap[B]?) : B < w.heap.size := by
  cases o with
  | cells cs t r => obtain ⟨_, _, h2⟩ := h; exact (Array.getElem?_eq_some_iff.1 h2).1
  | row cs t sz => obtain ⟨_, _, _, h2, _⟩ := h; exact (Array.getElem?_eq_some_iff.1 h2).1
  | map es => obtain ⟨_, _, h2⟩ := h; exact (Array.getElem?_eq_some_iff.1 h2).1
  | tab cs => obtain ⟨_, _, _, _, h2⟩ := h; exact (Array.getElem?_eq_some_iff.1 h2).1
section
variable {w0 w w' : World} {ρ : Env} {h : Heap} {nx : Nat}
theorem Fr.keep (r : Rel w0 ρ h nx w) {B : Nat} (fr : Fr B w w') (hB0 : w0.heap.size ≤ B) : Keep [] w0 w' :=
  ⟨fr.os.trans r.keep.os, fr.tape.trans r.keep.tape, fr.output.trans r.keep.output, Nat.le_trans r.keep.size fr.size, fun b hb _ => by
    rw [fr.block b (Nat.lt_of_lt_of_le hb r.keep.size) (by omega)]; exact r.keep.block b hb (by simp)⟩
theorem Rel.put2 {b0 nx' : Nat} (r : Rel w0 ρ h nx w) (hf : Fresh ρ nx b0 nx') {B B2 C : Nat} {o : AObj} (hro : o.ro = false) (fr : Fr2 B B2 w w') (hB0 : w0.heap.size ≤ B) (hB2 : w0.heap.size ≤ B2)
    (hfree2 : ∀ c o C', hget h c = some o → ρ c = some (B2, C', 0) → False) (hfree : ∀ c o C', hget h c = some o → ρ c = some (B, C', 0) → False) (ho : ObjOk (ext ρ b0 (B, C, 0)) C o w'.heap[B]?) : Rel w0 (ext ρ b0 (B, C, 0)) (hset h b0 (some o)) nx' w' :=
  have hbs : b0 < 1048576 := Nat.lt_of_lt_of_le hf.lt hf.small
  { 
  ok := fun b o' e => by
    by_cases hb : b = b0
    · subst hb; rw [hget_set_same hbs] at e; cases e; exact ⟨B, C, ext_same, ho⟩
    · rw [hget_set_other hbs hb] at e
      obtain ⟨B', C', h1, h2⟩ := r.ok b o' e
      have hne : B' ≠ B := fun e' => hfree b o' C' e (by rw [← e']; exact h1)
      refine ⟨B', C', by rw [ext_ne hb]; exact h1, ?_⟩
      have hne2 : B' ≠ B2 := fun e' => hfree2 b o' C' e (by rw [← e']; exact h1)
      rw [fr.block B' h2.lt hne hne2]
      exact h2.mono (ext_le hf.free)
  inj := fun b b' o1 o2 B' C' C'' e e' h1 h2 => by
    by_cases hb : b = b0
    · by_cases hb' : b' = b0
      · rw [hb, hb']
      · subst hb
        rw [ext_same] at h1; cases h1
        rw [hget_set_other hbs hb'] at e'
        rw [ext_ne hb'] at h2
        exact (hfree b' o2 C'' e' h2).elim
    · rw [hget_set_other hbs hb] at e
      rw [ext_ne hb] at h1
      by_cases hb' : b' = b0
      · subst hb'
        rw [ext_same] at h2; cases h2
        exact (hfree b o1 C' e h1).elim
      · rw [hget_set_other hbs hb'] at e'
        rw [ext_ne hb'] at h2
        exact r.inj b b' o1 o2 B' C' C'' e e' h1 h2
  new := fun b hb => by rw [ext_ne (by have := hf.lt; omega)]; exact r.new b (by have := hf.le; omega)
  small := hf.small
  own := fun b o' e hr B' C' h1 => by
    by_cases hb : b = b0
    · subst hb; rw [ext_same] at h1; cases h1; exact hB0
    · rw [hget_set_other hbs hb] at e
      rw [ext_ne hb] at h1
      exact r.own b o' e hr B' C' h1
  old := fun b o' e hr B' C' h1 => by
    by_cases hb : b = b0
    · subst hb; rw [hget_set_same hbs] at e; cases e; rw [hro] at hr; cases hr
    · rw [hget_set_other hbs hb] at e
      rw [ext_ne hb] at h1
      exact r.old b o' e hr B' C' h1
  keep := ⟨fr.os.trans r.keep.os, fr.tape.trans r.keep.tape, fr.output.trans r.keep.output, Nat.le_trans r.keep.size fr.size, fun b hb _ => by
    rw [fr.block b (Nat.lt_of_lt_of_le hb r.keep.size) (by omega) (by omega)]; exact r.keep.block b hb (by simp)⟩ }
theorem Rel.put {b0 nx' : Nat} (r : Rel w0 ρ h nx w) (hf : Fresh ρ nx b0 nx') {B C : Nat} {o : AObj} (hro : o.ro = false) (fr : Fr B w w') (hB0 : w0.heap.size ≤ B)
    (hfree : ∀ c o C', hget h c = some o → ρ c = some (B, C', 0) → False) (ho : ObjOk (ext ρ b0 (B, C, 0)) C o w'.heap[B]?) : Rel w0 (ext ρ b0 (B, C, 0)) (hset h b0 (some o)) nx' w' :=
  r.put2 hf hro fr.two hB0 hB0 hfree hfree ho
theorem Rel.drop (r : Rel w0 ρ h nx w) {b : Nat} (hb : b < 1048576) : Rel w0 ρ (hset h b none) nx w := by
  have key : ∀ c o, hget (hset h b none) c = some o → hget h c = some o := fun c o e => by
    by_cases hc : c = b
    · subst hc; rw [hget_set_same hb] at e; cases e
    · rw [hget_set_other hb hc] at e; exact e
  exact ⟨fun c o e => r.ok c o (key c o e), fun c c' o o' B C C' e e' => r.inj c c' o o' B C C' (key _ _ e) (key _ _ e'), r.new, r.small, fun c o e => r.own c o (key _ _ e), fun c o e => r.old c o (key _ _ e), r.keep⟩
theorem Rel.upd (r : Rel w0 ρ h nx w) {b B C : Nat} {o o' : AObj} (hb : hget h b = some o) (hro : o.ro = false) (hro' : o'.ro = false) (hB : ρ b = some (B, C, 0)) (fr : Fr B w w') (ho : ObjOk ρ C o' w'.heap[B]?) : Rel w0 ρ (hset h b (some o')) nx w' where
  ok := fun c o1 e => by
    by_cases hc : c = b
    · subst hc; rw [hget_set_same (hget_lt hb)] at e; cases e; exact ⟨B, C, hB, ho⟩
    · rw [hget_set_other (hget_lt hb) hc] at e
      obtain ⟨B', C', h1, h2⟩ := r.ok c o1 e
      have hne : B' ≠ B := fun e' => hc (r.inj c b o1 o B' C' C e hb h1 (by rw [e']; exact hB))
      exact ⟨B', C', h1, by rw [fr.block B' h2.lt hne]; exact h2⟩
  inj := fun c c' o1 o2 B' C' C'' e e' h1 h2 => by
    have key : ∀ c o1, hget (hset h b (some o')) c = some o1 → ∃ o2, hget h c = some o2 := fun c o1 e => by
      by_cases hc : c = b
      · subst hc; exact ⟨o, hb⟩
      · rw [hget_set_other (hget_lt hb) hc] at e; exact ⟨o1, e⟩
    obtain ⟨p, hp⟩ := key _ _ e
    obtain ⟨q, hq⟩ := key _ _ e'
    exact r.inj c c' p q B' C' C'' hp hq h1 h2
  new := r.new
  small := r.small
  own := fun c o1 e hr B' C' h1 => by
    by_cases hc : c = b
    · subst hc; exact r.own c o hb hro B' C' h1
    · rw [hget_set_other (hget_lt hb) hc] at e; exact r.own c o1 e hr B' C' h1
  old := fun c o1 e hr B' C' h1 => by
    by_cases hc : c = b
    · subst hc; rw [hget_set_same (hget_lt hb)] at e; cases e; rw [hro'] at hr; cases hr
    · rw [hget_set_other (hget_lt hb) hc] at e; exact r.old c o1 e hr B' C' h1
  keep := fr.keep r (r.own b o hb hro B C hB)
theorem Rel.after (r : Rel w0 ρ h nx w) (fr : Fr w.heap.size w w') : Rel w0 ρ h nx w' :=
  ⟨fun b o e => by
    obtain ⟨B, C, h1, h2⟩ := r.ok b o e
    exact ⟨B, C, h1, by rw [fr.block B h2.lt (by have := h2.lt; omega)]; exact h2⟩, r.inj, r.new, r.small, r.own, r.old, fr.keep r r.keep.size⟩
theorem Rel.name {b0 nx' : Nat} (r : Rel w0 ρ h nx w) (hf : Fresh ρ nx b0 nx') (x : Nat × Nat × Nat) : Rel w0 (ext ρ b0 x) h nx' w := by
  have hle := ext_le (x := x) hf.free
  have key : ∀ b o, hget h b = some o → ext ρ b0 x b = ρ b := fun b o e => ext_ne (fun hb => by
    obtain ⟨B, C, h1, _⟩ := r.ok b o e
    rw [hb, hf.free] at h1; cases h1)
  exact ⟨fun b o e => by
    obtain ⟨B, C, h1, h2⟩ := r.ok b o e
    exact ⟨B, C, hle _ _ h1, h2.mono hle⟩, fun b b' o o' B C C' e e' h1 h2 => r.inj b b' o o' B C C' e e' (by rw [← key b o e]; exact h1) (by rw [← key b' o' e']; exact h2),
    fun b hb => by rw [ext_ne (by have := hf.lt; omega)]; exact r.new b (by have := hf.le; omega), hf.small, fun b o e hr B C h1 => r.own b o e hr B C (by rw [← key b o e]; exact h1), fun b o e hr B C h1 => r.old b o e hr B C (by rw [← key b o e]; exact h1), r.keep⟩
theorem fr_alloc (w : World) (o : Obj) : Fr w.heap.size w (w.alloc o) := ⟨rfl, rfl, rfl, by simp, fun b hb _ => Below.heap_alloc w _ b hb⟩
theorem fr_alloc_drew (w : World) (o : Obj) : Fr w.heap.size w (w.drew.alloc o) := ⟨rfl, rfl, rfl, by simp, fun b hb _ => Below.heap_alloc w.drew _ b (by simpa using hb)⟩
theorem Rel.noSize (r : Rel w0 ρ h nx w) : ∀ c o C', hget h c = some o → ρ c = some (w.heap.size, C', 0) → False := fun c o C' e h1 => by
  obtain ⟨B, C, h2, h3⟩ := r.ok c o e
  rw [h1] at h2; cases h2
  have := h3.lt
  omega
theorem Rel.cells {b0 nx' : Nat} (r : Rel w0 ρ h nx w) (hf : Fresh ρ nx b0 nx') {cs CS : List Value} (hc : rvs ρ cs = some CS) (t : TypeId) :
    Rel w0 (ext ρ b0 (w.heap.size, 0, 0)) (hset h b0 (some (.cells cs t false))) nx' (w.alloc (.cells CS.toArray t)) :=
  r.put hf rfl (fr_alloc w _) r.keep.size r.noSize ⟨CS, rvs_mono (ext_le hf.free) hc, heap_alloc_new w _⟩
theorem Rel.row {b0 nx' : Nat} (r : Rel w0 ρ h nx w) (hf : Fresh ρ nx b0 nx') {cs CS : List Value} (hc : rvs ρ cs = some CS) (t : TypeId) {sz C : Nat} {arr : Array Value} (h1 : arr.size = C * sz) (h2 : C ≤ maxLen) (h3 : CS.length ≤ arr.size) (h4 : arr.toList.take CS.length = CS) :
    Rel w0 (ext ρ b0 (w.heap.size, C, 0)) (hset h b0 (some (.row cs t sz))) nx' (w.drew.alloc (.cells arr t)) :=
  r.put hf rfl (fr_alloc_drew w _) r.keep.size r.noSize ⟨CS, arr, rvs_mono (ext_le hf.free) hc, by
    have := heap_alloc_new w.drew (.cells arr t); simpa using this, h1, h2, h3, h4⟩
end
theorem rv_one {ρ : Env} {v V : Value} (h : rv ρ v = some V) : V.oneCell' = v.oneCell' := by
  cases v with
  | bool b => cases rv_nil h rfl; rfl
  | int k n => cases rv_nil h rfl; rfl
  | float k n => cases rv_nil h rfl; rfl
  | complex _ _ _ => simp [rv] at h
  | chan _ => simp [rv] at h
  | string s => cases rv_nil h rfl; rfl
  | pointer p =>
    match p with
    | none => cases rv_nil h rfl; rfl
    | some ⟨b, o, none⟩ => obtain ⟨A, rfl⟩ := rv_pointer_some h; rfl
    | some ⟨b, o, some _⟩ => simp [rv] at h
  | slice p n c =>
    match p with
    | none => cases rv_nil h rfl; rfl
    | some ⟨b, o, none⟩ => obtain ⟨A, C, rfl⟩ := rv_slice_some h; rfl
    | some ⟨b, o, some _⟩ => simp [rv] at h
  | map m =>
    cases m with
    | none => cases rv_nil h rfl; rfl
    | some b => obtain ⟨_, _, _, _, rfl⟩ := rv_map_some h; rfl
  | func f p q =>
    cases f with
    | func f => obtain ⟨_, _, _, _, rfl⟩ := rv_func h; rfl
    | method _ => simp [rv] at h
    | methodOf _ _ => simp [rv] at h
    | via _ _ _ _ => simp [rv] at h
    | yield _ => simp [rv] at h
  | nilFunc => cases rv_nil h rfl; rfl
  | iface t v => obtain ⟨_, _, rfl⟩ := rv_iface h; rfl
  | nilIface => cases rv_nil h rfl; rfl
  | agg p => obtain ⟨_, _, rfl⟩ := rv_agg h; rfl
  | tuple p => obtain ⟨_, _, rfl⟩ := rv_tuple h; rfl
theorem rvs_one {ρ : Env} : ∀ {l L : List Value}, rvs ρ l = some L → l.all (·.oneCell') = true → ∀ u ∈ L, u.oneCell' = true
  | [], L, h, _, u, hu => by simp [rvs] at h; subst h; cases hu
  | v :: r, L, h, ha, u, hu => by
    unfold rvs at h
    split at h
    · rename_i V R hv hr
      cases h
      simp only [List.all_cons, Bool.and_eq_true] at ha
      rcases List.mem_cons.1 hu with rfl | hu
      · rw [rv_one hv]; exact ha.1
      · exact rvs_one hr ha.2 u hu
    · cases h
def cellsOf : Value → List Value
  | .agg ⟨l⟩ => l
  | v => [v]
theorem rv_cells {ρ : Env} {v V : Value} (h : rv ρ v = some V) (h1 : (cellsOf v).all (·.oneCell') = true) : rvs ρ (cellsOf v) = some V.cells.toList := by
  cases v with
  | agg p => obtain ⟨X, hx, rfl⟩ := rv_agg h; simpa [cellsOf, Value.cells] using hx
  | tuple p => simp [cellsOf, Value.oneCell'] at h1
  | _ =>
    have h2 := rv_one h
    have h3 : V.cells = #[V] := Go.Vcg.one_cells (by rw [h2]; rfl)
    simp [cellsOf, rvs, h, h3]
end
section
open Go.RowKit Go.MapKept
open Go.Vcg (Keep beq_ne aggOf sizeT zeroT bytesT fieldT run_fieldAt run_indexAt add_lit callable run_zeroValue)
attribute [local irreducible] capU
section
variable {P : Program} {N : Nat} {ρ : Env} {h : Heap} {l : Sls} {a : Act} {w : World} {nx : Nat}
variable {ds : Option Nat} {ty : TypeId} {pos : String} {af : Array Edge} {gd : Option (Nat × Bool)}
theorem blt_t {a b : Nat} (h : Nat.blt a b = true) : a < b := by simp [Nat.blt] at h; omega
theorem blt_f {a b : Nat} (h : Nat.blt a b = false) : b ≤ a := Nat.le_of_not_lt fun hlt => by
  rw [show Nat.blt a b = true from (by rw [Nat.blt, Nat.ble_eq]; exact hlt)] at h; cases h
theorem ble_t {a b : Nat} (h : Nat.ble a b = true) : a ≤ b := by simpa using h
def pflat (P : Program) (s : Sem Value) : Option Value := match psem P s with
  | some r => match flat2 r with
    | true => some r
    | false => none
  | none => none
theorem pflat_sound {s : Sem Value} {v : Value} (e : pflat P s = some v) : (∀ w : World, s.run P w = .ok v w) ∧ ∀ ρ, rv ρ v = some v := by
  unfold pflat at e
  split at e
  · rename_i r hr
    split at e
    · rename_i hf; cases e; exact ⟨psem_run hr, fun ρ => rv_flat2 hf⟩
    · cases e
  · cases e
def f1 (u : Value) (k : Unit → Option Value) : Option Value := match flat2 u with
  | true => k ()
  | false => none
theorem f1_sound {u U v : Value} {k : Unit → Option Value} (hu : rv ρ u = some U) (e : f1 u k = some v) : U = u ∧ k () = some v := by
  unfold f1 at e
  split at e
  · rename_i hf; exact ⟨rv_flat2_eq hf hu, e⟩
  · cases e
def qlen (P : Program) (ts : List TypeId) (u : Value) : Option Value := match ts with
  | [t] => match u with
    | .slice _ n _ => match P.underlying t with
      | some (.slice _) => some (.int .i64 n)
      | _ => none
    | _ => none
  | _ => none
theorem qlen_sound {ts : List TypeId} {x : Operand} {u v : Value} (hu : rv ρ u = some (a.eval x)) (e : qlen P ts u = some v) : Yes P ρ a w ⟨ds, .call { callee := .builtin .len, args := #[x], argTypes := ts.toArray }, ty, pos, af, gd⟩ v := by
  unfold qlen at e
  split at e
  · rename_i t
    split at e
    · rename_i A n c
      split at e
      · rename_i el ht
        cases e
        refine ⟨_, rv_flat rfl, ?_⟩
        have : ∃ A' c', a.eval x = .slice A' n c' := by
          rcases A with _ | ⟨b, o, _ | s⟩
          · exact ⟨_, _, rv_nil hu rfl⟩
          · obtain ⟨A', C, h1⟩ := rv_slice_some hu; exact ⟨_, _, h1⟩
          · simp [rv] at hu
        obtain ⟨A', c', h1⟩ := this
        generalize a.eval = ev at h1
        simp [execOp, h1, resolve, invoke, builtin, Builtin.len_, run_underlying ht, goInt]
      · cases e
    · cases e
  · cases e
def qfield (P : Program) (t : TypeId) (u : Value) (i : Nat) : Option Value := match P.underlying t with
  | some (.struct fs) => match fs[i]? with
    | some f => match u with
      | .agg ⟨cs⟩ => varAt P f.type cs f.offset
      | _ => none
    | none => none
  | _ => none
theorem qfield_sound {t : TypeId} {u U v : Value} {i : Nat} (hu : rv ρ u = some U) (e : qfield P t u i = some v) : ∃ V, rv ρ v = some V ∧ (Instr.field t U i).run P w = .ok V w := by
  unfold qfield at e
  split at e
  · rename_i fs hT
    split at e
    · rename_i f hf
      split at e
      · rename_i cs
        obtain ⟨X, hX, rfl⟩ := rv_agg hu
        obtain ⟨V, h1, h2⟩ := run_part (P := P) (w := w) hX e
        exact ⟨V, h1, by simp [Instr.field, run_underlying hT, hf, asAgg, h2]⟩
      · cases e
    · cases e
  · cases e
def qfaddr (P : Program) (t : TypeId) (u : Value) (i : Nat) : Option Value := match u with
  | .pointer (some ⟨b, o, none⟩) => match fieldT P t i with
    | some (_, off) => some (.pointer (some ⟨b, o + off, none⟩))
    | none => none
  | _ => none
theorem rv_ptr' {b o : Nat} {V : Value} (e : rv ρ (.pointer (some ⟨b, o, none⟩)) = some V) : ∃ B C O, ρ b = some (B, C, O) ∧ V = .pointer (some ⟨B, O + o, none⟩) := by
  unfold rv at e
  split at e
  · rename_i B C O hb; cases e; exact ⟨B, C, O, hb, rfl⟩
  · cases e
theorem qfaddr_sound {t : TypeId} {u U v : Value} {i : Nat} (hu : rv ρ u = some U) (e : qfaddr P t u i = some v) : ∃ V, rv ρ v = some V ∧ (Instr.fieldAt t U i).run P w = .ok V w := by
  unfold qfaddr at e
  split at e
  · rename_i b o
    split at e
    · rename_i ft off hf
      cases e
      obtain ⟨B, C, O, hb, rfl⟩ := rv_ptr' hu
      exact ⟨_, by simp [rv, hb]; rfl, by rw [run_fieldAt hf, add_lit, Nat.add_assoc]⟩
    · cases e
  · cases e
def qiaddr (P : Program) (t : TypeId) (u : Value) (i : Value) : Option Value := match i with
  | .int .i64 (.ofNat k) => match u with
    | .slice (some ⟨b, o, none⟩) n _ => match Nat.blt k n with
      | true => match P.underlying t with
        | some (.slice e) => match sizeT P e with
          | some s => some (.pointer (some ⟨b, o + k * s, none⟩))
          | none => none
        | _ => none
      | false => none
    | _ => none
  | _ => none
def qiarr (P : Program) (t : TypeId) (u : Value) (i : Value) : Option Value := match i with
  | .int _ (.ofNat k) => match u with
    | .pointer (some ⟨b, o, none⟩) => match P.underlying t with
        | some (.array n e) => match Nat.blt k n with
          | true => match sizeT P e with
            | some s => some (.pointer (some ⟨b, o + k * s, none⟩))
            | none => none
          | false => none
        | _ => none
    | _ => none
  | _ => none
theorem qiaddr_sound {t : TypeId} {u U i v : Value} (hu : rv ρ u = some U) (e : qiaddr P t u i = some v) : ∃ V, rv ρ v = some V ∧ (Instr.indexAt t U i).run P w = .ok V w := by
  unfold qiaddr at e
  split at e
  · rename_i k
    split at e
    · rename_i b o n c
      split at e
      · rename_i hk
        split at e
        · rename_i el hT
          split at e
          · rename_i s hs
            cases e
            have hk' : k < n := blt_t hk
            obtain ⟨B, C, O, hb, h1⟩ := rv_slice hu
            have h2 : ∃ c', U = .slice (some ⟨B, O + o, none⟩) n c' := by
              rcases h1 with ⟨_, rfl⟩ | ⟨_, _, rfl⟩ <;> exact ⟨_, rfl⟩
            obtain ⟨c', rfl⟩ := h2
            refine ⟨.pointer (some ⟨B, O + (o + k * s), none⟩), by simp [rv, hb], ?_⟩
            have := run_indexAt (P := P) (A := ⟨B, O + o, none⟩) (cap := c') hT hs hk' w
            rw [add_lit, Nat.add_assoc] at this
            exact this
          · cases e
        · cases e
      · cases e
    · cases e
  · cases e
theorem qiarr_sound {t : TypeId} {u U i v : Value} (hu : rv ρ u = some U) (e : qiarr P t u i = some v) : ∃ V, rv ρ v = some V ∧ (Instr.indexAt t U i).run P w = .ok V w := by
  unfold qiarr at e
  split at e
  · rename_i kd k
    split at e
    · rename_i b o
      split at e
      · rename_i n el hT
        split at e
        · rename_i hk
          split at e
          · rename_i s hs
            cases e
            have hk' : k < n := blt_t hk
            obtain ⟨B, C, O, hb, rfl⟩ := rv_ptr' hu
            refine ⟨.pointer (some ⟨B, O + (o + k * s), none⟩), by simp [rv, hb], ?_⟩
            simp [Instr.indexAt, asIntOf, run_underlying hT, Instr.sureAddr, Go.Vcg.run_sizeOf hs, hk', add_lit, Nat.add_assoc]
          · cases e
        · cases e
      · cases e
    · cases e
  · cases e
def boundOf (x : Option Value) (d : Nat) : Option Nat := match x with
  | none => some d
  | some (.int .i64 (.ofNat k)) => some k
  | some _ => none
def boundMax (hi : Option Value) (m : Value) : Option Nat := match hi with
  | none => none
  | some _ => boundOf (some m) 0
def qsliceU (capU : Nat) (P : Program) (t : TypeId) (u : Value) (lo hi mx : Option Value) : Option Value := match P.underlying t with
  | some (.slice e) => match sizeT P e with
    | some s => match u with
      | .slice (some ⟨b, o, none⟩) n c => match boundOf lo 0, boundOf hi n with
        | some i, some j => match mx with
          | none => match Nat.ble i j with
            | true => match Nat.blt c capU with
              | true => match Nat.ble j c with
                | true => match Nat.beq c i with
                  | true => some (.slice (some ⟨b, o, none⟩) (j - i) (c - i))
                  | false => some (.slice (some ⟨b, o + i * s, none⟩) (j - i) (c - i))
                | false => none
              | false => match Nat.ble j n with
                | true => match Nat.beq i 0 with
                  | true => some (.slice (some ⟨b, o, none⟩) (j - i) c)
                  | false => match Nat.blt i n with
                    | true => some (.slice (some ⟨b, o + i * s, none⟩) (j - i) (c + i))
                    | false => none
                | false => none
            | false => none
          | some m => match boundMax hi m with
            | some m => match Nat.ble i j with
              | true => match Nat.ble j m with
                | true => match Nat.ble m n with
                  | true => match Nat.ble m c with
                    | true => match Nat.beq m i with
                      | true => match Nat.blt m capU with
                        | true => some (.slice (some ⟨b, o, none⟩) (j - i) (m - i))
                        | false => none
                      | false => match Nat.blt m capU with
                        | true => some (.slice (some ⟨b, o + i * s, none⟩) (j - i) (m - i))
                        | false => none
                    | false => none
                  | false => none
                | false => none
              | false => none
            | none => none
        | _, _ => none
      | .slice none 0 0 => match boundOf lo 0, boundOf hi 0 with
        | some 0, some 0 => match mx with
          | none => some (.slice none 0 0)
          | some m => match boundMax hi m with
            | some 0 => some (.slice none 0 0)
            | _ => none
        | _, _ => none
      | _ => none
    | none => none
  | _ => none
theorem run_bound {x : Value} {k y : Nat} (e : boundOf (some x) 0 = some k) (hk : k ≤ y) (c : BoundsCode) : (Instr.sliceBound x y c).run P w = .ok k w := by
  unfold boundOf at e
  split at e
  · rename_i h1; cases h1
  · rename_i k' h1
    cases h1; cases e
    have h2 : (0 : Int) ≤ (k : Int) ∧ (k : Int) ≤ (y : Int) := by omega
    simp [Instr.sliceBound, asIntOf, hk]
  · cases e
theorem boundOf_some (u : Value) (n : Nat) : boundOf (some u) n = boundOf (some u) 0 := by
  unfold boundOf
  split <;> simp_all
theorem run_sliceAt {t e : TypeId} {s n c i j : Nat} {A : Option Addr} {lo hi : Option Value} (ht : P.underlying t = some (.slice e)) (hs : sizeT P e = some s) (hi' : boundOf lo 0 = some i) (hj : boundOf hi n = some j) (h1 : i ≤ j) (h2 : j ≤ c) :
    (Instr.sliceAt t (.slice A n c) lo hi none).run P w = .ok (.slice (if c = i then A else A.map (·.add (i * s))) (j - i) (c - i)) w := by
  have hlo : (match lo with | some v => Instr.sliceBound v j .sliceB | none => pure 0 : Sem Nat).run P w = .ok i w := by
    cases lo with
    | none => simp [boundOf] at hi'; simp [hi']
    | some v => exact run_bound hi' h1 _
  cases hi with
  | none =>
    simp [boundOf] at hj
    subst hj
    cases lo with
    | none => simp [boundOf] at hi'; subst hi'; simp [Instr.sliceAt, Instr.slice, run_underlying ht, Instr.sliceBounds, Go.Vcg.run_sizeOf hs]
    | some v => simp [Instr.sliceAt, Instr.slice, run_underlying ht, Instr.sliceBounds, Go.Vcg.run_sizeOf hs, run_bound hi' h1]
  | some u =>
    have hj' : boundOf (some u) 0 = some j := by rw [← boundOf_some u n]; exact hj
    cases lo with
    | none => simp [boundOf] at hi'; subst hi'; simp [Instr.sliceAt, Instr.slice, run_underlying ht, Instr.sliceBounds, Go.Vcg.run_sizeOf hs, run_bound hj' h2]
    | some v => simp [Instr.sliceAt, Instr.slice, run_underlying ht, Instr.sliceBounds, Go.Vcg.run_sizeOf hs, run_bound hi' h1, run_bound hj' h2]
theorem run_sliceAt3 {t e : TypeId} {s n c i j m : Nat} {A : Option Addr} {lo : Option Value} {hv mv : Value} (ht : P.underlying t = some (.slice e)) (hs : sizeT P e = some s) (hi' : boundOf lo 0 = some i) (hj : boundOf (some hv) 0 = some j) (hm : boundOf (some mv) 0 = some m) (h1 : i ≤ j) (h2 : j ≤ m) (h3 : m ≤ c) :
    (Instr.sliceAt t (.slice A n c) lo (some hv) (some mv)).run P w = .ok (.slice (if m = i then A else A.map (·.add (i * s))) (j - i) (m - i)) w := by
  cases lo with
  | none => simp [boundOf] at hi'; subst hi'; simp [Instr.sliceAt, Instr.slice, run_underlying ht, Instr.sliceBounds, Go.Vcg.run_sizeOf hs, run_bound hj h2, run_bound hm h3]
  | some v => simp [Instr.sliceAt, Instr.slice, run_underlying ht, Instr.sliceBounds, Go.Vcg.run_sizeOf hs, run_bound hi' h1, run_bound hj h2, run_bound hm h3]
theorem rv_slice_mk {b o n c B C O : Nat} (hb : ρ b = some (B, C, O)) (hc : c < capU) : rv ρ (.slice (some ⟨b, o, none⟩) n c) = some (.slice (some ⟨B, O + o, none⟩) n c) := by
  simp [rv, hb, hc]
theorem rv_slice_mku {b o n c B C O : Nat} (hb : ρ b = some (B, C, O)) (hc : capU ≤ c) (hn : n + (c - capU) ≤ C) : rv ρ (.slice (some ⟨b, o, none⟩) n c) = some (.slice (some ⟨B, O + o, none⟩) n (C - (c - capU))) := by
  simp [rv, hb, show ¬ c < capU by omega, hn]
theorem qsliceU_sound {U0 : Nat} (mk : ∀ (b o n c B C O : Nat), ρ b = some (B, C, O) → c < U0 → rv ρ (.slice (some ⟨b, o, none⟩) n c) = some (.slice (some ⟨B, O + o, none⟩) n c))
    (mku : ∀ (b o n c B C O : Nat), ρ b = some (B, C, O) → U0 ≤ c → n + (c - U0) ≤ C → rv ρ (.slice (some ⟨b, o, none⟩) n c) = some (.slice (some ⟨B, O + o, none⟩) n (C - (c - U0))))
    (rs : ∀ (b o n c : Nat) (V : Value), rv ρ (.slice (some ⟨b, o, none⟩) n c) = some V → ∃ B C O, ρ b = some (B, C, O) ∧ ((c < U0 ∧ V = .slice (some ⟨B, O + o, none⟩) n c) ∨ (U0 ≤ c ∧ n + (c - U0) ≤ C ∧ V = .slice (some ⟨B, O + o, none⟩) n (C - (c - U0)))))
    {t : TypeId} {u U v : Value} {lo hi mx : Option Value} (hu : rv ρ u = some U) (e : qsliceU U0 P t u lo hi mx = some v) : ∃ V, rv ρ v = some V ∧ (Instr.sliceAt t U lo hi mx).run P w = .ok V w := by
  unfold qsliceU at e
  split at e
  · rename_i el ht
    split at e
    · rename_i s hs
      split at e
      · rename_i b o n c
        split at e
        · rename_i i j hi' hj
          obtain ⟨B, C, O, hb, hU⟩ := rs _ _ _ _ _ hu
          split at e
          · split at e
            · rename_i hij
              have hij' : i ≤ j := ble_t hij
              split at e
              · rename_i hc
                have hc' : c < U0 := blt_t hc
                rcases hU with ⟨_, rfl⟩ | ⟨h', _⟩
                · split at e
                  · rename_i hjc
                    have hjc' : j ≤ c := ble_t hjc
                    have hr := run_sliceAt (P := P) (w := w) (A := some ⟨B, O + o, none⟩) (n := n) ht hs hi' hj hij' hjc'
                    split at e
                    · rename_i hci
                      have hci' : c = i := Nat.eq_of_beq_eq_true hci
                      cases e
                      refine ⟨_, mk _ _ _ _ _ _ _ hb (by omega), ?_⟩
                      rw [hr, if_pos hci']
                    · rename_i hci
                      have hci' : c ≠ i := Nat.ne_of_beq_eq_false hci
                      cases e
                      refine ⟨_, mk _ _ _ _ _ _ _ hb (by omega), ?_⟩
                      rw [hr, if_neg hci']
                      simp [add_lit, Nat.add_assoc]
                  · cases e
                · omega
              · rename_i hc
                have hc' : U0 ≤ c := blt_f hc
                rcases hU with ⟨h', _⟩ | ⟨_, hnC, rfl⟩
                · omega
                · split at e
                  · rename_i hjn
                    have hjn' : j ≤ n := ble_t hjn
                    have hr := run_sliceAt (P := P) (w := w) (A := some ⟨B, O + o, none⟩) (n := n) (c := C - (c - U0)) ht hs hi' hj hij' (by omega)
                    split at e
                    · rename_i h0
                      have h0' : i = 0 := Nat.eq_of_beq_eq_true h0
                      subst h0'
                      cases e
                      refine ⟨_, mku _ _ _ _ _ _ _ hb hc' (by omega), ?_⟩
                      rw [hr]
                      by_cases h0 : C - (c - U0) = 0
                      · rw [if_pos h0]; simp
                      · rw [if_neg h0]; simp [add_lit]
                    · split at e
                      · rename_i hin
                        have hin' : i < n := blt_t hin
                        cases e
                        refine ⟨_, mku _ _ _ _ _ _ _ hb (by omega) (by omega), ?_⟩
                        rw [hr, if_neg (by omega)]
                        simp only [Option.map_some, add_lit, Nat.add_assoc]
                        congr 2
                        omega
                      · cases e
                  · cases e
            · cases e
          · rename_i m0
            split at e
            · rename_i m hm
              unfold boundMax at hm
              split at hm
              · cases hm
              · rename_i hv
                split at e
                · rename_i hij
                  have hij' : i ≤ j := ble_t hij
                  split at e
                  · rename_i hjm
                    have hjm' : j ≤ m := ble_t hjm
                    split at e
                    · rename_i hmn
                      have hmn' : m ≤ n := ble_t hmn
                      split at e
                      · rename_i hmc
                        have hmc' : m ≤ c := ble_t hmc
                        have hU' : ∃ c', U = .slice (some ⟨B, O + o, none⟩) n c' ∧ m ≤ c' := by
                          rcases hU with ⟨_, rfl⟩ | ⟨_, h2, rfl⟩
                          · exact ⟨_, rfl, hmc'⟩
                          · exact ⟨_, rfl, by omega⟩
                        obtain ⟨c', rfl, h3⟩ := hU'
                        have hr := run_sliceAt3 (P := P) (w := w) (A := some ⟨B, O + o, none⟩) (n := n) ht hs hi' (by rw [← boundOf_some hv n]; exact hj) hm hij' hjm' h3
                        split at e
                        · rename_i hmi
                          have hmi' : m = i := Nat.eq_of_beq_eq_true hmi
                          split at e
                          · rename_i hcu
                            have hcu' : m < U0 := blt_t hcu
                            cases e
                            refine ⟨_, mk _ _ _ _ _ _ _ hb (by omega), ?_⟩
                            rw [hr, if_pos hmi']
                          · cases e
                        · rename_i hmi
                          have hmi' : m ≠ i := Nat.ne_of_beq_eq_false hmi
                          split at e
                          · rename_i hcu
                            have hcu' : m < U0 := blt_t hcu
                            cases e
                            refine ⟨_, mk _ _ _ _ _ _ _ hb (by omega), ?_⟩
                            rw [hr, if_neg hmi']
                            simp [add_lit, Nat.add_assoc]
                          · cases e
                      · cases e
                    · cases e
                  · cases e
                · cases e
            · cases e
        · cases e
      · cases rv_nil hu rfl
        split at e
        · rename_i hi' hj
          split at e
          · cases e
            refine ⟨_, rv_flat rfl, ?_⟩
            rw [run_sliceAt ht hs hi' hj (Nat.le_refl _) (Nat.le_refl _)]
            simp
          · split at e
            · rename_i hm
              cases e
              unfold boundMax at hm
              split at hm
              · cases hm
              · refine ⟨_, rv_flat rfl, ?_⟩
                rw [run_sliceAt3 ht hs hi' hj hm (Nat.le_refl _) (Nat.le_refl _) (Nat.le_refl _)]
                simp
            · cases e
        · cases e
      · cases e
    · cases e
  · cases e
def qslice (P : Program) (t : TypeId) (u : Value) (lo hi mx : Option Value) : Option Value := qsliceU capU P t u lo hi mx
theorem qslice_sound {t : TypeId} {u U v : Value} {lo hi mx : Option Value} (hu : rv ρ u = some U) (e : qslice P t u lo hi mx = some v) : ∃ V, rv ρ v = some V ∧ (Instr.sliceAt t U lo hi mx).run P w = .ok V w :=
  qsliceU_sound (fun _ _ _ _ _ _ _ => rv_slice_mk) (fun _ _ _ _ _ _ _ => rv_slice_mku) (fun _ _ _ _ _ => rv_slice) hu e
end
end
end Go.Rex
namespace Go.Proofs.YtoclmkdfcafhfaaGreatDoor
end Go.Proofs.YtoclmkdfcafhfaaGreatDoor
