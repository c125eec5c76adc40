/- A machine for closed runs: any operation. -/
import Derived.Test.YtoclmkdfcafhfaaGreatDoorZak
import Derived.Defers
set_option maxRecDepth 20000
namespace Go.Rex
section
open Go.RowKit Go.MapKept
open Go.Vcg (jP jN eU bA cH dF add_lit bW jX BS)
attribute [local irreducible] dX
section
variable {P : Program} {N : Nat} {w0 : World} {ρ : Env} {h : Heap} {l : Sls} {a : Act} {w : World} {nx : Nat}
def aDo (u : Value) : Option Value := match u with
  | .pointer (some ⟨b, o, none⟩) => some (.pointer (some ⟨b, o, none⟩))
  | .func (.func f) p q => some (.func (.func f) p q)
  | _ => none
def QZ (N : Nat) (l : Sls) : Option Operand → Option (Option Value)
  | none => some none
  | some x => match aev N l x with
    | some v => match flat v with
      | true => some (some v)
      | false => none
    | none => none
theorem lG (hs : Sl N ρ l a) {x : Option Operand} {v : Option Value} (e : QZ N l x = some v) : x.map a.eval = v := by
  unfold QZ at e
  split at e
  · cases e; rfl
  · split at e
    · rename_i u hu
      split at e
      · rename_i hf
        cases e
        have := bU (aG hs hu) hf
        simp [this]
      · cases e
    · cases e
def aHe (P : Program) (t : TypeId) : Bool := match P.underlying t with
  | some (.slice _) => true
  | _ => false
def orE (x : Option Value) (y : Unit → Option Value) : Option Value := match x with
  | some v => some v
  | none => y ()
theorem mT {x : Option Value} {y : Unit → Option Value} {v : Value} (e : orE x y = some v) : x = some v ∨ y () = some v := by
  unfold orE at e
  split at e
  · exact .inl e
  · exact .inr e
def JC (P : Program) (s : Sem Next) : Option Value := match mS P s with
  | some (.value r) => match gW r with
    | true => some r
    | false => none
  | _ => none
theorem oT {s : Sem Next} {v : Value} (e : JC P s = some v) : (∀ w : World, s.run P w = .ok (.value v) w) ∧ ∀ ρ, rv ρ v = some v := by
  unfold JC at e
  split at e
  · rename_i r hr
    split at e
    · rename_i hf; cases e; exact ⟨oS hr, fun ρ => eB hf⟩
    · cases e
  · cases e
theorem kQ {vs VS : List Value} (hf : gV vs = true) (e : rvs ρ vs = some VS) : VS = vs := by rw [fO hf] at e; cases e; rfl
def rop (P : Program) (N : Nat) (h : Heap) (l : Sls) (o : Oper) : Option Value := match o.op with
  | .move x => aev N l x
  | .assign x => aev N l x
  | .pick c x y => match aev N l c with
    | some (.bool true) => aev N l x
    | some (.bool false) => aev N l y
    | _ => none
  | .load t x => match aev N l x with
    | some u => ald P h t u
    | none => none
  | .nilCheck x => match aev N l x with
    | some u => aDo u
    | none => none
  | .binOp op t x y _ => match aev N l x with
    | some u => match aev N l y with
      | some v => orE (aEn P op t x y u v) fun _ => aEl P op t u v
      | none => none
    | none => none
  | .unOp op _ x => match aev N l x with
    | some u => f1 u fun _ => xR P (Op.unary op u)
    | none => none
  | .convert s d x => match aev N l x with
    | some u => f1 u fun _ => xR P (convert s d u)
    | none => none
  | .makeInterface t x => match aev N l x with
    | some u => match P.underlying t with
      | some (.interface _) => none
      | some _ => some (.iface t u)
      | none => none
    | none => none
  | .makeFunc (.func f) ⟨xs⟩ ⟨ys⟩ => match GX N l xs with
    | some us => match GX N l ys with
      | some vs => some (.func (.func f) ⟨us⟩ ⟨vs⟩)
      | none => none
    | none => none
  | .slice t x lo hi mx => match aev N l x with
    | some u => match QZ N l lo with
      | some lo => match QZ N l hi with
        | some hi => match QZ N l mx with
          | some mx => orE (YX P t u lo hi mx) fun _ => match aHe P t with
            | true => none
            | false => f1 u fun _ => xR P (Instr.sliceAt t u lo hi mx)
          | none => none
        | none => none
      | none => none
    | none => none
  | .fieldAddr t x i => match aev N l x with
    | some u => OP P t u i
    | none => none
  | .field t x i => match aev N l x with
    | some u => OO P t u i
    | none => none
  | .indexAddr t x i => match aev N l x with
    | some u => match aev N l i with
      | some v => match flat v with
        | true => orE (ON P t u v) fun _ => YY P t u v
        | false => none
      | none => none
    | none => none
  | .index t x i => match aev N l x with
    | some u => match aev N l i with
      | some v => f1 u fun _ => f1 v fun _ => xR P (Instr.index t u v)
      | none => none
    | none => none
  | .lookup t x i ok => match aev N l x with
    | some u => match aev N l i with
      | some v => FE P h t u v ok
      | none => none
    | none => none
  | .extract x i => match aev N l x with
    | some (.tuple ⟨vs⟩) => nth vs i
    | _ => none
  | .build t ⟨ps⟩ => OQ P N l t ps
  | .call { callee := .builtin .len, args := ⟨[x]⟩, argTypes := ⟨ts⟩ } => match aev N l x with
    | some u => orE (aEm P ts u) fun _ => f1 u fun _ => JC P (builtin .len ⟨ts⟩ o.type ((⟨[x]⟩ : Array Operand).map fun | .const _ => true | _ => false) ⟨[u]⟩)
    | none => none
  | .call { callee := .builtin .unsafeSliceData, args := ⟨[x]⟩, argTypes := ⟨ts⟩ } => match aev N l x with
    | some u => orE (OK u) fun _ => f1 u fun _ => JC P (builtin .unsafeSliceData ⟨ts⟩ o.type ((⟨[x]⟩ : Array Operand).map fun | .const _ => true | _ => false) ⟨[u]⟩)
    | none => none
  | .call { callee := .builtin b, args := ⟨xs⟩, argTypes := ts } => match GX N l xs with
    | some us => match gV us with
      | true => JC P (builtin b ts o.type ((⟨xs⟩ : Array Operand).map fun | .const _ => true | _ => false) ⟨us⟩)
      | false => none
    | none => none
  | _ => none
theorem kE {o : Oper} {v : Value} {s : Sem Value} (hx : execOp a.eval o = (do pure (.value (← s)))) (hr : ∃ V, rv ρ v = some V ∧ s.run P w = .ok V w) : Yes P ρ a w o v := by
  obtain ⟨V, h1, h2⟩ := hr
  exact ⟨V, h1, by rw [hx]; simp only [Sem.run_bind, h2, Result.andThen_ok]; rfl⟩
theorem pf {s : Sem Value} {v : Value} (e : xR P s = some v) : ∃ V, rv ρ v = some V ∧ s.run P w = .ok V w := ⟨v, (uJ e).2 ρ, (uJ e).1 w⟩
theorem pR (hs : Sl N ρ l a) (hk : nX ρ h w) {o : Oper} {v : Value} (e : rop P N h l o = some v) : Yes P ρ a w o v := by
  obtain ⟨ds, op, ty, pos, af, gd⟩ := o
  unfold rop at e
  dsimp only at e
  split at e
  · exact ⟨_, aG hs e, rfl⟩
  · exact ⟨_, aG hs e, rfl⟩
  · rename_i c x y
    split at e
    · rename_i hc
      have hc := bU (aG hs hc) rfl
      exact ⟨_, aG hs e, by simp [execOp, hc, asBool]⟩
    · rename_i hc
      have hc := bU (aG hs hc) rfl
      exact ⟨_, aG hs e, by simp [execOp, hc, asBool]⟩
    · cases e
  · rename_i t x
    split at e
    · rename_i u hu
      exact kE rfl (DW hk (aG hs hu) e)
    · cases e
  · rename_i x
    split at e
    · rename_i u hu
      have hu := aG hs hu
      unfold aDo at e
      split at e
      · cases e
        obtain ⟨A, hA⟩ := fM hu
        exact ⟨_, hu, by simp [execOp, hA]⟩
      · cases e
        obtain ⟨X, Y, _, _, hA⟩ := rW hu
        exact ⟨_, hu, by simp [execOp, hA]⟩
      · cases e
    · cases e
  · rename_i op t x y t2
    split at e
    · rename_i u hu
      split at e
      · rename_i v' hv
        rcases mT e with e | e
        · exact OR (aG hs hu) (aG hs hv) e
        · exact OL (aG hs hu) (aG hs hv) e
      · cases e
    · cases e
  · rename_i op t x
    split at e
    · rename_i u hu
      obtain ⟨h1, h2⟩ := lC (aG hs hu) e
      exact kE (s := Op.unary op u) (by simp only [execOp, h1]) (pf h2)
    · cases e
  · rename_i s d x
    split at e
    · rename_i u hu
      obtain ⟨h1, h2⟩ := lC (aG hs hu) e
      exact kE (s := convert s d u) (by simp only [execOp, h1]) (pf h2)
    · cases e
  · rename_i t x
    split at e
    · rename_i u hu
      have hu := aG hs hu
      split at e
      · cases e
      · rename_i de hde hni
        cases e
        refine ⟨.iface t (a.eval x), by simp [rv, hu], ?_⟩
        cases de <;> first | (simp [execOp, Instr.makeInterface, run_underlying hni]; done) | exact (hde _ rfl).elim
      · cases e
    · cases e
  · rename_i f xs ys
    split at e
    · rename_i us hu
      split at e
      · rename_i vs hv
        cases e
        have h1 := jO hs hu
        have h2 := jO hs hv
        exact ⟨.func (.func f) ⟨xs.map a.eval⟩ ⟨ys.map a.eval⟩, by simp [rv, h1, h2], by simp [execOp, Instr.makeFunc]⟩
      · cases e
    · cases e
  · rename_i t x lo hi mx
    split at e
    · rename_i u hu
      split at e
      · rename_i lo' hlo
        split at e
        · rename_i hi' hhi
          split at e
          · rename_i mx' hmx
            have h1 := lG hs hlo
            have h2 := lG hs hhi
            have h3 := lG hs hmx
            rcases mT e with e | e
            · refine kE (s := Instr.sliceAt t (a.eval x) lo' hi' mx') (by simp only [execOp, h1, h2, h3]) (FB (aG hs hu) e)
            · split at e
              · cases e
              · obtain ⟨h4, h5⟩ := lC (aG hs hu) e
                exact kE (s := Instr.sliceAt t u lo' hi' mx') (by simp only [execOp, h1, h2, h3, h4]) (pf h5)
          · cases e
        · cases e
      · cases e
    · cases e
  · rename_i t x i
    split at e
    · rename_i u hu
      exact kE rfl (FH (aG hs hu) e)
    · cases e
  · rename_i t x i
    split at e
    · rename_i u hu
      exact kE rfl (FG (aG hs hu) e)
    · cases e
  · rename_i t x i
    split at e
    · rename_i u hu
      split at e
      · rename_i v' hv
        split at e
        · rename_i hf
          have hi := bU (aG hs hv) hf
          rcases mT e with e | e
          · exact kE (s := Instr.indexAt t (a.eval x) v') (by simp only [execOp, hi]) (FF (aG hs hu) e)
          · exact kE (s := Instr.indexAt t (a.eval x) v') (by simp only [execOp, hi]) (IT (aG hs hu) e)
        · cases e
      · cases e
    · cases e
  · rename_i t x i
    split at e
    · rename_i u hu
      split at e
      · rename_i v' hv
        obtain ⟨h1, h2⟩ := lC (aG hs hu) e
        obtain ⟨h3, h4⟩ := lC (aG hs hv) h2
        exact kE (s := Instr.index t u v') (by simp only [execOp, h1, h3]) (pf h4)
      · cases e
    · cases e
  · rename_i t x i ok
    split at e
    · rename_i u hu
      split at e
      · rename_i v' hv
        exact kE rfl (AB hk (aG hs hu) (aG hs hv) e)
      · cases e
    · cases e
  · rename_i x i
    split at e
    · rename_i vs hu
      obtain ⟨X, hX, hA⟩ := HX (aG hs hu)
      rw [mF] at e
      obtain ⟨V, h1, h2⟩ := nN hX i v e
      exact kE rfl ⟨V, h2, by simp [hA, Instr.extract, h1]⟩
    · cases e
  · exact FI hs e
  · rename_i x ts
    split at e
    · rename_i u hu
      rcases mT e with e | e
      · exact OM (aG hs hu) e
      · obtain ⟨h1, h2⟩ := lC (aG hs hu) e
        obtain ⟨h3, h4⟩ := oT h2
        refine ⟨v, h4 ρ, ?_⟩
        have := h3 w
        generalize a.eval = ev at h1
        simp only [execOp, resolve, invoke, Sem.run_bind, Sem.run_pure, Result.andThen_ok]
        rw [show (⟨[x]⟩ : Array Operand).map ev = ⟨[u]⟩ by simp [← h1]]
        exact this
    · cases e
  · rename_i x ts
    split at e
    · rename_i u hu
      rcases mT e with e | e
      · obtain ⟨V, g1, g2⟩ := FD (P := P) (w := w) (aG hs hu) e ⟨ts⟩ ty
        refine ⟨V, g1, ?_⟩
        generalize a.eval = ev at g2
        simp only [execOp, resolve, invoke, builtin, Sem.run_bind, Sem.run_pure, Result.andThen_ok, List.map_toArray, List.map_cons, List.map_nil, g2]
      · obtain ⟨h1, h2⟩ := lC (aG hs hu) e
        obtain ⟨h3, h4⟩ := oT h2
        refine ⟨v, h4 ρ, ?_⟩
        have := h3 w
        generalize a.eval = ev at h1
        simp only [execOp, resolve, invoke, Sem.run_bind, Sem.run_pure, Result.andThen_ok]
        rw [show (⟨[x]⟩ : Array Operand).map ev = ⟨[u]⟩ by simp [← h1]]
        exact this
    · cases e
  · rename_i b xs ts _ _
    split at e
    · rename_i us hu
      split at e
      · rename_i hf
        have hx := kQ hf (jO hs hu)
        obtain ⟨h3, h4⟩ := oT e
        refine ⟨v, h4 ρ, ?_⟩
        have := h3 w
        generalize a.eval = ev at hx
        simp only [execOp, resolve, invoke, Sem.run_bind, Sem.run_pure, Result.andThen_ok]
        rw [show (⟨xs⟩ : Array Operand).map ev = ⟨us⟩ by simp [← hx]]
        exact this
      · cases e
    · cases e
  · cases e
def eop (P : Program) (N : Nat) (h : Heap) (b0 nx0 nx : Nat) (l : Sls) (o : Oper) : Option Eff := match o.op with
  | .store t x y => match aev N l x with
    | some u => match aev N l y with
      | some v => QD P h nx0 t u v
      | none => none
    | none => none
  | .box t x => match aev N l x with
    | some v => aFh h b0 nx t v
    | none => none
  | .alloc t => QI P h b0 nx t
  | .buildSlice t n ⟨ps⟩ => QG P N h b0 nx l t n ps
  | .makeMap _ none => QE h b0 nx
  | .makeSlice t x y => match aev N l x with
    | some u => match aev N l y with
      | some v => aAv P h b0 nx t u v
      | none => none
    | none => none
  | .insert t m x y => match aev N l m with
    | some u => match aev N l x with
      | some k => match aev N l y with
        | some v => vQ P h nx0 t u k v
        | none => none
      | none => none
    | none => none
  | .mapUpdate t m x y => match aev N l m with
    | some u => match aev N l x with
      | some k => match aev N l y with
        | some v => vQ P h nx0 t u k v
        | none => none
      | none => none
    | none => none
  | .slice t x lo hi none => match aev N l x with
    | some u => match QZ N l lo with
      | some lo => match QZ N l hi with
        | some hi => aFg P h b0 nx t u lo hi
        | none => none
      | none => none
    | none => none
  | .call { callee := .builtin .append, args := ⟨[x, y]⟩, argTypes := ⟨[t, t']⟩ } => match aev N l x with
    | some u => match aev N l y with
      | some v => match Nat.beq t t' with
        | true => GO P h b0 nx0 nx t u v
        | false => aAw P h b0 nx t t' u v
      | none => none
    | none => none
  | .call { callee := .builtin .unsafeString, args := ⟨[x, y]⟩, argTypes := ⟨[pt, _]⟩ } => match aev N l x with
    | some u => match aev N l y with
      | some v => aAt P h nx0 pt u v
      | none => none
    | none => none
  | _ => none
theorem qD {b0 nx' : Nat} (r : Rel w0 ρ h nx w) (hf : jG ρ nx b0 nx') (hs : Sl N ρ l a) {o : Oper} {f : Eff} (e : eop P N h b0 nx nx' l o = some f) : vA P w0 ρ h b0 a w o f := by
  obtain ⟨ds, op, ty, pos, af, gd⟩ := o
  unfold eop at e
  dsimp only at e
  split at e
  · rename_i t x y
    split at e
    · rename_i u hu
      split at e
      · rename_i v hv
        exact GL r (aG hs hu) (aG hs hv) e
      · cases e
    · cases e
  · rename_i t x
    split at e
    · rename_i v hv
      exact QH r hf (aG hs hv) e
    · cases e
  · exact GP r hf e
  · exact GN r hf hs e
  · exact GM r hf e
  · rename_i t x y
    split at e
    · rename_i u hu
      split at e
      · rename_i v hv
        exact LR r hf (aG hs hu) (aG hs hv) e
      · cases e
    · cases e
  · rename_i t m x y
    split at e
    · rename_i u hu
      split at e
      · rename_i k hkk
        split at e
        · rename_i v hv
          exact qP r (.inl rfl) (aG hs hu) (aG hs hkk) (aG hs hv) e
        · cases e
      · cases e
    · cases e
  · rename_i t m x y
    split at e
    · rename_i u hu
      split at e
      · rename_i k hkk
        split at e
        · rename_i v hv
          exact qP r (.inr rfl) (aG hs hu) (aG hs hkk) (aG hs hv) e
        · cases e
      · cases e
    · cases e
  · rename_i t x lo hi
    split at e
    · rename_i u hu
      split at e
      · rename_i lo' hlo
        split at e
        · rename_i hi' hhi
          have h1 := lG hs hlo
          have h2 := lG hs hhi
          obtain ⟨v, V, ρ', rfl, g1, g2, g3, g4, g5⟩ := QF (P := P) r hf (aG hs hu) e
          refine ⟨ρ', V, w, g1, g2, Pr.refl _, g3, g4, ?_⟩
          simp only [execOp, h1, h2, Option.map_none, Sem.run_bind, g5, Result.andThen_ok]
          rfl
        · cases e
      · cases e
    · cases e
  · rename_i x y t t'
    split at e
    · rename_i u hu
      split at e
      · rename_i v hv
        split at e
        · rename_i ht
          have ht := Nat.eq_of_beq_eq_true ht
          subst ht
          exact AK r hf (aG hs hu) (aG hs hv) e
        · exact LS r hf (aG hs hu) (aG hs hv) e
      · cases e
    · cases e
  · rename_i x y pt it
    split at e
    · rename_i u hu
      split at e
      · rename_i v hv
        exact LO r (aG hs hu) (aG hs hv) e
      · cases e
    · cases e
  · cases e
def cop (P : Program) (N : Nat) (l : Sls) (o : Oper) : Option (FuncId × List Value) := match o.op with
  | .call { callee := .value (.func f), args := ⟨xs⟩, .. } => match GX N l xs with
    | some vs => match bW P f with
      | true => some (f, vs)
      | false => none
    | none => none
  | .call { callee := .value q, args := ⟨xs⟩, .. } => match aev N l q with
    | some (.func (.func f) ⟨[]⟩ ⟨cs⟩) => match GX N l xs with
      | some vs => match bW P f with
        | true => some (f, vs ++ cs)
        | false => none
      | none => none
    | _ => none
  | _ => none
theorem DS (hs : Sl N ρ l a) {o : Oper} {f : FuncId} {vs : List Value} (e : cop P N l o = some (f, vs)) : bW P f = true ∧ ∃ VS, rvs ρ vs = some VS ∧ (execOp a.eval o).run P w = .ok (.enter f VS.toArray) w := by
  obtain ⟨ds, op, ty, pos, af, gd⟩ := o
  unfold cop at e
  dsimp only at e
  split at e
  · rename_i g xs ts
    split at e
    · rename_i us hu
      split at e
      · rename_i hc
        cases e
        refine ⟨hc, _, jO hs hu, ?_⟩
        rw [jX hc rfl]
        simp
      · cases e
    · cases e
  · rename_i q xs ts _
    split at e
    · rename_i g cs hq
      split at e
      · rename_i us hu
        split at e
        · rename_i hc
          cases e
          obtain ⟨X, Y, h1, h2, h3⟩ := rW (aG hs hq)
          simp [rvs] at h1
          subst h1
          refine ⟨hc, _, gA (jO hs hu) h2, ?_⟩
          rw [BS hc h3]
          simp
        · cases e
      · cases e
    · cases e
  · cases e
end
end
section
open Go.RowKit
open Go.Vcg (jP bW)
def Ext (n : Nat) (ρ ρ' : Env) : Prop := ∀ c, c < n → ρ' c = ρ c
structure Ev (ρ : Env) (h : Heap) (nx : Nat) (ρ' : Env) (h' : Heap) (nx' : Nat) : Prop where
  ext : Ext nx ρ ρ'
  le : nx ≤ nx'
  pr : Pr h h'
theorem Ev.refl (ρ : Env) (h : Heap) (nx : Nat) : Ev ρ h nx ρ h nx := ⟨fun _ _ => rfl, Nat.le_refl _, Pr.refl _⟩
theorem Ev.trans {ρ ρ' ρ'' : Env} {h h' h'' : Heap} {nx nx' nx'' : Nat} (p : Ev ρ h nx ρ' h' nx') (q : Ev ρ' h' nx' ρ'' h'' nx'') : Ev ρ h nx ρ'' h'' nx'' :=
  ⟨fun c hc => (q.ext c (Nat.lt_of_lt_of_le hc p.le)).trans (p.ext c hc), Nat.le_trans p.le q.le, p.pr.trans q.pr⟩
section
variable {P : Program} {qs : List FuncId} {N : Nat} {w0 : World} {ρ ρ' : Env} {h h' : Heap} {l : Sls} {a : Act} {w w' : World} {nx nx' : Nat}
theorem Ev.ele (r : Rel w0 ρ h nx w) (e : Ev ρ h nx ρ' h' nx') : ELe ρ ρ' := fun b x hb => by
  rcases Nat.lt_or_ge b nx with h1 | h1
  · rw [e.ext b h1]; exact hb
  · rw [r.new b h1] at hb; cases hb
def rO (P : Program) (f : FuncId) : Prop := ∀ (args : Array Value) (w : World), CallsD P f args .returning w fun e u' w' => (∃ v, e = .returned v) ∧ u' = .returning ∧ Below w.heap.size w w'
def RA (P : Program) (qs : List FuncId) (d : Deferred) : Prop := ∃ f cap, f ∈ qs ∧ d.target = .fn (.func f) cap ∧ bW P f = true ∧ rO P f
structure R (P : Program) (qs : List FuncId) (w0 : World) (N : Nat) (ρ : Env) (h : Heap) (nx : Nat) (l : Sls) (a : Act) (w : World) : Prop where
  rel : Rel w0 ρ h nx w
  sl : Sl N ρ l a
  df : ∀ d ∈ a.defers, RA P qs d
def tN (l : Sls) (d : Option Nat) (v : Value) : Sls := match d with
  | some d => sset l d v
  | none => l
theorem TR.put {t : Array Value} (ht : TR ρ l t) {v V : Value} (hv : rv ρ v = some V) (d : Nat) : TR ρ (sset l d v) (t.setIfInBounds d V) := by
  obtain ⟨ln, lt⟩ := l
  have old : ∀ i u, i ≠ d → wL ⟨ln, lt⟩ i = some u → isHole u = false → ∃ V', (t.setIfInBounds d V)[i]? = some V' ∧ rv ρ u = some V' := fun i u hi hu hh => by
    obtain ⟨V', h1, h2⟩ := ht.2 i u hu hh
    exact ⟨V', by rw [Array.getElem?_setIfInBounds_ne (Ne.symm hi)]; exact h1, h2⟩
  by_cases hn : Nat.blt d ln = true
  · by_cases hs : Nat.blt d 512 = true
    · have e : sset ⟨ln, lt⟩ d v = ⟨ln, tG 9 lt d (some v)⟩ := by simp [sset, hn, hs]
      rw [e]
      refine ⟨by simpa using ht.1, fun i u hu hh => ?_⟩
      by_cases hi : i = d
      · subst hi
        have : u = v := by
          unfold wL at hu
          rw [hs] at hu
          simp only [jQ] at hu
          cases hu; rfl
        subst this
        exact ⟨V, by rw [Array.getElem?_setIfInBounds_self_of_lt (by rw [ht.1]; exact gR hn)], hv⟩
      · refine old i u hi ?_ hh
        unfold wL at hu ⊢
        split at hu
        · rename_i hi5
          rw [iR 9 lt d i (some v) (gR hs) (gR hi5) hi] at hu
          exact hu
        · cases hu
    · have e : sset ⟨ln, lt⟩ d v = ⟨ln, lt⟩ := by simp [sset, hn, hs]
      have hs' : ¬ d < 512 := fun h => hs (by rw [Nat.blt, Nat.ble_eq]; exact h)
      rw [e]
      refine ⟨by simpa using ht.1, fun i u hu hh => old i u (fun hi => ?_) hu hh⟩
      subst hi
      unfold wL at hu
      split at hu
      · rename_i h5; exact hs (h5)
      · cases hu
  · have e : sset ⟨ln, lt⟩ d v = ⟨ln, lt⟩ := by simp [sset, hn]
    rw [e]
    refine ⟨by simpa using ht.1, fun i u hu hh => old i u (fun hi => ?_) hu hh⟩
    subst hi
    obtain ⟨V', h1, _⟩ := ht.2 i u hu hh
    have := (Array.getElem?_eq_some_iff.1 h1).1
    rw [ht.1] at this
    exact hn (by rw [Nat.blt, Nat.ble_eq]; exact this)
theorem R.put (r : R P qs w0 N ρ h nx l a w) {v V : Value} (hv : rv ρ v = some V) (d : Option Nat) : R P qs w0 N ρ h nx (tN l d v) (a.put d V) w := by
  cases d with
  | none => exact r
  | some d => exact ⟨r.rel, ⟨r.sl.glob, r.sl.tmps.put hv d⟩, r.df⟩
theorem R.go (r : R P qs w0 N ρ h nx l a w) (hle : ELe ρ ρ') (hr : Rel w0 ρ' h' nx' w') : R P qs w0 N ρ' h' nx' l a w' := ⟨hr, ⟨r.sl.glob.mono hle, r.sl.tmps.mono hle⟩, r.df⟩
def oH : Value := .tuple ⟨[]⟩
theorem mO : rv ρ oH = some undef := by simp [oH, undef, rv, rvs]
def yU (ops : List Oper) (l : Sls) (o : Oper) : Option Bool := match o.guard with
  | none => some true
  | some (g, want) => match nth ops g with
    | some o' => match o'.dst with
      | some t => match wL l t with
        | some (.bool b) => some (b == want)
        | some (.tuple ⟨[]⟩) => some false
        | _ => none
      | none => none
    | none => none
theorem gN (hs : Sl N ρ l a) {ops : List Oper} {o : Oper} {b : Bool} (e : yU ops l o = some b) : Region.wanted o (yielded ops.toArray a.tmps) = b := by
  unfold yU at e
  unfold Region.wanted
  split at e
  · rename_i hg; cases e; simp [hg]
  · rename_i g want hg
    split at e
    · rename_i o' ho
      rw [mF] at ho
      split at e
      · rename_i t ht
        have hy : (((ops.toArray[g]?).bind (·.dst)) : Option Nat) = some t := by simp [ho, ht]
        split at e
        · rename_i b' hb
          cases e
          obtain ⟨V, h1, h2⟩ := hs.tmps.2 t _ hb rfl
          cases bU h2 rfl
          simp only [hg, yielded, hy, Option.bind_some, h1]
          cases b' <;> cases want <;> rfl
        · rename_i hb
          cases e
          obtain ⟨V, h1, h2⟩ := hs.tmps.2 t _ hb rfl
          have : V = .tuple ⟨[]⟩ := eP rfl h2
          subst this
          simp only [hg, yielded, hy, Option.bind_some, h1]
          rfl
        · cases e
      · cases e
    · cases e
abbrev gJ := FuncId → List Value → Heap → Nat → Option (Value × Heap × Nat)
def iH (P : Program) (w0 : World) (N : Nat) (call : gJ) : Prop :=
  ∀ ρ h nx f vs VS w v h' nx', call f vs h nx = some (v, h', nx') → Rel w0 ρ h nx w → RC N ρ → rvs ρ vs = some VS →
    ∀ R' : Ending → World → Prop, (∀ ρ' V w', Ev ρ h nx ρ' h' nx' → rv ρ' v = some V → Rel w0 ρ' h' nx' w' → R' (.returned V) w') → Calls P f VS.toArray w R'
theorem Rel.fresh (r : Rel w0 ρ h nx w) (hn : nx < 1048576) : jG ρ nx nx (nx + 1) := ⟨r.new nx (Nat.le_refl _), Nat.le_succ _, Nat.lt_succ_self _, hn⟩
theorem aGw {b0 : Nat} (hb : nx ≤ b0) (ho : ∀ c, c ≠ b0 → ρ' c = ρ c) (hn : nx ≤ nx') (hp : Pr h h') : Ev ρ h nx ρ' h' nx' :=
  ⟨fun c hc => ho c (by omega), hn, hp⟩
def dop (P : Program) (N : Nat) (qs : List FuncId) (l : Sls) (o : Oper) : Bool := match o.op with
  | .defer { callee := .value q, args := ⟨[]⟩, .. } => match aev N l q with
    | some (.func (.func f) ⟨[]⟩ _) => match qs.any (Nat.beq f) with
      | true => bW P f
      | false => false
    | _ => false
  | _ => false
theorem WW (hq : ∀ f ∈ qs, rO P f) (hs : Sl N ρ l a) {o : Oper} (e : dop P N qs l o = true) : ∃ d, RA P qs d ∧ (execOp a.eval o).run P w = .ok (.defer d) w := by
  obtain ⟨ds, op, ty, pos, af, gd⟩ := o
  unfold dop at e
  dsimp only at e
  split at e
  · rename_i q ts
    split at e
    · rename_i f cs hf
      split at e
      · rename_i hany
        obtain ⟨g, hg, hfg⟩ := List.any_eq_true.1 hany
        have hfg := Nat.eq_of_beq_eq_true hfg
        subst hfg
        obtain ⟨X, Y, h1, h2, h3⟩ := rW (aG hs hf)
        simp [rvs] at h1
        subst h1
        refine ⟨{ target := .fn (.func f) ⟨Y⟩, args := #[] }, ⟨f, ⟨Y⟩, hg, rfl, e, hq f hg⟩, ?_⟩
        generalize a.eval = ev at h3
        simp [execOp, resolve, h3, Deferred.ofValue]
      · cases e
    · cases e
  · cases e
def mA (P : Program) (N : Nat) (qs : List FuncId) (call : gJ) (ops : List Oper) : List Oper → Heap → Nat → Sls → Option (Heap × Nat × Sls)
  | [], h, nx, l => some (h, nx, l)
  | o :: r, h, nx, l => match yU ops l o with
    | some true => match rop P N h l o with
      | some v => mA P N qs call ops r h nx (tN l o.dst v)
      | none => match cop P N l o with
        | some (f, vs) => match call f vs h nx with
          | some (v, h', nx') => mA P N qs call ops r h' nx' (tN l o.dst v)
          | none => none
        | none => match Nat.blt nx 1048576 with
          | true => match eop P N h nx nx (nx + 1) l o with
            | some (.val v h' nx') => match Nat.ble nx nx' with
              | true => mA P N qs call ops r h' nx' (tN l o.dst v)
              | false => none
            | some (.skip h' nx') => match Nat.ble nx nx' with
              | true => mA P N qs call ops r h' nx' (tN l o.dst oH)
              | false => none
            | none => match dop P N qs l o with
              | true => mA P N qs call ops r h nx (tN l o.dst oH)
              | false => none
          | false => none
    | some false => mA P N qs call ops r h nx (tN l o.dst oH)
    | none => none
theorem fJ {call : gJ} (hc : iH P w0 N call) (hq : ∀ f ∈ qs, rO P f) {ops : List Oper} {h' : Heap} {nx' : Nat} {l' : Sls} : ∀ {r : List Oper} {h : Heap} {nx : Nat} {l : Sls} {ρ : Env} {a : Act} {w : World} {Q : Exit → Act → World → Prop},
    mA P N qs call ops r h nx l = some (h', nx', l') → R P qs w0 N ρ h nx l a w → (∀ ρ' a' w', Ev ρ h nx ρ' h' nx' → R P qs w0 N ρ' h' nx' l' a' w' → Q .normal a' w') → wpList P ops.toArray Q r a w
  | [], h, nx, l, ρ, a, w, Q, e, r, hQ => by
    unfold mA at e
    cases e
    exact hQ ρ a w (Ev.refl _ _ _) r
  | o :: rest, h, nx, l, ρ, a, w, Q, e, r, hQ => by
    unfold mA at e
    unfold wpList
    split at e
    · rename_i hg
      rw [if_pos (gN r.sl hg)]
      split at e
      · rename_i v hv
        obtain ⟨V, h1, h2⟩ := pR r.sl r.rel.ok hv
        refine .inl ?_
        unfold Oper.wp
        rw [h2, Oper.upon_value]
        exact fJ hc hq e (r.put h1 o.dst) hQ
      · split at e
        · rename_i f vs hf
          obtain ⟨hcl, VS, h1, h2⟩ := DS (w := w) r.sl hf
          split at e
          · rename_i v h1' nx1 hcall
            refine .inl ?_
            unfold Oper.wp
            rw [h2, Oper.upon_enter]
            refine hc ρ h nx f vs VS w v h1' nx1 hcall r.rel r.sl.glob h1 _ fun ρ1 V w1 hev hv hr => ?_
            show wpList P ops.toArray Q rest (a.put o.dst V) w1
            exact fJ hc hq e ((r.go (hev.ele r.rel) hr).put hv o.dst) fun ρ' a' w' hev' hR => hQ ρ' a' w' (hev.trans hev') hR
          · cases e
        · split at e
          · rename_i hn
            have hn := gR hn
            split at e
            · rename_i v h1' nx1 he
              split at e
              · rename_i hle
                obtain ⟨ρ1, V, w1, g1, g2, g3, g4, g5, g6⟩ := qD r.rel (r.rel.fresh hn) r.sl he
                have hev : Ev ρ h nx ρ1 h1' nx1 := aGw (Nat.le_refl _) g2 (eC hle) g3
                refine .inl ?_
                unfold Oper.wp
                rw [g6, Oper.upon_value]
                exact fJ hc hq e ((r.go g1 g5).put g4 o.dst) fun ρ' a' w' hev' hR => hQ ρ' a' w' (hev.trans hev') hR
              · cases e
            · rename_i h1' nx1 he
              split at e
              · rename_i hle
                obtain ⟨w1, g3, g5, g6⟩ := qD r.rel (r.rel.fresh hn) r.sl he
                have hev : Ev ρ h nx ρ h1' nx1 := ⟨fun _ _ => rfl, eC hle, g3⟩
                refine .inl ?_
                unfold Oper.wp
                rw [g6, Oper.upon_skip]
                exact fJ hc hq e ((r.go (ELe.refl _) g5).put mO o.dst) fun ρ' a' w' hev' hR => hQ ρ' a' w' (hev.trans hev') hR
              · cases e
            · split at e
              · rename_i hd
                obtain ⟨d, hd1, hd2⟩ := WW (w := w) hq r.sl hd
                refine .inl ?_
                unfold Oper.wp
                rw [hd2, Oper.upon_defer]
                have r' : R P qs w0 N ρ h nx l { a with defers := d :: a.defers } w := ⟨r.rel, ⟨r.sl.glob, r.sl.tmps⟩, fun x hx => by
                  rcases List.mem_cons.1 hx with rfl | hx
                  · exact hd1
                  · exact r.df x hx⟩
                exact fJ hc hq e (r'.put mO o.dst) hQ
              · cases e
          · cases e
    · rename_i hg
      rw [if_neg (by rw [gN r.sl hg]; simp)]
      exact fJ hc hq e (r.put mO o.dst) hQ
    · cases e
end
end
end Go.Rex
namespace Go.Proofs.YtoclmkdfcafhfaaGreatDoor
end Go.Proofs.YtoclmkdfcafhfaaGreatDoor
