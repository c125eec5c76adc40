/- A machine for closed runs: any operation. No statement of the seat is proved here. -/
import Derived.Test.YtllilkcocfalmaaGreatDoorRo
set_option maxRecDepth 20000
namespace Go.Rex
open Go.RowKit Go.MapKept
open Go.Vcg (Keep beq_ne aggOf sizeT zeroT bytesT add_lit callable run_call run_callv)
attribute [local irreducible] capU
section
variable {P : Program} {N : Nat} {w0 : World} {ρ : Env} {h : Heap} {l : Sls} {a : Act} {w : World} {nx : Nat}

def qnilc (u : Value) : Option Value := match u with
  | .pointer (some ⟨b, o, none⟩) => some (.pointer (some ⟨b, o, none⟩))
  | .func (.func f) p q => some (.func (.func f) p q)
  | _ => none
def aevO (N : Nat) (l : Sls) : Option Operand → Option (Option Value)
  | none => some none
  | some x => match aev N l x with
    | some v => match flat v with
      | true => some (some v)
      | false => none
    | none => none
theorem aevO_sound (hs : Sl N ρ l a) {x : Option Operand} {v : Option Value} (e : aevO N l x = some v) : x.map a.eval = v := by
  unfold aevO at e
  split at e
  · cases e; rfl
  · split at e
    · rename_i u hu
      split at e
      · rename_i hf
        cases e
        have := rv_nil (aev_sound hs hu) hf
        simp [this]
      · cases e
    · cases e
def isSl (P : Program) (t : TypeId) : Bool := match P.underlying t with
  | some (.slice _) => true
  | _ => false
def orE (x : Option Value) (y : Unit → Option Value) : Option Value := match x with
  | some v => some v
  | none => y ()
theorem orE_sound {x : Option Value} {y : Unit → Option Value} {v : Value} (e : orE x y = some v) : x = some v ∨ y () = some v := by
  unfold orE at e
  split at e
  · exact .inl e
  · exact .inr e
def flatsB (vs : List Value) : Bool := flats vs
/-- a builtin at values that bear no block -/
def pnext (P : Program) (s : Sem Next) : Option Value := match psem P s with
  | some (.value r) => match flat2 r with
    | true => some r
    | false => none
  | _ => none
theorem pnext_sound {s : Sem Next} {v : Value} (e : pnext P s = some v) : (∀ w : World, s.run P w = .ok (.value v) w) ∧ ∀ ρ, rv ρ v = some v := by
  unfold pnext at e
  split at e
  · rename_i r hr
    split at e
    · rename_i hf; cases e; exact ⟨psem_run hr, fun ρ => rv_flat2 hf⟩
    · cases e
  · cases e
theorem rvs_flats_eq {vs VS : List Value} (hf : flats vs = true) (e : rvs ρ vs = some VS) : VS = vs := by rw [rvs_flats hf] at e; cases e; rfl

/-- an operation that leaves the world alone -/
def rop (P : Program) (N : Nat) (h : Heap) (l : Sls) (o : Oper) : Option Value := match o.op with
  | .move x => aev N l x
  | .assign x => aev N l x
  | .pick c x y => match aev N l c with
    | some (.bool true) => aev N l x
    | some (.bool false) => aev N l y
    | _ => none
  | .load t x => match aev N l x with
    | some u => ald P h t u
    | none => none
  | .nilCheck x => match aev N l x with
    | some u => qnilc u
    | none => none
  | .binOp op t x y _ => match aev N l x with
    | some u => match aev N l y with
      | some v => orE (qbin P op t x y u v) fun _ => qnil P op t u v
      | none => none
    | none => none
  | .unOp op _ x => match aev N l x with
    | some u => f1 u fun _ => pflat P (Op.unary op u)
    | none => none
  | .convert s d x => match aev N l x with
    | some u => f1 u fun _ => pflat P (convert s d u)
    | none => none
  | .makeInterface t x => match aev N l x with
    | some u => match P.underlying t with
      | some (.interface _) => none
      | some _ => some (.iface t u)
      | none => none
    | none => none
  | .makeFunc (.func f) ⟨xs⟩ ⟨ys⟩ => match aevs N l xs with
    | some us => match aevs N l ys with
      | some vs => some (.func (.func f) ⟨us⟩ ⟨vs⟩)
      | none => none
    | none => none
  | .slice t x lo hi mx => match aev N l x with
    | some u => match aevO N l lo with
      | some lo => match aevO N l hi with
        | some hi => match aevO N l mx with
          | some mx => orE (qslice P t u lo hi mx) fun _ => match isSl P t with
            | true => none
            | false => f1 u fun _ => pflat P (Instr.sliceAt t u lo hi mx)
          | none => none
        | none => none
      | none => none
    | none => none
  | .fieldAddr t x i => match aev N l x with
    | some u => qfaddr P t u i
    | none => none
  | .field t x i => match aev N l x with
    | some u => qfield P t u i
    | none => none
  | .indexAddr t x i => match aev N l x with
    | some u => match aev N l i with
      | some v => match flat v with
        | true => orE (qiaddr P t u v) fun _ => qiarr P t u v
        | false => none
      | none => none
    | none => none
  | .index t x i => match aev N l x with
    | some u => match aev N l i with
      | some v => f1 u fun _ => f1 v fun _ => pflat P (Instr.index t u v)
      | none => none
    | none => none
  | .lookup t x i ok => match aev N l x with
    | some u => match aev N l i with
      | some v => qlookup P h t u v ok
      | none => none
    | none => none
  | .extract x i => match aev N l x with
    | some (.tuple ⟨vs⟩) => nth vs i
    | _ => none
  | .build t ⟨ps⟩ => qbuild P N l t ps
  | .call { callee := .builtin .len, args := ⟨[x]⟩, argTypes := ⟨ts⟩ } => match aev N l x with
    | some u => orE (qlen P ts u) fun _ => f1 u fun _ => pnext P (builtin .len ⟨ts⟩ o.type ((⟨[x]⟩ : Array Operand).map fun | .const _ => true | _ => false) ⟨[u]⟩)
    | none => none
  | .call { callee := .builtin .unsafeSliceData, args := ⟨[x]⟩, argTypes := ⟨ts⟩ } => match aev N l x with
    | some u => orE (qsdata u) fun _ => f1 u fun _ => pnext P (builtin .unsafeSliceData ⟨ts⟩ o.type ((⟨[x]⟩ : Array Operand).map fun | .const _ => true | _ => false) ⟨[u]⟩)
    | none => none
  | .call { callee := .builtin b, args := ⟨xs⟩, argTypes := ts } => match aevs N l xs with
    | some us => match flats us with
      | true => pnext P (builtin b ts o.type ((⟨xs⟩ : Array Operand).map fun | .const _ => true | _ => false) ⟨us⟩)
      | false => none
    | none => none
  | _ => none
theorem yes_of {o : Oper} {v : Value} {s : Sem Value} (hx : execOp a.eval o = (do pure (.value (← s)))) (hr : ∃ V, rv ρ v = some V ∧ s.run P w = .ok V w) : Yes P ρ a w o v := by
  obtain ⟨V, h1, h2⟩ := hr
  exact ⟨V, h1, by rw [hx]; simp only [Sem.run_bind, h2, Result.andThen_ok]; rfl⟩
theorem pf {s : Sem Value} {v : Value} (e : pflat P s = some v) : ∃ V, rv ρ v = some V ∧ s.run P w = .ok V w := ⟨v, (pflat_sound e).2 ρ, (pflat_sound e).1 w⟩
theorem rop_sound (hs : Sl N ρ l a) (hk : HeapOk ρ h w) {o : Oper} {v : Value} (e : rop P N h l o = some v) : Yes P ρ a w o v := by
  obtain ⟨ds, op, ty, pos, af, gd⟩ := o
  unfold rop at e
  dsimp only at e
  split at e
  · exact ⟨_, aev_sound hs e, rfl⟩
  · exact ⟨_, aev_sound hs e, rfl⟩
  · rename_i c x y
    split at e
    · rename_i hc
      have hc := rv_nil (aev_sound hs hc) rfl
      exact ⟨_, aev_sound hs e, by simp [execOp, hc, asBool]⟩
    · rename_i hc
      have hc := rv_nil (aev_sound hs hc) rfl
      exact ⟨_, aev_sound hs e, by simp [execOp, hc, asBool]⟩
    · cases e
  · rename_i t x
    split at e
    · rename_i u hu
      exact yes_of rfl (ald_sound hk (aev_sound hs hu) e)
    · cases e
  · rename_i x
    split at e
    · rename_i u hu
      have hu := aev_sound hs hu
      unfold qnilc at e
      split at e
      · cases e
        obtain ⟨A, hA⟩ := rv_pointer_some hu
        exact ⟨_, hu, by simp [execOp, hA]⟩
      · cases e
        obtain ⟨X, Y, _, _, hA⟩ := rv_func hu
        exact ⟨_, hu, by simp [execOp, hA]⟩
      · cases e
    · cases e
  · rename_i op t x y t2
    split at e
    · rename_i u hu
      split at e
      · rename_i v' hv
        rcases orE_sound e with e | e
        · exact qbin_sound (aev_sound hs hu) (aev_sound hs hv) e
        · exact qnil_sound (aev_sound hs hu) (aev_sound hs hv) e
      · cases e
    · cases e
  · rename_i op t x
    split at e
    · rename_i u hu
      obtain ⟨h1, h2⟩ := f1_sound (aev_sound hs hu) e
      exact yes_of (s := Op.unary op u) (by simp only [execOp, h1]) (pf h2)
    · cases e
  · rename_i s d x
    split at e
    · rename_i u hu
      obtain ⟨h1, h2⟩ := f1_sound (aev_sound hs hu) e
      exact yes_of (s := convert s d u) (by simp only [execOp, h1]) (pf h2)
    · cases e
  · rename_i t x
    split at e
    · rename_i u hu
      have hu := aev_sound hs hu
      split at e
      · cases e
      · rename_i de hde hni
        cases e
        refine ⟨.iface t (a.eval x), by simp [rv, hu], ?_⟩
        cases de <;> first | (simp [execOp, Instr.makeInterface, run_underlying hni]; done) | exact (hde _ hni).elim | exact (hde _ rfl).elim | simp_all
      · cases e
    · cases e
  · rename_i f xs ys
    split at e
    · rename_i us hu
      split at e
      · rename_i vs hv
        cases e
        have h1 := aevs_sound hs hu
        have h2 := aevs_sound hs hv
        exact ⟨.func (.func f) ⟨xs.map a.eval⟩ ⟨ys.map a.eval⟩, by simp [rv, h1, h2], by simp [execOp, Instr.makeFunc]⟩
      · cases e
    · cases e
  · rename_i t x lo hi mx
    split at e
    · rename_i u hu
      split at e
      · rename_i lo' hlo
        split at e
        · rename_i hi' hhi
          split at e
          · rename_i mx' hmx
            have h1 := aevO_sound hs hlo
            have h2 := aevO_sound hs hhi
            have h3 := aevO_sound hs hmx
            rcases orE_sound e with e | e
            · refine yes_of (s := Instr.sliceAt t (a.eval x) lo' hi' mx') (by simp only [execOp, h1, h2, h3]) (qslice_sound (aev_sound hs hu) e)
            · split at e
              · cases e
              · obtain ⟨h4, h5⟩ := f1_sound (aev_sound hs hu) e
                exact yes_of (s := Instr.sliceAt t u lo' hi' mx') (by simp only [execOp, h1, h2, h3, h4]) (pf h5)
          · cases e
        · cases e
      · cases e
    · cases e
  · rename_i t x i
    split at e
    · rename_i u hu
      exact yes_of rfl (qfaddr_sound (aev_sound hs hu) e)
    · cases e
  · rename_i t x i
    split at e
    · rename_i u hu
      exact yes_of rfl (qfield_sound (aev_sound hs hu) e)
    · cases e
  · rename_i t x i
    split at e
    · rename_i u hu
      split at e
      · rename_i v' hv
        split at e
        · rename_i hf
          have hi := rv_nil (aev_sound hs hv) hf
          rcases orE_sound e with e | e
          · exact yes_of (s := Instr.indexAt t (a.eval x) v') (by simp only [execOp, hi]) (qiaddr_sound (aev_sound hs hu) e)
          · exact yes_of (s := Instr.indexAt t (a.eval x) v') (by simp only [execOp, hi]) (qiarr_sound (aev_sound hs hu) e)
        · cases e
      · cases e
    · cases e
  · rename_i t x i
    split at e
    · rename_i u hu
      split at e
      · rename_i v' hv
        obtain ⟨h1, h2⟩ := f1_sound (aev_sound hs hu) e
        obtain ⟨h3, h4⟩ := f1_sound (aev_sound hs hv) h2
        exact yes_of (s := Instr.index t u v') (by simp only [execOp, h1, h3]) (pf h4)
      · cases e
    · cases e
  · rename_i t x i ok
    split at e
    · rename_i u hu
      split at e
      · rename_i v' hv
        exact yes_of rfl (qlookup_sound hk (aev_sound hs hu) (aev_sound hs hv) e)
      · cases e
    · cases e
  · rename_i x i
    split at e
    · rename_i vs hu
      obtain ⟨X, hX, hA⟩ := rv_tuple (aev_sound hs hu)
      rw [nth_eq] at e
      obtain ⟨V, h1, h2⟩ := rvs_get hX i v e
      exact yes_of rfl ⟨V, h2, by simp [hA, Instr.extract, h1]⟩
    · cases e
  · exact qbuild_sound hs e
  · rename_i x ts
    split at e
    · rename_i u hu
      rcases orE_sound e with e | e
      · exact qlen_sound (aev_sound hs hu) e
      · obtain ⟨h1, h2⟩ := f1_sound (aev_sound hs hu) e
        obtain ⟨h3, h4⟩ := pnext_sound h2
        refine ⟨v, h4 ρ, ?_⟩
        have := h3 w
        generalize a.eval = ev at h1
        simp only [execOp, resolve, invoke, Sem.run_bind, Sem.run_pure, Result.andThen_ok]
        rw [show (⟨[x]⟩ : Array Operand).map ev = ⟨[u]⟩ by simp [← h1]]
        exact this
    · cases e
  · rename_i x ts
    split at e
    · rename_i u hu
      rcases orE_sound e with e | e
      · obtain ⟨V, g1, g2⟩ := qsdata_sound (P := P) (w := w) (aev_sound hs hu) e ⟨ts⟩ ty
        refine ⟨V, g1, ?_⟩
        generalize a.eval = ev at g2
        simp only [execOp, resolve, invoke, builtin, Sem.run_bind, Sem.run_pure, Result.andThen_ok, List.map_toArray, List.map_cons, List.map_nil, g2]
      · obtain ⟨h1, h2⟩ := f1_sound (aev_sound hs hu) e
        obtain ⟨h3, h4⟩ := pnext_sound h2
        refine ⟨v, h4 ρ, ?_⟩
        have := h3 w
        generalize a.eval = ev at h1
        simp only [execOp, resolve, invoke, Sem.run_bind, Sem.run_pure, Result.andThen_ok]
        rw [show (⟨[x]⟩ : Array Operand).map ev = ⟨[u]⟩ by simp [← h1]]
        exact this
    · cases e
  · rename_i b xs ts _ _
    split at e
    · rename_i us hu
      split at e
      · rename_i hf
        have hx := rvs_flats_eq hf (aevs_sound hs hu)
        obtain ⟨h3, h4⟩ := pnext_sound e
        refine ⟨v, h4 ρ, ?_⟩
        have := h3 w
        generalize a.eval = ev at hx
        simp only [execOp, resolve, invoke, Sem.run_bind, Sem.run_pure, Result.andThen_ok]
        rw [show (⟨xs⟩ : Array Operand).map ev = ⟨us⟩ by simp [← hx]]
        exact this
      · cases e
    · cases e
  · cases e

/-- an operation that changes the world -/
def eop (P : Program) (N : Nat) (h : Heap) (b0 nx0 nx : Nat) (l : Sls) (o : Oper) : Option Eff := match o.op with
  | .store t x y => match aev N l x with
    | some u => match aev N l y with
      | some v => estore P h nx0 t u v
      | none => none
    | none => none
  | .box t x => match aev N l x with
    | some v => ebox h b0 nx t v
    | none => none
  | .alloc t => ealloc P h b0 nx t
  | .buildSlice t n ⟨ps⟩ => ebuild P N h b0 nx l t n ps
  | .makeMap _ none => emkmap h b0 nx
  | .makeSlice t x y => match aev N l x with
    | some u => match aev N l y with
      | some v => emake P h b0 nx t u v
      | none => none
    | none => none
  | .insert t m x y => match aev N l m with
    | some u => match aev N l x with
      | some k => match aev N l y with
        | some v => emapset P h nx0 t u k v
        | none => none
      | none => none
    | none => none
  | .mapUpdate t m x y => match aev N l m with
    | some u => match aev N l x with
      | some k => match aev N l y with
        | some v => emapset P h nx0 t u k v
        | none => none
      | none => none
    | none => none
  | .slice t x lo hi none => match aev N l x with
    | some u => match aevO N l lo with
      | some lo => match aevO N l hi with
        | some hi => eend P h b0 nx t u lo hi
        | none => none
      | none => none
    | none => none
  | .call { callee := .builtin .append, args := ⟨[x, y]⟩, argTypes := ⟨[t, t']⟩ } => match aev N l x with
    | some u => match aev N l y with
      | some v => match Nat.beq t t' with
        | true => eappend P h b0 nx0 nx t u v
        | false => eappS P h b0 nx t t' u v
      | none => none
    | none => none
  | .call { callee := .builtin .unsafeString, args := ⟨[x, y]⟩, argTypes := ⟨[pt, _]⟩ } => match aev N l x with
    | some u => match aev N l y with
      | some v => eustr P h nx0 pt u v
      | none => none
    | none => none
  | _ => none
theorem eop_sound {b0 nx' : Nat} (r : Rel w0 ρ h nx w) (hf : Fresh ρ nx b0 nx') (hs : Sl N ρ l a) {o : Oper} {f : Eff} (e : eop P N h b0 nx nx' l o = some f) : Does P w0 ρ h b0 a w o f := by
  obtain ⟨ds, op, ty, pos, af, gd⟩ := o
  unfold eop at e
  dsimp only at e
  split at e
  · rename_i t x y
    split at e
    · rename_i u hu
      split at e
      · rename_i v hv
        exact estore_sound r (aev_sound hs hu) (aev_sound hs hv) e
      · cases e
    · cases e
  · rename_i t x
    split at e
    · rename_i v hv
      exact ebox_sound r hf (aev_sound hs hv) e
    · cases e
  · exact ealloc_sound r hf e
  · exact ebuild_sound r hf hs e
  · exact emkmap_sound r hf e
  · rename_i t x y
    split at e
    · rename_i u hu
      split at e
      · rename_i v hv
        exact emake_sound r hf (aev_sound hs hu) (aev_sound hs hv) e
      · cases e
    · cases e
  · rename_i t m x y
    split at e
    · rename_i u hu
      split at e
      · rename_i k hkk
        split at e
        · rename_i v hv
          exact emapset_sound r (.inl rfl) (aev_sound hs hu) (aev_sound hs hkk) (aev_sound hs hv) e
        · cases e
      · cases e
    · cases e
  · rename_i t m x y
    split at e
    · rename_i u hu
      split at e
      · rename_i k hkk
        split at e
        · rename_i v hv
          exact emapset_sound r (.inr rfl) (aev_sound hs hu) (aev_sound hs hkk) (aev_sound hs hv) e
        · cases e
      · cases e
    · cases e
  · rename_i t x lo hi
    split at e
    · rename_i u hu
      split at e
      · rename_i lo' hlo
        split at e
        · rename_i hi' hhi
          have h1 := aevO_sound hs hlo
          have h2 := aevO_sound hs hhi
          obtain ⟨v, V, ρ', rfl, g1, g2, g3, g4, g5⟩ := eend_sound (P := P) r hf (aev_sound hs hu) e
          refine ⟨ρ', V, w, g1, g2, Pr.refl _, g3, g4, ?_⟩
          simp only [execOp, h1, h2, Option.map_none, Sem.run_bind, g5, Result.andThen_ok]
          rfl
        · cases e
      · cases e
    · cases e
  · rename_i x y t t'
    split at e
    · rename_i u hu
      split at e
      · rename_i v hv
        split at e
        · rename_i ht
          have ht := Nat.eq_of_beq_eq_true ht
          subst ht
          exact eappend_sound r hf (aev_sound hs hu) (aev_sound hs hv) e
        · exact eappS_sound r hf (aev_sound hs hu) (aev_sound hs hv) e
      · cases e
    · cases e
  · rename_i x y pt it
    split at e
    · rename_i u hu
      split at e
      · rename_i v hv
        exact eustr_sound r (aev_sound hs hu) (aev_sound hs hv) e
      · cases e
    · cases e
  · cases e

/-- a call -/
def cop (P : Program) (N : Nat) (l : Sls) (o : Oper) : Option (FuncId × List Value) := match o.op with
  | .call { callee := .value (.func f), args := ⟨xs⟩, .. } => match aevs N l xs with
    | some vs => match callable P f with
      | true => some (f, vs)
      | false => none
    | none => none
  | .call { callee := .value q, args := ⟨xs⟩, .. } => match aev N l q with
    | some (.func (.func f) ⟨[]⟩ ⟨cs⟩) => match aevs N l xs with
      | some vs => match callable P f with
        | true => some (f, vs ++ cs)
        | false => none
      | none => none
    | _ => none
  | _ => none
theorem cop_sound (hs : Sl N ρ l a) {o : Oper} {f : FuncId} {vs : List Value} (e : cop P N l o = some (f, vs)) : callable P f = true ∧ ∃ VS, rvs ρ vs = some VS ∧ (execOp a.eval o).run P w = .ok (.enter f VS.toArray) w := by
  obtain ⟨ds, op, ty, pos, af, gd⟩ := o
  unfold cop at e
  dsimp only at e
  split at e
  · rename_i g xs ts
    split at e
    · rename_i us hu
      split at e
      · rename_i hc
        cases e
        refine ⟨hc, _, aevs_sound hs hu, ?_⟩
        rw [run_call hc rfl]
        simp
      · cases e
    · cases e
  · rename_i q xs ts _
    split at e
    · rename_i g cs hq
      split at e
      · rename_i us hu
        split at e
        · rename_i hc
          cases e
          obtain ⟨X, Y, h1, h2, h3⟩ := rv_func (aev_sound hs hq)
          simp [rvs] at h1
          subst h1
          refine ⟨hc, _, rvs_append (aevs_sound hs hu) h2, ?_⟩
          rw [run_callv hc h3]
          simp
        · cases e
      · cases e
    · cases e
  · cases e
end
end Go.Rex
