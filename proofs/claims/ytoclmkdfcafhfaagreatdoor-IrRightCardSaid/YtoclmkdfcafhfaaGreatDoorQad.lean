/- More rules: any operation in a drawn region by the rule that it has outside one; results that lie in cells; function values; rows that are cut short; giving away a block at a place. -/
import Derived.Test.YtoclmkdfcafhfaaGreatDoorQac
set_option maxRecDepth 20000
namespace Go.Vcg
section
open Go.RowKit
section
variable {P : Program} {X : Ctx} {ops : Array Oper} {Q : Exit → Act → World → Prop} {rest : List Oper} {μ μr : Mem} {l : Slots} {L Lr : List Bk} {a : Act} {w : World} {o : Oper} {d fuel i : Nat} {listed : Array Bool}
variable {ty : TypeId} {pos : String} {af : Array Edge} {gd : Option (Nat × Bool)} {ds : Option Nat}
def QA (Q : Exit → Act → World → Prop) (R : Act → World → Prop) : Exit → Act → World → Prop
  | .normal, a, w => R a w
  | .exit id, a, w => Q (.exit id) a w
  | .goto k, a, w => Q (.goto k) a w
  | .ret, a, w => Q .ret a w
  | .panic c, a, w => Q (.panic c) a w
  | .outgrown, a, w => Q .outgrown a w
theorem wp_QA {R K : Act → World → Prop} (h : o.wp P a w K (QA Q R)) : o.wp P a w K Q := by
  unfold Oper.wp at *
  generalize (execOp a.eval o).run P w = r at *
  cases r with
  | ok n w' =>
    cases n <;> first
      | exact h
      | (refine Calls.mono h (fun e w'' he => ?_)
         cases e with
         | returned v => exact he
         | panicked c => exact he
         | outgrown => obtain ⟨a', w3, h'⟩ := he; exact ⟨a', w3, h'⟩)
  | halt x w' => cases x <;> exact h
theorem gaop_g (ho : nthO ops.toList i = some o) (h : G P X ops (QA Q (fun a w => Sm μr Lr w ∧ wpAnyH P .any ops Q (Sm μr Lr) fuel (listed.setIfInBounds i true) a w)) [o] μ l L) : GAop P X μr Lr ops Q fuel listed i μ l L := fun a w hst hS => by
  have h1 := h a w hst
  unfold wpOp
  simp only [nthO_get ho]
  unfold wpList at h1
  split
  · rename_i hw
    rw [if_pos hw] at h1
    rcases h1 with h1 | ⟨h1, a', w', h2⟩
    · exact .inl (wp_QA h1)
    · exact .inr ⟨h1, a', w', h2⟩
  · rename_i hw
    rw [if_neg hw] at h1
    exact h1
theorem g_ga_nil (hle : MLe μr μ) (hLr : Lr.Sublist L) (h : GA P X μr Lr ops Q fuel listed μ l L) : G P X ops (QA Q (fun a w => Sm μr Lr w ∧ wpAnyH P .any ops Q (Sm μr Lr) fuel listed a w)) [] μ l L := fun a w hs =>
  have hS : Sm μr Lr w := ⟨fun b x e => hs.mem b x (hle b x e), fun x hx => hs.own x (hLr.subset hx)⟩
  ⟨hS, h a w hs hS⟩
theorem St.perm {L' : List Bk} (h : St X μ l L a w) (hp : L'.Perm L) : St X μ l L' a w :=
  ⟨h.size, h.defers, h.slots, h.keep, h.mem, h.from0, h.fresh, fun x hx => h.own x (hp.subset hx), fun x hx => h.priv x (hp.subset hx), fun x hx => h.new x (hp.subset hx),
    (hp.pairwise_iff (fun {_ _} hxy b hb hb' => hxy b hb' hb)).2 h.diff⟩
theorem St.shareAt {L' : List Bk} {y : Bk} (h : St X μ l L a w) (hp : (y :: L').Perm L) (hM : X.M = X.M) : ∃ μ', MLe μ μ' ∧ Bk.sh y μ' ∧ St X μ' l L' a w := (h.perm hp).share hM
theorem g_share_0 {y : Bk} {L : List Bk} (hM : X.M = X.M) (h : ∀ μ', MLe μ μ' → Bk.sh y μ' → G P X ops Q rest μ' l (L)) : G P X ops Q rest μ l (y :: L) := fun a w hs => by
  obtain ⟨μ', h1, h2, h3⟩ := hs.shareAt (L' := L) (List.perm_middle (l₁ := [])).symm hM
  exact h μ' h1 h2 a w h3
theorem gc_share_0 {c : Code} {y : Bk} {L : List Bk} (hM : X.M = X.M) (h : ∀ μ', MLe μ μ' → Bk.sh y μ' → GC P X c Q μ' l (L)) : GC P X c Q μ l (y :: L) := fun a w hs => by
  obtain ⟨μ', h1, h2, h3⟩ := hs.shareAt (L' := L) (List.perm_middle (l₁ := [])).symm hM
  exact h μ' h1 h2 a w h3
theorem gq_share_0 {e : Exit} {y : Bk} {L : List Bk} (hM : X.M = X.M) (h : ∀ μ', MLe μ μ' → Bk.sh y μ' → GQ X Q e μ' l (L)) : GQ X Q e μ l (y :: L) := fun a w hs => by
  obtain ⟨μ', h1, h2, h3⟩ := hs.shareAt (L' := L) (List.perm_middle (l₁ := [])).symm hM
  exact h μ' h1 h2 a w h3
theorem gq_share_1 {e : Exit} {y : Bk} {y0 : Bk} {L : List Bk} (hM : X.M = X.M) (h : ∀ μ', MLe μ μ' → Bk.sh y μ' → GQ X Q e μ' l (y0 :: L)) : GQ X Q e μ l (y0 :: y :: L) := fun a w hs => by
  obtain ⟨μ', h1, h2, h3⟩ := hs.shareAt (L' := y0 :: L) (List.perm_middle (l₁ := [y0])).symm hM
  exact h μ' h1 h2 a w h3
theorem gq_share_2 {e : Exit} {y : Bk} {y0 y1 : Bk} {L : List Bk} (hM : X.M = X.M) (h : ∀ μ', MLe μ μ' → Bk.sh y μ' → GQ X Q e μ' l (y0 :: y1 :: L)) : GQ X Q e μ l (y0 :: y1 :: y :: L) := fun a w hs => by
  obtain ⟨μ', h1, h2, h3⟩ := hs.shareAt (L' := y0 :: y1 :: L) (List.perm_middle (l₁ := [y0, y1])).symm hM
  exact h μ' h1 h2 a w h3
def ResultVar.get (tmps : Array Value) : ResultVar → Sem Value
  | .tmp t => pure (tmps.getD t undef)
  | .cell a t => do loadVar t (← asAddr (tmps.getD a undef))
def RV (P : Program) (μ : Mem) (l : Slots) (L : List Bk) (r : ResultVar) (v : Value) : Prop := ∀ a w, Rd μ l L a w → (ResultVar.get a.tmps r).run P w = .ok v w
theorem rv_tmp {t : Nat} {v : Value} (h : lk l t = some v) : RV P μ l L (.tmp t) v := fun a w hr => by
  have h1 := hr.slots _ _ h
  simp [ResultVar.get, h1]
theorem rv_agg {t : Nat} {b s : Nat} {tt : TypeId} {y : Blk} {vs : List Value} (i : Nat) (h : lk l t = some (.pointer (some ⟨b, 0, none⟩))) (hag : aggOf P tt = some true) (hsz : sizeT P tt = some s) (hi : nthB L i = some (.inl y)) (hb : y.b = b) (hc : LC y.cs 0 s vs) : RV P μ l L (.cell t tt) (.agg vs.toArray) := fun a w hr => by
  have h1 := hr.slots _ _ h
  subst hb
  have := run_loadAgg (P := P) (w := w) (t := tt) (A := ⟨y.b, 0, none⟩) vs hag (by rw [hc.len]; exact hsz) (fun j v hv => by rw [add_lit]; exact hr.cell (nthB_mem (i := i) hi) (by simpa using hc.get j v hv))
  simp only [Instr.loadAt, Instr.sureAddr, Sem.run_bind, Sem.run_pure, Result.andThen_ok] at this
  simp [ResultVar.get, h1, asAddr, this]
theorem rv_one {t : Nat} {b : Nat} {tt : TypeId} {y : Blk} {v : Value} (i : Nat) (h : lk l t = some (.pointer (some ⟨b, 0, none⟩))) (hag : aggOf P tt = some false) (hi : nthB L i = some (.inl y)) (hb : y.b = b) (hc : lk y.cs 0 = some v) : RV P μ l L (.cell t tt) v := fun a w hr => by
  have h1 := hr.slots _ _ h
  subst hb
  have := run_loadScalar (P := P) (w := w) (t := tt) (A := ⟨y.b, 0, none⟩) hag (hr.cell (nthB_mem (i := i) hi) hc)
  simp only [Instr.loadAt, Instr.sureAddr, Sem.run_bind, Sem.run_pure, Result.andThen_ok] at this
  simp [ResultVar.get, h1, asAddr, this]
theorem results1 {fn : Func} {r : ResultVar} {v : Value} (hr : fn.results = #[r]) (h : RV P μ l L r v) (hs : Rd μ l L a w) : (results fn a.tmps).run P w = .ok v w := by
  have h1 := h a w hs
  cases r <;> simp [results, hr, ResultVar.get] at h1 ⊢ <;> first | exact h1 | simp [h1]
theorem andThen_ok2 {α β γ : Type} {x : Result α} {f : α → World → Result β} {g : β → World → Result γ} {v : β} {w : World} (h : x.andThen f = .ok v w) : (x.andThen fun a w' => (f a w').andThen g) = g v w := by
  cases x with
  | ok a w' => simp only [Result.andThen_ok] at h ⊢; rw [h]; rfl
  | halt y w' => cases h
theorem results2 {fn : Func} {r r2 : ResultVar} {v v2 : Value} (hr : fn.results = #[r, r2]) (h : RV P μ l L r v) (h' : RV P μ l L r2 v2) (hs : Rd μ l L a w) : (results fn a.tmps).run P w = .ok (.tuple #[v, v2]) w := by
  have h1 := h a w hs
  have h2 := h' a w hs
  cases r <;> cases r2 <;> simp [results, hr, ResultVar.get] at h1 h2 ⊢
  · exact ⟨h1, h2⟩
  · rw [andThen_ok2 h2, h1]
  · rw [andThen_ok2 h1, h2]
  · rw [andThen_ok2 h1, andThen_ok2 h2]
theorem ret_v1 {fn : Func} {n : Nat} {r : ResultVar} {v v' : Value} {μ0 : Mem} (hr : fn.results = #[r]) (h : RV P μ l L r v') (e : v' = v) :
    GQ ⟨w, μ0, [], n⟩ (bodyPost P fn (fun e w' => e = .returned v ∧ Below w.heap.size w w')) .ret μ l L := fun a w' hs =>
  ⟨hs.defers.none (by simp), v', results1 hr h hs.rd, by rw [e], hs.keep.below⟩
theorem ret_v2 {fn : Func} {n : Nat} {r r2 : ResultVar} {v v' v2 v2' : Value} {μ0 : Mem} (hr : fn.results = #[r, r2]) (h : RV P μ l L r v') (h' : RV P μ l L r2 v2') (e : v' = v) (e2 : v2' = v2) :
    GQ ⟨w, μ0, [], n⟩ (bodyPost P fn (fun e w' => e = .returned (.tuple #[v, v2]) ∧ Below w.heap.size w w')) .ret μ l L := fun a w' hs =>
  ⟨hs.defers.none (by simp), .tuple #[v', v2'], results2 hr h h' hs.rd, by rw [e, e2], hs.keep.below⟩
theorem ret_m1 {fn : Func} {n : Nat} {r : ResultVar} {v : Value} {μ0 : Mem} {Post : Mem → Value → Prop} (hr : fn.results = #[r]) (h : RV P μ l L r v) (hp : ∀ μ', MLe μ μ' → (∀ x ∈ L, Bk.sh x μ') → Post μ' v) :
    GQ ⟨w, μ0, [], n⟩ (bodyPost P fn (fun e w' => ∃ v μ', e = .returned v ∧ Grow w w' μ0 μ' ∧ Post μ' v)) .ret μ l L := fun a w' hs => by
  obtain ⟨μ', hg, hle, hL⟩ := hs.publish
  exact ⟨hs.defers.none (by simp), v, results1 hr h hs.rd, v, μ', rfl, hg, hp μ' hle hL⟩
theorem ret_m2 {fn : Func} {n : Nat} {r r2 : ResultVar} {v v2 : Value} {μ0 : Mem} {Post : Mem → Value → Prop} (hr : fn.results = #[r, r2]) (h : RV P μ l L r v) (h' : RV P μ l L r2 v2) (hp : ∀ μ', MLe μ μ' → (∀ x ∈ L, Bk.sh x μ') → Post μ' (.tuple #[v, v2])) :
    GQ ⟨w, μ0, [], n⟩ (bodyPost P fn (fun e w' => ∃ v μ', e = .returned v ∧ Grow w w' μ0 μ' ∧ Post μ' v)) .ret μ l L := fun a w' hs => by
  obtain ⟨μ', hg, hle, hL⟩ := hs.publish
  exact ⟨hs.defers.none (by simp), _, results2 hr h h' hs.rd, _, μ', rfl, hg, hp μ' hle hL⟩
theorem run_callv {f : FuncId} {q : Operand} {cap : Array Value} {xs : Array Operand} {ts : Array TypeId} {ρ : Operand → Value} (hf : callable P f = true) (hρ : ρ q = .func (.func f) #[] cap) (w : World) :
    (execOp ρ ⟨ds, .call { callee := .value q, args := xs, argTypes := ts }, ty, pos, af, gd⟩).run P w = .ok (.enter f (xs.map ρ ++ cap)) w := by
  unfold callable at hf
  cases h : P.funcs[f]? with
  | none => simp [h] at hf
  | some fn =>
    simp only [h, Bool.and_eq_true, Bool.not_eq_true'] at hf
    have hb : ¬ fn.body = none := by intro hb; simp [hb] at hf
    have hn : ¬ fn.name = "runtime.NumGoroutine" := by have := hf.2; simpa using this
    simp [execOp, resolve, hρ, Deferred.ofValue, invoke, callFunc, h, hn, hb]
theorem e_callv0 {f : FuncId} {q : Operand} {cap : List Value} {ts : Array TypeId} (hq : ev l q = some (.func (.func f) #[] cap.toArray)) (hf : callable P f = true) : Ent P μ l L ⟨ds, .call { callee := .value q, args := #[], argTypes := ts }, ty, pos, af, gd⟩ f ([] ++ cap).toArray := fun a w hs => by
  rw [run_callv hf (hs.eval hq)]; simp
theorem e_callv1 {f : FuncId} {q : Operand} {cap : List Value} {ts : Array TypeId} {x0 : Operand} {v0 : Value} (hq : ev l q = some (.func (.func f) #[] cap.toArray)) (hf : callable P f = true) (h0 : ev l x0 = some v0) : Ent P μ l L ⟨ds, .call { callee := .value q, args := #[x0], argTypes := ts }, ty, pos, af, gd⟩ f ([v0] ++ cap).toArray := fun a w hs => by
  rw [run_callv hf (hs.eval hq)]; have e0 := hs.eval h0; simp [e0]
theorem e_callv2 {f : FuncId} {q : Operand} {cap : List Value} {ts : Array TypeId} {x0 x1 : Operand} {v0 v1 : Value} (hq : ev l q = some (.func (.func f) #[] cap.toArray)) (hf : callable P f = true) (h0 : ev l x0 = some v0) (h1 : ev l x1 = some v1) : Ent P μ l L ⟨ds, .call { callee := .value q, args := #[x0, x1], argTypes := ts }, ty, pos, af, gd⟩ f ([v0, v1] ++ cap).toArray := fun a w hs => by
  rw [run_callv hf (hs.eval hq)]; have e0 := hs.eval h0; have e1 := hs.eval h1; simp [e0, e1]
theorem v_min2 {x y : Operand} {ts : Array TypeId} {i j : Int} (h0 : ev l x = some (.int .i64 i)) (h1 : ev l y = some (.int .i64 j)) : Val P μ l L ⟨ds, .call { callee := .builtin .min, args := #[x, y], argTypes := ts }, ty, pos, af, gd⟩ (.int .i64 (if j < i then j else i)) := fun a w hs => by
  have e0 := hs.eval h0
  have e1 := hs.eval h1
  generalize a.eval = ρ at e0 e1
  simp [execOp, resolve, invoke, builtin, Builtin.min_, Builtin.min2, e0, e1]
structure RowOk (A : Option Addr) (n c s : Nat) (xs : List Value) : Prop where
  cap : n ≤ c
  len : xs.length = n * s
  form : (A = none ∧ n = 0 ∧ c = 0) ∨ ∃ g, A = some ⟨g, 0, none⟩
theorem St.rowOk (h : St X μ l L a w) {i : Nat} {r : Rw} (hi : nthB L i = some (.inr r)) : ∃ A c, r.v = .slice A r.n c ∧ RowOk A r.n c r.s r.xs := by
  have hown : w.ownsRow 0 r.e r.s r.v r.n r.xs := h.own _ (nthB_mem hi)
  rcases hown.2 with ⟨h1, h2⟩ | ⟨g, cap, cur, h1, h3, h4, h5, h6⟩
  · exact ⟨none, 0, by rw [h1, h2], by omega, hown.1, .inl ⟨rfl, h2, rfl⟩⟩
  · exact ⟨_, _, h1, h5, hown.1, .inr ⟨g, rfl⟩⟩
theorem g_rowOk {v : Value} {e s n : Nat} {ys : List Value} (i : Nat) (hi : nthB L i = some (.inr ⟨v, e, s, n, ys⟩)) (h : ∀ A c, v = .slice A n c → RowOk A n c s ys → G P X ops Q rest μ l L) : G P X ops Q rest μ l L := fun a w hs => by
  obtain ⟨A, c, h1, h2⟩ := hs.rowOk hi
  exact h A c h1 h2 a w hs
theorem gc_rowOk {k : Code} {v : Value} {e s n : Nat} {ys : List Value} (i : Nat) (hi : nthB L i = some (.inr ⟨v, e, s, n, ys⟩)) (h : ∀ A c, v = .slice A n c → RowOk A n c s ys → GC P X k Q μ l L) : GC P X k Q μ l L := fun a w hs => by
  obtain ⟨A, c, h1, h2⟩ := hs.rowOk hi
  exact h A c h1 h2 a w hs
theorem src_row_drop {q : Operand} {A : Option Addr} {m c e s k : Nat} {xs : List Value} (i : Nat) (hok : RowOk A m c s xs) (hk : k ≤ m) (hi : nthB L i = some (.inr ⟨.slice A m c, e, s, m, xs⟩)) (hq : ev l q = some (.slice (if c = k then A else A.map (·.add (k * s))) (m - k) (c - k))) : Src μ l L q (m - k) (xs.drop (k * s)) := by
  have hcap := hok.cap
  by_cases hck : c = k
  · have hm : m = k := by omega
    have hx : xs.drop (k * s) = [] := List.drop_of_length_le (by rw [hok.len, hm]; exact Nat.le_refl _)
    rw [hx]
    refine ⟨_, _, hq, fun _ => ⟨by omega, rfl⟩, fun _ _ a w _ j u hu => by simp at hu⟩
  · rw [if_neg hck] at hq
    refine ⟨_, _, hq, fun e0 => ?_, fun ad e0 a w hr j u hu => ?_⟩
    · rcases hok.form with ⟨_, h, _⟩ | ⟨g, h⟩
      · exact ⟨by omega, by rw [List.eq_nil_of_length_eq_zero (by rw [hok.len, h]; simp : xs.length = 0)]; simp⟩
      · rw [h] at e0; cases e0
    · rcases hok.form with ⟨h, _⟩ | ⟨g, h⟩
      · rw [h] at e0; cases e0
      · subst h; cases e0
        rw [add_add', add_lit, Nat.zero_add]
        exact hr.rowCell (nthB_mem hi) (by simpa using hu)
end
end
section
open Go.RowKit
section
variable {P : Program} {X : Ctx} {ops : Array Oper} {Q : Exit → Act → World → Prop} {rest : List Oper} {μ μr : Mem} {l : Slots} {L Lr : List Bk} {a : Act} {w : World} {o : Oper} {d fuel i : Nat} {listed : Array Bool}
theorem St.cut {A : Option Addr} {n cp e s : Nat} {xs : List Value} (h : St X μ l L a w) {i k : Nat} (hi : nthB L i = some (.inr ⟨.slice A n cp, e, s, n, xs⟩)) (hok : RowOk A n cp s xs) (hk : k ≤ n) :
    St X μ l (updB L i (.inr ⟨.slice A k cp, e, s, k, xs.take (k * s)⟩)) a w := by
  refine h.upd (w' := w) hi rfl rfl rfl (Nat.le_refl _) (fun _ _ _ => rfl) ?_ (fun b hb => .inl (by cases A <;> exact hb))
  have hown : w.ownsRow 0 e s (.slice A n cp) n xs := h.own _ (nthB_mem hi)
  have hkn : k * s ≤ n * s := Nat.mul_le_mul_right s hk
  refine ⟨by simp only [List.length_take, hok.len]; omega, ?_⟩
  rcases hown.2 with ⟨h1, h2⟩ | ⟨g, cap, cur, h1, h3, h4, h5, h6, h7, h8⟩
  · cases h1
    exact .inl ⟨by rw [show k = 0 by omega], by show k = 0; omega⟩
  · cases h1
    refine .inr ⟨g, cp, cur, rfl, h3, h4, Nat.le_trans hk h5, h6, h7, ?_⟩
    show cur.toList.take (k * s) = xs.take (k * s)
    rw [← h8, List.take_take, Nat.min_eq_left hkn]
theorem gc_cut {c : Code} {A : Option Addr} {n cp e s : Nat} {xs : List Value} (i k : Nat) (hi : nthB L i = some (.inr ⟨.slice A n cp, e, s, n, xs⟩)) (hok : RowOk A n cp s xs) (hk : k ≤ n)
    (h : GC P X c Q μ l (updB L i (.inr ⟨.slice A k cp, e, s, k, xs.take (k * s)⟩))) : GC P X c Q μ l L := fun a w hs => h a w (hs.cut hi hok hk)
theorem gq_nilRow {c : Exit} (e s : Nat) (h : GQ X Q c μ l (.inr ⟨.slice none 0 0, e, s, 0, []⟩ :: L)) : GQ X Q c μ l L := fun a w hs => h a w (hs.nilRow e s)
end
section flat
variable {α : Type} {enc : α → List Value} {s : Nat}
theorem flat_length (he : ∀ x, (enc x).length = s) (l : List α) : (l.flatMap enc).length = l.length * s := by
  induction l with
  | nil => simp
  | cons x l ih => simp only [List.flatMap_cons, List.length_append, ih, he, List.length_cons, Nat.add_mul]; omega
theorem flat_takes (he : ∀ x, (enc x).length = s) (l : List α) (k : Nat) : (l.flatMap enc).take (k * s) = (l.take k).flatMap enc := by
  by_cases h : k ≤ l.length
  · conv => lhs; rw [← List.take_append_drop k l, List.flatMap_append]
    rw [List.take_append_of_le_length (by rw [flat_length he]; simp [Nat.min_eq_left h]), List.take_of_length_le (by rw [flat_length he]; simp [Nat.min_eq_left h])]
  · rw [List.take_of_length_le (l := l) (by omega), List.take_of_length_le]
    rw [flat_length he]
    exact Nat.mul_le_mul_right s (by omega)
theorem flat_drops (he : ∀ x, (enc x).length = s) (l : List α) (k : Nat) : (l.flatMap enc).drop (k * s) = (l.drop k).flatMap enc := by
  by_cases h : k ≤ l.length
  · conv => lhs; rw [← List.take_append_drop k l, List.flatMap_append]
    have hl : ((l.take k).flatMap enc).length = k * s := by rw [flat_length he]; simp [Nat.min_eq_left h]
    rw [← hl, List.drop_left]
  · rw [List.drop_of_length_le (l := l) (by omega), List.drop_of_length_le]
    · rfl
    · rw [flat_length he]
      exact Nat.mul_le_mul_right s (by omega)
theorem flat_get (he : ∀ x, (enc x).length = s) {l : List α} {k : Nat} {x : α} (h : l[k]? = some x) (j : Nat) (v : Value) (hv : (enc x)[j]? = some v) : (l.flatMap enc)[k * s + j]? = some v := by
  have hj : j < s := by rw [← he x]; exact (List.getElem?_eq_some_iff.1 hv).1
  have h1 := flat_drops he l k
  have h2 : ((l.flatMap enc).drop (k * s))[j]? = some v := by
    rw [h1]
    have hk : k < l.length := (List.getElem?_eq_some_iff.1 h).1
    rw [List.drop_eq_getElem_cons hk, (List.getElem?_eq_some_iff.1 h).2, List.flatMap_cons, List.getElem?_append_left (by rw [he]; exact hj)]
    exact hv
  rw [List.getElem?_drop] at h2
  exact h2
end flat
end
section
open Go.RowKit
section
variable {P : Program} {X : Ctx} {ops : Array Oper} {Q : Exit → Act → World → Prop} {rest : List Oper} {μ μr : Mem} {l : Slots} {L Lr : List Bk} {a : Act} {w : World} {o : Oper} {d fuel i : Nat} {listed : Array Bool}
variable {ty : TypeId} {pos : String} {af : Array Edge} {gd : Option (Nat × Bool)} {ds : Option Nat}
theorem run_equalIn_nil (w : World) (k : Nat) (t e : TypeId) (A : Option Addr) (n c : Nat) (ht : P.underlying t = some (.slice e)) : (Op.equalIn (k + 1) t (.slice A n c) (.slice none 0 0)).run P w = .ok A.isNone w := by
  unfold Op.equalIn
  cases A <;> simp [run_underlying ht]
theorem v_isnil {p : Operand} {t t2 e : TypeId} {A : Option Addr} {n c : Nat} (ht : P.underlying t = some (.slice e)) (hx : ev l p = some (.slice A n c)) : Val P μ l L ⟨ds, .binOp .eql t p (.const (.slice none 0 0)) t2, ty, pos, af, gd⟩ (.bool A.isNone) := fun a w hs => by
  have e0 := hs.eval hx
  have e1 : a.eval (.const (.slice none 0 0)) = .slice none 0 0 := rfl
  generalize a.eval = ρ at e0 e1
  have h := run_equalIn_nil (P := P) w 9999 t e A n c ht
  simp [execOp, e0, e1, eqGuard, binOp, Op.equal, Op.maxDepth, h]
end
end
section
open Go.RowKit
section
variable {P : Program} {X : Ctx} {ops : Array Oper} {Q : Exit → Act → World → Prop} {rest : List Oper} {μ μr : Mem} {l : Slots} {a : Act} {w : World} {o : Oper} {d fuel i : Nat} {listed : Array Bool}
theorem St.cells {L L' : List Bk} {i : Nat} {b t sz : Nat} {cs cs' : Slots} (h : St X μ l L a w) (hi : nthB L i = some (.inl ⟨b, t, sz, cs⟩)) (hs : SubS cs' cs) (hL : updB L i (.inl ⟨b, t, sz, cs'⟩) = L') : St X μ l L' a w := by
  rw [← hL]
  refine h.upd (w' := w) hi rfl rfl rfl (Nat.le_refl _) (fun _ _ _ => rfl) ?_ (fun b hb => .inl hb)
  obtain ⟨arr, h1, h2, h3⟩ := h.own _ (nthB_mem hi)
  exact ⟨arr, h1, h2, fun k v hk => h3 k v (hs k v hk)⟩
theorem gq_cells_2 {e : Exit} {b t sz : Nat} {cs : Slots} {y0 y1 : Bk} {L : List Bk} (cs' : Slots) (hs : SubS cs' cs) (h : GQ X Q e μ l (y0 :: y1 :: .inl ⟨b, t, sz, cs'⟩ :: L)) : GQ X Q e μ l (y0 :: y1 :: .inl ⟨b, t, sz, cs⟩ :: L) := fun a w hst => h a w (hst.cells (i := 2) rfl hs rfl)
end
end
end Go.Vcg
namespace Go.Proofs.YtoclmkdfcafhfaaGreatDoor
end Go.Proofs.YtoclmkdfcafhfaaGreatDoor
