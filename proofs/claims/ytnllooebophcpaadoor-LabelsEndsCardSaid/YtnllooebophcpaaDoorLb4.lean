/- The deferred call of package labels' Of, where nobody panics; the law's example. No statement of the seat is proved here. -/
import Derived.Test.YtnllooebophcpaaDoorLb1
import Derived.Test.YtnllooebophcpaaDoorRm
import Derived.Recover
set_option maxRecDepth 20000
namespace Go.Vcg
open Go.RowKit
def GS (P : Program) (X : Ctx) (ops : Array Oper) (Q : Exit → Act → List Frame → World → Prop) (cs : List Frame) (rest : List Nat) (μ : Mem) (l : Slots) (L : List Bk) : Prop :=
  ∀ a w, St X μ l L a w → wpOpsS P ops Q rest a cs w
section
variable {P : Program} {X : Ctx} {ops : Array Oper} {Q : Exit → Act → List Frame → World → Prop} {cs : List Frame} {rest : List Nat} {μ : Mem} {l : Slots} {L : List Bk} {o : Oper} {i d : Nat}
theorem gs_nil (h : ∀ a w, St X μ l L a w → Q .normal a cs w) : GS P X ops Q cs [] μ l L := fun a w hs => h a w hs
theorem gs_val {v : Value} (ho : ops[i]? = some o) (hd : o.dst = some d) (hn : Nat.blt d X.n = true) (hg : o.guard = none) (hr : Val P μ l L o v) (h : GS P X ops Q cs rest μ ((d, v) :: l) L) : GS P X ops Q cs (i :: rest) μ l L := fun a w hs => by
  unfold wpOpsS
  simp only [ho]
  rw [if_pos (by simp [Region.wanted, hg]), hr a w hs.rd]
  show wpOpsS P ops Q rest (a.put o.dst v) cs w
  rw [hd]
  exact h _ _ (hs.put hn _)
theorem gs_new {v : Nat → Value} {t : TypeId} {cells : List Value} (ho : ops[i]? = some o) (hd : o.dst = some d) (hn : Nat.blt d X.n = true) (hg : o.guard = none) (hr : Alc P μ l L o v t cells) (h : ∀ b, GS P X ops Q cs rest μ ((d, v b) :: l) (.inl ⟨b, t, cells.length, idx 0 cells⟩ :: L)) : GS P X ops Q cs (i :: rest) μ l L := fun a w hs => by
  unfold wpOpsS
  simp only [ho]
  rw [if_pos (by simp [Region.wanted, hg]), hr a w hs.rd]
  show wpOpsS P ops Q rest (a.put o.dst (v w.heap.size)) cs (w.alloc (.cells cells.toArray t))
  rw [hd]
  exact h _ _ _ ((hs.alloc t cells).put hn _)
/-- a store: the block that it writes is forgotten -/
theorem gs_store {x q : Operand} {t b n bt : Nat} {ty : TypeId} {pos : String} {af : Array Edge} {cells : List Value} {vs : List Value} (ho : ops[i]? = some ⟨none, .store t q x, ty, pos, af, none⟩) (hsz : sizeT P t = some n) (hq : ev l q = some (.pointer (some ⟨b, 0, none⟩))) (hx : ev l x = some (.agg vs.toArray)) (hlen : vs.length = n) (hone : vs.all (·.oneCell') = true) (hcl : cells.length = n)
    (h : GS P X ops Q cs rest μ l L) : GS P X ops Q cs (i :: rest) μ l (.inl ⟨b, bt, n, idx 0 cells⟩ :: L) := fun a w hs => by
  have e0 := hs.eval hq
  have e1 := hs.eval hx
  obtain ⟨arr, hh, hasz, _⟩ := hs.own _ (List.mem_cons_self ..)
  have hasz : arr.size = n := hasz
  have hvl : (Value.agg vs.toArray).cells.toList = vs := by simp [Value.cells]
  have hrow := run_storeCells_at (P := P) b 0 bt vs 0 arr w hh (by omega) (List.all_eq_true.1 hone)
  have hrun : (Instr.storeAt t (.pointer (some ⟨b, 0, none⟩)) (.agg vs.toArray)).run P w = .ok () (w.setRow b (arr.toList.take (0 + 0) ++ vs ++ arr.toList.drop (0 + 0 + vs.length)).toArray) := by
    have hl' : ¬ (Value.agg vs.toArray).cells.size ≠ n := by simp [Value.cells, hlen]
    simp only [Instr.storeAt, Instr.sureAddr, storeVar, Sem.run_bind, Sem.run_pure, Result.andThen_ok, run_sizeOf hsz, if_neg hl', hvl]
    exact hrow
  have hst := hs.setRow (i := 0) (x := ⟨b, bt, n, idx 0 cells⟩) rfl (cs := (arr.toList.take (0 + 0) ++ vs ++ arr.toList.drop (0 + 0 + vs.length)).toArray) (cs' := []) (by simp; omega) (fun k v hv => by simp [lk] at hv)
  unfold wpOpsS
  simp only [ho]
  rw [if_pos (by simp [Region.wanted])]
  generalize hρ : a.eval = ρ at e0 e1
  have hex : (execOp ρ ⟨none, .store t q x, ty, pos, af, none⟩).run P w = .ok .skip (w.setRow b (arr.toList.take (0 + 0) ++ vs ++ arr.toList.drop (0 + 0 + vs.length)).toArray) := by
    simp only [execOp, e0, e1, Sem.run_bind, hrun, Result.andThen_ok]; rfl
  rw [hex]
  exact h a _ (hst.sub (fun _ _ h => h) (List.sublist_cons_self _ _))
/-- recover, where nobody panics -/
theorem gs_recover {ty : TypeId} {pos : String} {af : Array Edge} (ho : ops[i]? = some ⟨some d, .call { callee := .builtin .recover, args := #[], argTypes := #[] }, ty, pos, af, none⟩) (hn : Nat.blt d X.n = true) (hcs : recoverD cs = none) (h : GS P X ops Q cs rest μ ((d, .nilIface) :: l) L) : GS P X ops Q cs (i :: rest) μ l L := fun a w hs => by
  unfold wpOpsS
  simp only [ho]
  rw [if_pos (by simp [Region.wanted])]
  have hr : (execOp a.eval ⟨some d, .call { callee := .builtin .recover, args := #[], argTypes := #[] }, ty, pos, af, none⟩).run P w = .ok .recover w := by
    simp [execOp, resolve, invoke, builtin]
  rw [hr]
  simp only [hcs]
  exact h _ _ (hs.put hn _)
theorem v_assert_nil {x : Operand} {xt t : TypeId} {z : Value} {fs : Array Field} {ds : Option Nat} {ty : TypeId} {pos : String} {af : Array Edge} {gd : Option (Nat × Bool)} (hx : ev l x = some .nilIface) (ht : P.underlying t = some (.struct fs)) (hz : zeroT P t = some z) : Val P μ l L ⟨ds, .typeAssert x xt t true, ty, pos, af, gd⟩ (.tuple #[z, .bool false]) := fun a w hs => by
  have e := hs.eval hx
  generalize a.eval = ρ at e
  simp [execOp, e, Instr.typeAssert, run_underlying ht, run_zeroValue hz]
end
end Go.Vcg
namespace Go.Proofs.YtnllooebophcpaaDoor
open Go.RowKit Go.Vcg Go.Rex
set_option maxRecDepth 20000
theorem quiet_of1 : QuietF Tryd.prog 14 := fun args w => by
  refine callsD_of_wpS Tryd.func14 rfl fun c₀ cs hc => ?_
  have h16 : (16 : Nat) ≤ (args ++ Array.replicate (Tryd.f14.ntmps - args.size) undef).size := by
    have : Tryd.f14.ntmps = 16 := Tryd.ntmps14
    simp [this]; omega
  generalize hT : args ++ Array.replicate (Tryd.f14.ntmps - args.size) undef = T at h16
  have hst : St ⟨w, fun _ => none, [], T.size⟩ (fun _ => none) [] [] { tmps := T, defers := [] } w :=
    ⟨rfl, rfl, (fun t v hv => by simp [lk] at hv), Keep.refl _ _, (fun _ _ h => by cases h), MLe.refl _, fun _ _ h => h, by simp, by simp, by simp, List.Pairwise.nil⟩
  have hn : ∀ d, d < 16 → Nat.blt d T.size = true := fun d hd => by rw [Nat.blt, Nat.ble_eq]; omega
  have hrec : recoverD (c₀ :: cs) = none := by simp [recoverD, hc]
  refine wpS_seq (wpS_region ?_)
  refine (show GS Tryd.prog ⟨w, fun _ => none, [], T.size⟩ _ _ (c₀ :: cs) [0, 1, 2, 3, 4, 5, 6, 7] (fun _ => none) [] [] from ?_) _ _ hst
  refine gs_recover rfl (hn _ (by decide)) hrec ?_
  refine gs_val rfl rfl (hn _ (by decide)) rfl (v_assert_nil rfl rfl rfl) ?_
  refine gs_val rfl rfl (hn _ (by decide)) rfl (v_move rfl) ?_
  refine gs_val rfl rfl (hn _ (by decide)) rfl (v_extract (vs := [_, _]) rfl rfl) ?_
  refine gs_val rfl rfl (hn _ (by decide)) rfl (v_extract (vs := [_, _]) rfl rfl) ?_
  refine gs_new rfl rfl (hn _ (by decide)) rfl (n_alloc (cs := [_, _]) rfl) fun b => ?_
  refine gs_store (vs := [_, _]) rfl rfl rfl rfl rfl rfl rfl ?_
  refine gs_val rfl rfl (hn _ (by decide)) rfl (v_assign rfl) ?_
  refine gs_nil fun a1 w1 hs1 => ?_
  refine wpS_of_wp ?_
  have hs2 : St ⟨w, fun _ => none, [], T.size⟩ (fun _ => none) [(5, .bool false)] [] a1 w1 := hs1.sub (subS_cons rfl subS_nil) (List.nil_sublist _)
  refine (show GC Tryd.prog ⟨w, fun _ => none, [], T.size⟩ _ _ (fun _ => none) [(5, .bool false)] [] from ?_) a1 w1 hs2
  refine gc_seq (gc_region (g_val rfl (hn _ (by decide)) rfl (v_move rfl) (g_nil (gq_then (gc_cond_false rfl (gc_skip ?_))))))
  intro a2 w2 hs3
  refine ⟨hs3.defers, .returning, ?_, .tuple #[], ?_, ⟨_, rfl⟩, rfl, hs3.keep.below⟩
  · cases c₀; simp at hc; subst hc; rfl
  · simp [results, Tryd.f14]
theorem awake_run : runFQ Tryd.prog 1000 [14] memoN T1 400 6 [] = some (.bool true) := by kernel_rfl
theorem awake_spec {w : World} (h : TabsOk 1000 w T1) : Calls Tryd.prog 6 #[] w fun e w' => e = .returned (.bool true) ∧ Below w.heap.size w w' :=
  runFQ_sound mixed (fun f hf => by rw [List.mem_singleton.1 hf]; exact quiet_of1) (memoN_ok h) (by decide) h awake_run
end Go.Proofs.YtnllooebophcpaaDoor
