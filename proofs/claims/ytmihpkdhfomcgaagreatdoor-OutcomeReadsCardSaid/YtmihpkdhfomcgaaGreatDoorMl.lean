/- Deferred calls that recover. (and what leans on it). No statement of the seat is proved here. -/
import Derived.Test.YtmihpkdhfomcgaaGreatDoorVq
import Derived.Test.YtmihpkdhfomcgaaGreatDoorVm
import Derived.Test.YtmihpkdhfomcgaaGreatDoorSel
import Derived.Test.YtmihpkdhfomcgaaGreatDoorMc
import Derived.Recover
import Derived.Test.YtmihpkdhfomcgaaGreatDoorOu18
import Derived.Test.YtmihpkdhfomcgaaGreatDoorSt
set_option maxRecDepth 20000
set_option maxHeartbeats 2000000
namespace Go.Vcg
open Go.RowKit
def QuietF (P : Program) (f : FuncId) : Prop := ∀ (args : Array Value) (w : World), CallsD P f args .returning w fun e u' w' => (∃ v, e = .returned v) ∧ u' = .returning ∧ Below w.heap.size w w'
variable {P : Program}
theorem entersC {f : FuncId} (hf : callable P f = true) : ∀ args w, (callFunc f args).run P w = .ok (.enter f args) w := fun args w => by
  unfold callable at hf
  cases h : P.funcs[f]? with
  | none => simp [h] at hf
  | some fn =>
    simp only [h, Bool.and_eq_true, Bool.not_eq_true'] at hf
    obtain ⟨hb, hn⟩ := hf
    have hb2 : ¬ fn.body = none := fun e => by rw [e] at hb; cases hb
    have hn2 : ¬ fn.name = "runtime.NumGoroutine" := by simpa using hn
    simp [callFunc, h, hn2, hb2]
end Go.Vcg
namespace Go.Vcg
open Go.RowKit
def GS (P : Program) (X : Ctx) (ops : Array Oper) (Q : Exit → Act → List Frame → World → Prop) (cs : List Frame) (rest : List Nat) (μ : Mem) (l : Slots) (L : List Bk) : Prop :=
  ∀ a w, St X μ l L a w → wpOpsS P ops Q rest a cs w
section
variable {P : Program} {X : Ctx} {ops : Array Oper} {Q : Exit → Act → List Frame → World → Prop} {cs : List Frame} {rest : List Nat} {μ : Mem} {l : Slots} {L : List Bk} {o : Oper} {i d : Nat}
theorem gs_nil (h : ∀ a w, St X μ l L a w → Q .normal a cs w) : GS P X ops Q cs [] μ l L := fun a w hs => h a w hs
theorem gs_val {v : Value} (ho : ops[i]? = some o) (hd : o.dst = some d) (hn : Nat.blt d X.n = true) (hg : o.guard = none) (hr : Val P μ l L o v) (h : GS P X ops Q cs rest μ ((d, v) :: l) L) : GS P X ops Q cs (i :: rest) μ l L := fun a w hs => by
  unfold wpOpsS
  simp only [ho]
  rw [if_pos (by simp [Region.wanted, hg]), hr a w hs.rd]
  show wpOpsS P ops Q rest (a.put o.dst v) cs w
  rw [hd]
  exact h _ _ (hs.put hn _)
theorem gs_new {v : Nat → Value} {t : TypeId} {cells : List Value} (ho : ops[i]? = some o) (hd : o.dst = some d) (hn : Nat.blt d X.n = true) (hg : o.guard = none) (hr : Alc P μ l L o v t cells) (h : ∀ b, GS P X ops Q cs rest μ ((d, v b) :: l) (.inl ⟨b, t, cells.length, idx 0 cells⟩ :: L)) : GS P X ops Q cs (i :: rest) μ l L := fun a w hs => by
  unfold wpOpsS
  simp only [ho]
  rw [if_pos (by simp [Region.wanted, hg]), hr a w hs.rd]
  show wpOpsS P ops Q rest (a.put o.dst (v w.heap.size)) cs (w.alloc (.cells cells.toArray t))
  rw [hd]
  exact h _ _ _ ((hs.alloc t cells).put hn _)
theorem gs_store {x q : Operand} {t b n bt : Nat} {ty : TypeId} {pos : String} {af : Array Edge} {cells : List Value} {vs : List Value} (ho : ops[i]? = some ⟨none, .store t q x, ty, pos, af, none⟩) (hsz : sizeT P t = some n) (hq : ev l q = some (.pointer (some ⟨b, 0, none⟩))) (hx : ev l x = some (.agg vs.toArray)) (hlen : vs.length = n) (hone : vs.all (·.oneCell') = true) (hcl : cells.length = n)
    (h : GS P X ops Q cs rest μ l L) : GS P X ops Q cs (i :: rest) μ l (.inl ⟨b, bt, n, idx 0 cells⟩ :: L) := fun a w hs => by
  have e0 := hs.eval hq
  have e1 := hs.eval hx
  obtain ⟨arr, hh, hasz, _⟩ := hs.own _ (List.mem_cons_self ..)
  have hasz : arr.size = n := hasz
  have hvl : (Value.agg vs.toArray).cells.toList = vs := by simp [Value.cells]
  have hrow := run_storeCells_at (P := P) b 0 bt vs 0 arr w hh (by omega) (List.all_eq_true.1 hone)
  have hrun : (Instr.storeAt t (.pointer (some ⟨b, 0, none⟩)) (.agg vs.toArray)).run P w = .ok () (w.setRow b (arr.toList.take (0 + 0) ++ vs ++ arr.toList.drop (0 + 0 + vs.length)).toArray) := by
    have hl' : ¬ (Value.agg vs.toArray).cells.size ≠ n := by simp [Value.cells, hlen]
    simp only [Instr.storeAt, Instr.sureAddr, storeVar, Sem.run_bind, Sem.run_pure, Result.andThen_ok, run_sizeOf hsz, if_neg hl', hvl]
    exact hrow
  have hst := hs.setRow (i := 0) (x := ⟨b, bt, n, idx 0 cells⟩) rfl (cs := (arr.toList.take (0 + 0) ++ vs ++ arr.toList.drop (0 + 0 + vs.length)).toArray) (cs' := []) (by simp; omega) (fun k v hv => by simp [lk] at hv)
  unfold wpOpsS
  simp only [ho]
  rw [if_pos (by simp [Region.wanted])]
  generalize hρ : a.eval = ρ at e0 e1
  have hex : (execOp ρ ⟨none, .store t q x, ty, pos, af, none⟩).run P w = .ok .skip (w.setRow b (arr.toList.take (0 + 0) ++ vs ++ arr.toList.drop (0 + 0 + vs.length)).toArray) := by
    simp only [execOp, e0, e1, Sem.run_bind, hrun, Result.andThen_ok]; rfl
  rw [hex]
  exact h a _ (hst.sub (fun _ _ h => h) (List.sublist_cons_self _ _))
theorem gs_recover {ty : TypeId} {pos : String} {af : Array Edge} (ho : ops[i]? = some ⟨some d, .call { callee := .builtin .recover, args := #[], argTypes := #[] }, ty, pos, af, none⟩) (hn : Nat.blt d X.n = true) (hcs : recoverD cs = none) (h : GS P X ops Q cs rest μ ((d, .nilIface) :: l) L) : GS P X ops Q cs (i :: rest) μ l L := fun a w hs => by
  unfold wpOpsS
  simp only [ho]
  rw [if_pos (by simp [Region.wanted])]
  have hr : (execOp a.eval ⟨some d, .call { callee := .builtin .recover, args := #[], argTypes := #[] }, ty, pos, af, none⟩).run P w = .ok .recover w := by
    simp [execOp, resolve, invoke, builtin]
  rw [hr]
  simp only [hcs]
  exact h _ _ (hs.put hn _)
theorem v_assert_nil {x : Operand} {xt t : TypeId} {z : Value} {fs : Array Field} {ds : Option Nat} {ty : TypeId} {pos : String} {af : Array Edge} {gd : Option (Nat × Bool)} (hx : ev l x = some .nilIface) (ht : P.underlying t = some (.struct fs)) (hz : zeroT P t = some z) : Val P μ l L ⟨ds, .typeAssert x xt t true, ty, pos, af, gd⟩ (.tuple #[z, .bool false]) := fun a w hs => by
  have e := hs.eval hx
  generalize a.eval = ρ at e
  simp [execOp, e, Instr.typeAssert, run_underlying ht, run_zeroValue hz]
end
end Go.Vcg
namespace Go.Vcg
open Go.RowKit
section
variable {P : Program} {X : Ctx} {ops : Array Oper} {QS : Exit → Act → List Frame → World → Prop} {cs : List Frame} {μ : Mem} {l : Slots} {L : List Bk} {a : Act} {w : World} {d : Nat}
theorem gs_recover_p {v : Value} {cs' : List Frame} {ty : TypeId} {pos : String} {af : Array Edge} {os : List Oper} (ho : ops.toList = ⟨some d, .call { callee := .builtin .recover, args := #[], argTypes := #[] }, ty, pos, af, none⟩ :: os) (hn : Nat.blt d X.n = true) (hcs : recoverD cs = some (v, cs')) (hno : ∀ a w, ¬QS .outgrown a cs' w)
    (h : G P X ops (fun e a w => QS e a cs' w) os μ ((d, v) :: l) L) (hs : St X μ l L a w) : wpOpsS P ops QS (List.range ops.size) a cs w := by
  have hsz : ops.size = os.length + 1 := by rw [← Array.length_toList, ho]; rfl
  have hget : ∀ j, ops[j]? = (⟨some d, .call { callee := .builtin .recover, args := #[], argTypes := #[] }, ty, pos, af, none⟩ :: os)[j]? := fun j => by rw [← ho, Array.getElem?_toList]
  rw [hsz, List.range_eq_range', List.range'_succ]
  unfold wpOpsS
  have h0 : ops[0]? = some ⟨some d, .call { callee := .builtin .recover, args := #[], argTypes := #[] }, ty, pos, af, none⟩ := hget 0
  simp only [h0]
  rw [if_pos (by simp [Region.wanted])]
  have hr : (execOp a.eval ⟨some d, .call { callee := .builtin .recover, args := #[], argTypes := #[] }, ty, pos, af, none⟩).run P w = .ok .recover w := by
    simp [execOp, resolve, invoke, builtin]
  rw [hr]
  simp only [hcs]
  exact wpOpsS_of_list hno os 1 (fun j => by rw [hget]; simp [Nat.add_comm]) _ _ (h _ _ (hs.put hn _))
theorem gq_of {Q : Exit → Act → World → Prop} {e : Exit} (h : ∀ a w, St X μ l L a w → Q e a w) : GQ X Q e μ l L := h
theorem gc_at {Q : Exit → Act → World → Prop} {c : Code} (h : GC P X c Q μ l L) (hs : St X μ l L a w) : c.wp P Q a w := h a w hs
theorem v_assert_ok {x : Operand} {v : Value} {xt t : TypeId} {fs : Array Field} {ds : Option Nat} {ty : TypeId} {pos : String} {af : Array Edge} {gd : Option (Nat × Bool)} (hx : ev l x = some (.iface t v)) (ht : P.underlying t = some (.struct fs)) : Val P μ l L ⟨ds, .typeAssert x xt t true, ty, pos, af, gd⟩ (.tuple #[v, .bool true]) := fun a w hs => by
  have e := hs.eval hx
  generalize a.eval = ρ at e
  simp [execOp, e, Instr.typeAssert, run_underlying ht]
end
end Go.Vcg
namespace Go.Vcg
open Go.RowKit
section
variable {P : Program} {X : Ctx} {ops : Array Oper} {Q : Exit → Act → World → Prop} {ds : List Deferred} {μ : Mem} {l : Slots} {L : List Bk} {a : Act} {w : World} {d : Nat}
theorem call_introD {f : FuncId} {fn : Func} {c : Code} {args : List Value} {n : Nat} {R : Ending → World → Prop} (hf : P.funcs[f]? = some fn) (hb : fn.body = some c) (hn : fn.ntmps = n) (hsz : args.length ≤ n)
    (hμ : MOk μ w) (h : GC P ⟨w, μ, [], n⟩ c (bodyPostD P fn R) μ (idx 0 args) []) : Calls P f args.toArray w R := by
  refine calls_of_wp_defers hf hb (h _ _ ⟨?_, Marks.nil, fun t v hv => ?_, Keep.refl _ _, hμ, MLe.refl _, fun _ _ _ h => h, by simp, by simp, by simp, List.Pairwise.nil⟩)
  · simp [hn]; omega
  · obtain ⟨_, h2⟩ := lk_idx _ _ _ _ hv
    have hlt : t < args.length := by have := (List.getElem?_eq_some_iff.1 h2).1; simpa using this
    simp only [Nat.sub_zero] at h2
    rw [Array.getElem?_append_left (by simpa using hlt)]
    simpa using h2
theorem gd_sel {c : Code} {l' : Slots} {L' : List Bk} (hl : SubS l' l) (hL : Sel L' L) (h : GD P X ds c Q μ l' L') : GD P X ds c Q μ l L := fun a w hs => h a w (hs.sel hl hL)
theorem ret_DQ {fn : Func} {n : Nat} {rs : List ResultVar} {vs cap : List Value} {f : FuncId} {μ0 : Mem} {Post : Mem → Value → Prop} (hq : QuietF P f) (hc : callable P f = true) (hr : fn.results = rs.toArray) (h : RVs P μ l L rs vs) (hl : Nat.beq vs.length 1 = false) (hp : ∀ μ', MLe μ μ' → (∀ x ∈ L, Bk.sh x μ') → Post μ' (.tuple vs.toArray)) :
    GQ ⟨w, μ0, [], n⟩ (QD [{ target := .fn (.func f) cap.toArray, args := #[] }] (bodyPostD P fn (fun e w' => ∃ v μ', e = .returned v ∧ Grow w w' μ0 μ' ∧ Post μ' v))) .ret μ l L := fun a w' hs => by
  show Leaves P fn a.tmps _ (a.defers ++ [_]) .returning w'
  rw [hs.defers.none (by simp), List.nil_append]
  refine leaves_cons (by simp) (by simpa [invoke] using entersC hc _ w') ((hq _ w').mono fun e u' w2 he => ?_)
  obtain ⟨⟨v, rfl⟩, rfl, hb⟩ := he
  have hs2 := hs.drop_world hb
  obtain ⟨μ', hg, hle, hL⟩ := hs2.publish
  exact ⟨_, resultsN hr h hl hs2.rd, _, μ', rfl, hg, hp μ' hle hL⟩
theorem pan_D {fn : Func} {n : Nat} {rs : List ResultVar} {vs cap : List Value} {f : FuncId} {μ0 : Mem} {x : Value} {LB LB' Lr : List Bk} {Post : Mem → Value → Prop} (hc : callable P f = true)
    (hq : ∀ w, MOk μ w → Own μ LB w → CallsD P f cap.toArray (.panicking (pan x)) w fun e u' w' => (∃ v, e = .returned v) ∧ u' = .panicking [{ v := x, recovered := true }] ∧ BackM (idsOf LB) w w' μ LB' μ)
    (hr : fn.results = rs.toArray) (h : RVs P μ l (LB' ++ Lr) rs vs) (hl : Nat.beq vs.length 1 = false) (hp : ∀ μ', MLe μ μ' → (∀ x ∈ LB' ++ Lr, Bk.sh x μ') → Post μ' (.tuple vs.toArray)) :
    GQ ⟨w, μ0, [], n⟩ (QD [{ target := .fn (.func f) cap.toArray, args := #[] }] (bodyPostD P fn (fun e w' => ∃ v μ', e = .returned v ∧ Grow w w' μ0 μ' ∧ Post μ' v))) (.panic (pan x)) μ l (LB ++ Lr) := fun a w' hs => by
  show Leaves P fn a.tmps _ (a.defers ++ [_]) (.panicking (pan x)) w'
  rw [hs.defers.none (by simp), List.nil_append]
  have hO : Own μ LB w' := ⟨fun y hy => hs.own y (List.mem_append_left _ hy), fun y hy => hs.priv y (List.mem_append_left _ hy), (List.pairwise_append.1 hs.diff).1⟩
  refine leaves_cons (by simp) (by simpa [invoke] using entersC hc _ w') ((hq w' hs.mem hO).mono fun e u' w2 he => ?_)
  obtain ⟨⟨v, rfl⟩, rfl, hb⟩ := he
  have hs2 := hs.borrow hb
  obtain ⟨μ', hg, hle, hL⟩ := hs2.publish
  exact ⟨_, resultsN hr h hl hs2.rd, _, μ', rfl, hg, hp μ' hle hL⟩
end
end Go.Vcg
namespace Go.Proofs.YtmihpkdhfomcgaaGreatDoor
open Go.RowKit Go.Vcg Ou
abbrev boxR (bp rb bo bl be : Nat) (S : RS3) : List Bk := [.inl ⟨bp, 33, 1, [(0, .pointer (some ⟨rb, 0, none⟩))]⟩, .inl ⟨bo, 27, 8, []⟩, .inl ⟨bl, 3, 1, []⟩, .inl ⟨be, 23, 1, []⟩] ++ rdB rb S
abbrev boxP (bp rb bo bl be : Nat) (S : RS3) (e : Int) : List Bk := [.inl ⟨bp, 33, 1, [(0, .pointer (some ⟨rb, 0, none⟩))]⟩, .inl ⟨bo, 27, 8, [(0, .int .i64 0), (1, .int .i64 0), (2, .int .i64 0), (3, .string ⟨#[]⟩), (4, .slice none 0 0), (5, .slice none 0 0), (6, .int .i64 0), (7, .int .i64 0)]⟩, .inl ⟨bl, 3, 1, [(0, .int .i64 S.2.1)]⟩, .inl ⟨be, 23, 1, [(0, .int .i64 e)]⟩] ++ rdB rb S
theorem quiet_read1 : QuietF Tryz.prog 9 := fun args w => by
  refine callsD_of_wpS Tryz.func9 rfl fun c₀ cs hc => ?_
  have h19 : (19 : Nat) ≤ (args ++ Array.replicate (Tryz.f9.ntmps - args.size) undef).size := by
    have : Tryz.f9.ntmps = 19 := Tryz.ntmps9
    simp [this]; omega
  generalize hT : args ++ Array.replicate (Tryz.f9.ntmps - args.size) undef = T at h19
  have hst : St ⟨w, fun _ => none, [], T.size⟩ (fun _ => none) [] [] { tmps := T, defers := [] } w :=
    ⟨rfl, Marks.nil, (fun t v hv => by simp [lk] at hv), Keep.refl _ _, (fun _ _ h => by cases h), MLe.refl _, fun _ _ _ h => h, by simp, by simp, by simp, List.Pairwise.nil⟩
  have hn : ∀ d, d < 19 → Nat.blt d T.size = true := fun d hd => by rw [Nat.blt, Nat.ble_eq]; omega
  have hrec : recoverD (c₀ :: cs) = none := by simp [recoverD, hc]
  refine wpS_seq (wpS_region ?_)
  refine (show GS Tryz.prog ⟨w, fun _ => none, [], T.size⟩ _ _ (c₀ :: cs) [0, 1, 2, 3, 4, 5, 6, 7] (fun _ => none) [] [] from ?_) _ _ hst
  refine gs_recover rfl (hn _ (by decide)) hrec ?_
  refine gs_val rfl rfl (hn _ (by decide)) rfl (v_assert_nil rfl rfl rfl) ?_
  refine gs_val rfl rfl (hn _ (by decide)) rfl (v_move rfl) ?_
  refine gs_val rfl rfl (hn _ (by decide)) rfl (v_extract (vs := [_, _]) rfl rfl) ?_
  refine gs_val rfl rfl (hn _ (by decide)) rfl (v_extract (vs := [_, _]) rfl rfl) ?_
  refine gs_new rfl rfl (hn _ (by decide)) rfl (n_alloc (cs := [_]) rfl) fun b => ?_
  refine gs_store (vs := [_]) rfl rfl rfl rfl rfl rfl rfl ?_
  refine gs_val rfl rfl (hn _ (by decide)) rfl (v_assign rfl) ?_
  refine gs_nil fun a1 w1 hs1 => ?_
  refine wpS_of_wp ?_
  have hs2 : St ⟨w, fun _ => none, [], T.size⟩ (fun _ => none) [(5, .bool false)] [] a1 w1 := hs1.sub (subS_cons rfl subS_nil) (List.nil_sublist _)
  refine (show GC Tryz.prog ⟨w, fun _ => none, [], T.size⟩ _ _ (fun _ => none) [(5, .bool false)] [] from ?_) a1 w1 hs2
  refine gc_seq (gc_region (g_val rfl (hn _ (by decide)) rfl (v_move rfl) (g_nil (gq_then (gc_cond_false rfl (gc_skip ?_))))))
  intro a2 w2 hs3
  refine ⟨hs3.defers.none (by simp), .returning, ?_, .tuple #[], ?_, ⟨_, rfl⟩, rfl, hs3.keep.below⟩
  · cases c₀; simp at hc; subst hc; rfl
  · simp [results, Tryz.f9]
attribute [local irreducible] G GC GQ GA GAop Calls IntKind.wrap Int.decLt Int.decLe
theorem read1_panic (e : Int) (bp rb bo bl be : Nat) (S : RS3) (w : World) (μ : Mem) (hμ : MOk μ w) (hO : Go.Vcg.Own μ (boxR bp rb bo bl be S) w) :
    CallsD Tryz.prog 9 #[.pointer (some ⟨bp, 0, none⟩), .pointer (some ⟨bo, 0, none⟩), .pointer (some ⟨bl, 0, none⟩), .pointer (some ⟨be, 0, none⟩)] (.panicking (pan (failO e))) w fun en u' w' => (∃ v, en = .returned v) ∧ u' = .panicking [{ v := failO e, recovered := true }] ∧ BackM (idsOf (boxR bp rb bo bl be S)) w w' μ (boxP bp rb bo bl be S e) μ := by
  refine callsD_of_wpS Tryz.func9 rfl fun c₀ cs hc => ?_
  have hn : Tryz.f9.ntmps = 19 := Tryz.ntmps9
  have hst : St ⟨w, μ, idsOf (boxR bp rb bo bl be S), 19⟩ μ (idx 0 [.pointer (some ⟨bp, 0, none⟩), .pointer (some ⟨bo, 0, none⟩), .pointer (some ⟨bl, 0, none⟩), .pointer (some ⟨be, 0, none⟩)]) (boxR bp rb bo bl be S) { tmps := #[.pointer (some ⟨bp, 0, none⟩), .pointer (some ⟨bo, 0, none⟩), .pointer (some ⟨bl, 0, none⟩), .pointer (some ⟨be, 0, none⟩)] ++ Array.replicate (Tryz.f9.ntmps - 4) undef, defers := [] } w := by
    refine ⟨?_, Marks.nil, fun t v hv => ?_, Keep.refl _ _, hμ, MLe.refl _, fun _ _ _ h => h, hO.own, hO.priv, fun x hx b hxb => .inl (mem_idsOf.2 ⟨x, hx, hxb⟩), hO.diff⟩
    · simp [hn]
    · obtain ⟨_, h2⟩ := lk_idx _ _ _ _ hv
      have hlt : t < 4 := by have := (List.getElem?_eq_some_iff.1 h2).1; simpa using this
      simp only [Nat.sub_zero] at h2
      rw [Array.getElem?_append_left (by simpa using hlt)]
      simpa using h2
  have hrec : recoverD (c₀ :: cs) = some (failO e, { c₀ with mode := .panicking [{ v := failO e, recovered := true }] } :: cs) := by
    cases c₀
    simp at hc
    subst hc
    rfl
  refine wpS_seq (wpS_region ?_)
  refine gs_recover_p rfl rfl hrec (fun a w h => by
    obtain ⟨u', ⟨v, h⟩, _⟩ := h
    cases h) ?_ hst
  repeat' (first | refine KO ?_ | (refine KV (b := by first | ((with_reducible apply v_assert_ok); exact rfl; exact rfl)) (c := ?_)) | refine KI ?_ | refine NB fun b => ?_ | ((refine KB ?_ ?_ <;> intro hp)) | refine KG ?_ | fail)
  refine gq_of fun a2 w2 hs2 => ?_
  refine wpS_of_wp ?_
  refine gc_at (show GC Tryz.prog ⟨w, μ, idsOf (boxR bp rb bo bl be S), 19⟩ _ _ μ [(0, .pointer (some ⟨bp, 0, none⟩)), (1, .pointer (some ⟨bo, 0, none⟩)), (2, .pointer (some ⟨bl, 0, none⟩)), (3, .pointer (some ⟨be, 0, none⟩)), (4, .pointer (some ⟨b, 0, none⟩)), (5, .bool true)] [.inl ⟨bp, 33, 1, [(0, .pointer (some ⟨rb, 0, none⟩))]⟩, .inl ⟨bo, 27, 8, []⟩, .inl ⟨bl, 3, 1, []⟩, .inl ⟨be, 23, 1, []⟩, .inl ⟨rb, 35, 3, [(0, .string (ofB S.1)), (1, .int .i64 S.2.1), (2, .string (ofB S.2.2))]⟩, .inl ⟨b, 37, 1, idx 0 [.int .i64 e]⟩] from ?_) (hs2.sel PU PS)
  repeat' (first | refine KK ?_ | refine NB fun b => ?_ | ((refine KB ?_ ?_ <;> intro hp)) | refine KG ?_ | fail)
  refine gc_draw 10 _ (by kernel_rfl) rfl (List.Sublist.cons_cons _ (List.Sublist.cons _ (List.Sublist.cons _ (List.Sublist.cons _ (List.Sublist.cons_cons _ (List.Sublist.cons_cons _ (List.nil_sublist _))))))) ?_
  all_goals refine DD 0 ?_
  all_goals refine DD 1 ?_
  all_goals refine DD 2 ?_
  all_goals refine DD 3 ?_
  all_goals refine DD 4 ?_
  all_goals refine DD 5 ?_
  all_goals refine DD 6 ?_
  all_goals (first | (refine D3 7 ?_; refine D5 ?_; refine Y0 ?_; refine D9 ?_))
  all_goals (first | (refine D3 8 ?_; refine D5 ?_; refine Y0 ?_; refine D9 ?_))
  all_goals (first | (refine D3 9 ?_; refine D5 ?_; refine Y0 ?_; refine D9 ?_))
  all_goals refine D8 ?_
  all_goals
    refine gq_of fun a3 w3 hs3 => ?_
    have hs4 := hs3.sel (l' := []) (L' := boxP bp rb bo bl be S e) PU PS
    have hcnt := ids_count hO.diff
    refine ⟨hs4.defers.none hcnt, _, rfl, .tuple #[], by simp [results, Tryz.f9], ⟨_, rfl⟩, rfl, ⟨hs4.keep.os, hs4.keep.tape, hs4.keep.output, hs4.keep.size, hs4.keep.block, MLe.refl _, hs4.mem, fun _ _ _ h => h⟩, ⟨hs4.own, hs4.priv, hs4.diff⟩, hs4.new⟩
end Go.Proofs.YtmihpkdhfomcgaaGreatDoor
