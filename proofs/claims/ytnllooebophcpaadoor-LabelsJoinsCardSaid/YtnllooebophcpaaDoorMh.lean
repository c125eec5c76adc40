/- Closed runs of package tree's Name; what the machine may take as known. (and what leans on it). No statement of the seat is proved here. -/
import Derived.Test.YtnllooebophcpaaDoorMg
import Derived.KernelRfl
import Derived.Recover
import Derived.Test.YtnllooebophcpaaDoorLc8
import Derived.Test.YtnllooebophcpaaDoorSt
set_option maxRecDepth 20000
set_option maxHeartbeats 2000000
namespace Go.Proofs.YtnllooebophcpaaDoor
open Go.Rex Go.RowKit Go.Vcg
def zz (n : Nat) : List Value := List.replicate n (.int .u8 0)
def asp : List Value := zz 9 ++ List.replicate 5 (.int .u8 1) ++ zz 18 ++ [.int .u8 1] ++ zz 223
def T1 : List (Nat × List Value) := [(0, asp)]
def noMemo : Memo := fun _ _ => none
theorem noMemo_ok (w : World) : MemoOk Tryd.prog w noMemo := fun _ _ _ e => by cases e
theorem mixed : Tryd.prog.follows .mixedOrders = true := by kernel_rfl
theorem name_1 : runF Tryd.prog 1000 noMemo T1 400 47 [.int .i64 (.ofNat 1)] = some (.string ⟨⟨[80, 114, 111, 103, 114, 97, 109]⟩⟩) := by kernel_rfl
theorem name_6 : runF Tryd.prog 1000 noMemo T1 400 47 [.int .i64 (.ofNat 6)] = some (.string ⟨⟨[66, 108, 111, 99, 107]⟩⟩) := by kernel_rfl
theorem name_13 : runF Tryd.prog 1000 noMemo T1 400 47 [.int .i64 (.ofNat 13)] = some (.string ⟨⟨[87, 104, 105, 108, 101]⟩⟩) := by kernel_rfl
theorem name_15 : runF Tryd.prog 1000 noMemo T1 400 47 [.int .i64 (.ofNat 15)] = some (.string ⟨⟨[66, 114, 101, 97, 107]⟩⟩) := by kernel_rfl
theorem name_16 : runF Tryd.prog 1000 noMemo T1 400 47 [.int .i64 (.ofNat 16)] = some (.string ⟨⟨[67, 111, 110, 116, 105, 110, 117, 101]⟩⟩) := by kernel_rfl
theorem name_35 : runF Tryd.prog 1000 noMemo T1 400 47 [.int .i64 (.ofNat 35)] = some (.string ⟨⟨[84, 104, 105, 115]⟩⟩) := by kernel_rfl
def nameOf (k : Nat) : Option Value := match Nat.beq k 1 with
  | true => some (.string ⟨⟨[80, 114, 111, 103, 114, 97, 109]⟩⟩)
  | false => match Nat.beq k 6 with
  | true => some (.string ⟨⟨[66, 108, 111, 99, 107]⟩⟩)
  | false => match Nat.beq k 13 with
  | true => some (.string ⟨⟨[87, 104, 105, 108, 101]⟩⟩)
  | false => match Nat.beq k 15 with
  | true => some (.string ⟨⟨[66, 114, 101, 97, 107]⟩⟩)
  | false => match Nat.beq k 16 with
  | true => some (.string ⟨⟨[67, 111, 110, 116, 105, 110, 117, 101]⟩⟩)
  | false => match Nat.beq k 35 with
  | true => some (.string ⟨⟨[84, 104, 105, 115]⟩⟩)
  | false => none
theorem nameOf_ok {k : Nat} {v : Value} (e : nameOf k = some v) : runF Tryd.prog 1000 noMemo T1 400 47 [.int .i64 (.ofNat k)] = some v := by
  unfold nameOf at e
  split at e
  · rename_i h; rw [Nat.eq_of_beq_eq_true h, ← e]; exact name_1
  · skip
    split at e
    · rename_i h; rw [Nat.eq_of_beq_eq_true h, ← e]; exact name_6
    · skip
      split at e
      · rename_i h; rw [Nat.eq_of_beq_eq_true h, ← e]; exact name_13
      · skip
        split at e
        · rename_i h; rw [Nat.eq_of_beq_eq_true h, ← e]; exact name_15
        · skip
          split at e
          · rename_i h; rw [Nat.eq_of_beq_eq_true h, ← e]; exact name_16
          · skip
            split at e
            · rename_i h; rw [Nat.eq_of_beq_eq_true h, ← e]; exact name_35
            · skip
              cases e
def memoN : Memo := fun f vs => match Nat.beq f 47 with
  | true => match vs with
    | [.int .i64 (.ofNat k)] => nameOf k
    | _ => none
  | false => none
theorem memoN_ok {w : World} (h : TabsOk 1000 w T1) : MemoOk Tryd.prog w memoN := fun f vs v e => by
  unfold memoN at e
  split at e
  · rename_i hf
    have hf := Nat.eq_of_beq_eq_true hf
    subst hf
    split at e
    · rename_i k
      have h1 := nameOf_ok e
      refine ⟨rfl, ?_, fun w' hk => runF_sound mixed (noMemo_ok w') (by decide) (h.keep hk) h1⟩
      unfold runF at h1
      split at h1
      · split at h1
        · rename_i hfl
          split at h1
          · cases h1; exact hfl
          · cases h1
        · cases h1
      · cases h1
    · cases e
  · cases e
end Go.Proofs.YtnllooebophcpaaDoor
namespace Go.Rex
open Go.RowKit
def runFQ (P : Program) (N : Nat) (qs : List FuncId) (memo : Memo) (ts : List (Nat × List Value)) (n : Nat) (f : FuncId) (vs : List Value) : Option Value := match callB P memo (exQ P N qs memo n) f vs (tabs ts) N with
  | some (v, _, _) => match flat2 v with
    | true => match flats vs with
      | true => some v
      | false => none
    | false => none
  | none => none
theorem runFQ_sound {P : Program} {w : World} {N : Nat} (hm : P.follows .mixedOrders = true) {qs : List FuncId} (hq : ∀ f ∈ qs, QuietF P f) {memo : Memo} (hme : MemoOk P w memo) (hN : N ≤ 1048576) {ts : List (Nat × List Value)} (ht : TabsOk N w ts) {n : Nat} {f : FuncId} {vs : List Value} {v : Value} (e : runFQ P N qs memo ts n f vs = some v) :
    Calls P f vs.toArray w fun e w' => e = .returned v ∧ Below w.heap.size w w' := by
  unfold runFQ at e
  split at e
  · rename_i u h2 nx2 hu
    split at e
    · rename_i hf
      split at e
      · rename_i hfs
        cases e
        obtain ⟨hr, hg⟩ := rel_start hN ht
        refine callB_ok hme (exQ_ok hm hq hme n) _ _ _ f vs vs w v h2 nx2 hu hr hg (rvs_flats hfs) _ fun ρ' V w' hev hV hr' => ?_
        have := rv_flat2_eq hf hV
        subst this
        exact ⟨rfl, hr'.keep.below⟩
      · cases e
    · cases e
  · cases e
end Go.Rex
namespace Go.Vcg
open Go.RowKit
def GS (P : Program) (X : Ctx) (ops : Array Oper) (Q : Exit → Act → List Frame → World → Prop) (cs : List Frame) (rest : List Nat) (μ : Mem) (l : Slots) (L : List Bk) : Prop :=
  ∀ a w, St X μ l L a w → wpOpsS P ops Q rest a cs w
section
variable {P : Program} {X : Ctx} {ops : Array Oper} {Q : Exit → Act → List Frame → World → Prop} {cs : List Frame} {rest : List Nat} {μ : Mem} {l : Slots} {L : List Bk} {o : Oper} {i d : Nat}
theorem gs_nil (h : ∀ a w, St X μ l L a w → Q .normal a cs w) : GS P X ops Q cs [] μ l L := fun a w hs => h a w hs
theorem gs_val {v : Value} (ho : ops[i]? = some o) (hd : o.dst = some d) (hn : Nat.blt d X.n = true) (hg : o.guard = none) (hr : Val P μ l L o v) (h : GS P X ops Q cs rest μ ((d, v) :: l) L) : GS P X ops Q cs (i :: rest) μ l L := fun a w hs => by
  unfold wpOpsS
  simp only [ho]
  rw [if_pos (by simp [Region.wanted, hg]), hr a w hs.rd]
  show wpOpsS P ops Q rest (a.put o.dst v) cs w
  rw [hd]
  exact h _ _ (hs.put hn _)
theorem gs_new {v : Nat → Value} {t : TypeId} {cells : List Value} (ho : ops[i]? = some o) (hd : o.dst = some d) (hn : Nat.blt d X.n = true) (hg : o.guard = none) (hr : Alc P μ l L o v t cells) (h : ∀ b, GS P X ops Q cs rest μ ((d, v b) :: l) (.inl ⟨b, t, cells.length, idx 0 cells⟩ :: L)) : GS P X ops Q cs (i :: rest) μ l L := fun a w hs => by
  unfold wpOpsS
  simp only [ho]
  rw [if_pos (by simp [Region.wanted, hg]), hr a w hs.rd]
  show wpOpsS P ops Q rest (a.put o.dst (v w.heap.size)) cs (w.alloc (.cells cells.toArray t))
  rw [hd]
  exact h _ _ _ ((hs.alloc t cells).put hn _)
theorem gs_store {x q : Operand} {t b n bt : Nat} {ty : TypeId} {pos : String} {af : Array Edge} {cells : List Value} {vs : List Value} (ho : ops[i]? = some ⟨none, .store t q x, ty, pos, af, none⟩) (hsz : sizeT P t = some n) (hq : ev l q = some (.pointer (some ⟨b, 0, none⟩))) (hx : ev l x = some (.agg vs.toArray)) (hlen : vs.length = n) (hone : vs.all (·.oneCell') = true) (hcl : cells.length = n)
    (h : GS P X ops Q cs rest μ l L) : GS P X ops Q cs (i :: rest) μ l (.inl ⟨b, bt, n, idx 0 cells⟩ :: L) := fun a w hs => by
  have e0 := hs.eval hq
  have e1 := hs.eval hx
  obtain ⟨arr, hh, hasz, _⟩ := hs.own _ (List.mem_cons_self ..)
  have hasz : arr.size = n := hasz
  have hvl : (Value.agg vs.toArray).cells.toList = vs := by simp [Value.cells]
  have hrow := run_storeCells_at (P := P) b 0 bt vs 0 arr w hh (by omega) (List.all_eq_true.1 hone)
  have hrun : (Instr.storeAt t (.pointer (some ⟨b, 0, none⟩)) (.agg vs.toArray)).run P w = .ok () (w.setRow b (arr.toList.take (0 + 0) ++ vs ++ arr.toList.drop (0 + 0 + vs.length)).toArray) := by
    have hl' : ¬ (Value.agg vs.toArray).cells.size ≠ n := by simp [Value.cells, hlen]
    simp only [Instr.storeAt, Instr.sureAddr, storeVar, Sem.run_bind, Sem.run_pure, Result.andThen_ok, run_sizeOf hsz, if_neg hl', hvl]
    exact hrow
  have hst := hs.setRow (i := 0) (x := ⟨b, bt, n, idx 0 cells⟩) rfl (cs := (arr.toList.take (0 + 0) ++ vs ++ arr.toList.drop (0 + 0 + vs.length)).toArray) (cs' := []) (by simp; omega) (fun k v hv => by simp [lk] at hv)
  unfold wpOpsS
  simp only [ho]
  rw [if_pos (by simp [Region.wanted])]
  generalize hρ : a.eval = ρ at e0 e1
  have hex : (execOp ρ ⟨none, .store t q x, ty, pos, af, none⟩).run P w = .ok .skip (w.setRow b (arr.toList.take (0 + 0) ++ vs ++ arr.toList.drop (0 + 0 + vs.length)).toArray) := by
    simp only [execOp, e0, e1, Sem.run_bind, hrun, Result.andThen_ok]; rfl
  rw [hex]
  exact h a _ (hst.sub (fun _ _ h => h) (List.sublist_cons_self _ _))
theorem gs_recover {ty : TypeId} {pos : String} {af : Array Edge} (ho : ops[i]? = some ⟨some d, .call { callee := .builtin .recover, args := #[], argTypes := #[] }, ty, pos, af, none⟩) (hn : Nat.blt d X.n = true) (hcs : recoverD cs = none) (h : GS P X ops Q cs rest μ ((d, .nilIface) :: l) L) : GS P X ops Q cs (i :: rest) μ l L := fun a w hs => by
  unfold wpOpsS
  simp only [ho]
  rw [if_pos (by simp [Region.wanted])]
  have hr : (execOp a.eval ⟨some d, .call { callee := .builtin .recover, args := #[], argTypes := #[] }, ty, pos, af, none⟩).run P w = .ok .recover w := by
    simp [execOp, resolve, invoke, builtin]
  rw [hr]
  simp only [hcs]
  exact h _ _ (hs.put hn _)
theorem v_assert_nil {x : Operand} {xt t : TypeId} {z : Value} {fs : Array Field} {ds : Option Nat} {ty : TypeId} {pos : String} {af : Array Edge} {gd : Option (Nat × Bool)} (hx : ev l x = some .nilIface) (ht : P.underlying t = some (.struct fs)) (hz : zeroT P t = some z) : Val P μ l L ⟨ds, .typeAssert x xt t true, ty, pos, af, gd⟩ (.tuple #[z, .bool false]) := fun a w hs => by
  have e := hs.eval hx
  generalize a.eval = ρ at e
  simp [execOp, e, Instr.typeAssert, run_underlying ht, run_zeroValue hz]
end
end Go.Vcg
namespace Go.Proofs.YtnllooebophcpaaDoor
open Go.RowKit Go.Vcg Go.Rex
theorem quiet_of1 : QuietF Tryd.prog 14 := fun args w => by
  refine callsD_of_wpS Tryd.func14 rfl fun c₀ cs hc => ?_
  have h16 : (16 : Nat) ≤ (args ++ Array.replicate (Tryd.f14.ntmps - args.size) undef).size := by
    have : Tryd.f14.ntmps = 16 := Tryd.ntmps14
    simp [this]; omega
  generalize hT : args ++ Array.replicate (Tryd.f14.ntmps - args.size) undef = T at h16
  have hst : St ⟨w, fun _ => none, [], T.size⟩ (fun _ => none) [] [] { tmps := T, defers := [] } w :=
    ⟨rfl, Marks.nil, (fun t v hv => by simp [lk] at hv), Keep.refl _ _, (fun _ _ h => by cases h), MLe.refl _, fun _ _ _ h => h, by simp, by simp, by simp, List.Pairwise.nil⟩
  have hn : ∀ d, d < 16 → Nat.blt d T.size = true := fun d hd => by rw [Nat.blt, Nat.ble_eq]; omega
  have hrec : recoverD (c₀ :: cs) = none := by simp [recoverD, hc]
  refine wpS_seq (wpS_region ?_)
  refine (show GS Tryd.prog ⟨w, fun _ => none, [], T.size⟩ _ _ (c₀ :: cs) [0, 1, 2, 3, 4, 5, 6, 7] (fun _ => none) [] [] from ?_) _ _ hst
  refine gs_recover rfl (hn _ (by decide)) hrec ?_
  refine gs_val rfl rfl (hn _ (by decide)) rfl (v_assert_nil rfl rfl rfl) ?_
  refine gs_val rfl rfl (hn _ (by decide)) rfl (v_move rfl) ?_
  refine gs_val rfl rfl (hn _ (by decide)) rfl (v_extract (vs := [_, _]) rfl rfl) ?_
  refine gs_val rfl rfl (hn _ (by decide)) rfl (v_extract (vs := [_, _]) rfl rfl) ?_
  refine gs_new rfl rfl (hn _ (by decide)) rfl (n_alloc (cs := [_, _]) rfl) fun b => ?_
  refine gs_store (vs := [_, _]) rfl rfl rfl rfl rfl rfl rfl ?_
  refine gs_val rfl rfl (hn _ (by decide)) rfl (v_assign rfl) ?_
  refine gs_nil fun a1 w1 hs1 => ?_
  refine wpS_of_wp ?_
  have hs2 : St ⟨w, fun _ => none, [], T.size⟩ (fun _ => none) [(5, .bool false)] [] a1 w1 := hs1.sub (subS_cons rfl subS_nil) (List.nil_sublist _)
  refine (show GC Tryd.prog ⟨w, fun _ => none, [], T.size⟩ _ _ (fun _ => none) [(5, .bool false)] [] from ?_) a1 w1 hs2
  refine gc_seq (gc_region (g_val rfl (hn _ (by decide)) rfl (v_move rfl) (g_nil (gq_then (gc_cond_false rfl (gc_skip ?_))))))
  intro a2 w2 hs3
  refine ⟨hs3.defers.none (by simp), .returning, ?_, .tuple #[], ?_, ⟨_, rfl⟩, rfl, hs3.keep.below⟩
  · cases c₀; simp at hc; subst hc; rfl
  · simp [results, Tryd.f14]
theorem awake_run : runFQ Tryd.prog 1000 [14] memoN T1 400 6 [] = some (.bool true) := by kernel_rfl
theorem awake_spec {w : World} (h : TabsOk 1000 w T1) : Calls Tryd.prog 6 #[] w fun e w' => e = .returned (.bool true) ∧ Below w.heap.size w w' :=
  runFQ_sound mixed (fun f hf => by rw [List.mem_singleton.1 hf]; exact quiet_of1) (memoN_ok h) (by decide) h awake_run
end Go.Proofs.YtnllooebophcpaaDoor
namespace Go.Vcg
open Go.RowKit
section
variable {P : Program} {X : Ctx} {ops : Array Oper} {QS : Exit → Act → List Frame → World → Prop} {cs : List Frame} {μ : Mem} {l : Slots} {L : List Bk} {a : Act} {w : World} {d : Nat}
theorem gs_recover_p {v : Value} {cs' : List Frame} {ty : TypeId} {pos : String} {af : Array Edge} {os : List Oper} (ho : ops.toList = ⟨some d, .call { callee := .builtin .recover, args := #[], argTypes := #[] }, ty, pos, af, none⟩ :: os) (hn : Nat.blt d X.n = true) (hcs : recoverD cs = some (v, cs')) (hno : ∀ a w, ¬QS .outgrown a cs' w)
    (h : G P X ops (fun e a w => QS e a cs' w) os μ ((d, v) :: l) L) (hs : St X μ l L a w) : wpOpsS P ops QS (List.range ops.size) a cs w := by
  have hsz : ops.size = os.length + 1 := by rw [← Array.length_toList, ho]; rfl
  have hget : ∀ j, ops[j]? = (⟨some d, .call { callee := .builtin .recover, args := #[], argTypes := #[] }, ty, pos, af, none⟩ :: os)[j]? := fun j => by rw [← ho, Array.getElem?_toList]
  rw [hsz, List.range_eq_range', List.range'_succ]
  unfold wpOpsS
  have h0 : ops[0]? = some ⟨some d, .call { callee := .builtin .recover, args := #[], argTypes := #[] }, ty, pos, af, none⟩ := hget 0
  simp only [h0]
  rw [if_pos (by simp [Region.wanted])]
  have hr : (execOp a.eval ⟨some d, .call { callee := .builtin .recover, args := #[], argTypes := #[] }, ty, pos, af, none⟩).run P w = .ok .recover w := by
    simp [execOp, resolve, invoke, builtin]
  rw [hr]
  simp only [hcs]
  exact wpOpsS_of_list hno os 1 (fun j => by rw [hget]; simp [Nat.add_comm]) _ _ (h _ _ (hs.put hn _))
theorem gq_of {Q : Exit → Act → World → Prop} {e : Exit} (h : ∀ a w, St X μ l L a w → Q e a w) : GQ X Q e μ l L := h
theorem gc_at {Q : Exit → Act → World → Prop} {c : Code} (h : GC P X c Q μ l L) (hs : St X μ l L a w) : c.wp P Q a w := h a w hs
theorem v_assert_ok {x : Operand} {v : Value} {xt t : TypeId} {fs : Array Field} {ds : Option Nat} {ty : TypeId} {pos : String} {af : Array Edge} {gd : Option (Nat × Bool)} (hx : ev l x = some (.iface t v)) (ht : P.underlying t = some (.struct fs)) : Val P μ l L ⟨ds, .typeAssert x xt t true, ty, pos, af, gd⟩ (.tuple #[v, .bool true]) := fun a w hs => by
  have e := hs.eval hx
  generalize a.eval = ρ at e
  simp [execOp, e, Instr.typeAssert, run_underlying ht]
end
end Go.Vcg
namespace Go.Proofs.YtnllooebophcpaaDoor
open Go.RowKit Go.Vcg Go.Rex
abbrev boxes (bm bj ba be : Nat) : List Bk := [.inl ⟨bm, 27, 1, []⟩, .inl ⟨bj, 28, 1, []⟩, .inl ⟨ba, 3, 1, []⟩, .inl ⟨be, 29, 1, []⟩]
abbrev boxesP (bm bj ba be : Nat) (x : Int × Int) : List Bk := [.inl ⟨bm, 27, 1, [(0, .slice none 0 0)]⟩, .inl ⟨bj, 28, 1, [(0, .slice none 0 0)]⟩, .inl ⟨ba, 3, 1, [(0, .int .i64 x.1)]⟩, .inl ⟨be, 29, 1, [(0, .int .i64 x.2)]⟩]
attribute [local irreducible] G GC GQ GA GAop GI GCI Calls IntKind.wrap Int.decLt Int.decLe
theorem of1_panic (x : Int × Int) (bm bj ba be : Nat) (w : World) (μ : Mem) (hμ : MOk μ w) (hO : Go.Vcg.Own μ (boxes bm bj ba be) w) :
    CallsD Tryd.prog 14 #[.pointer (some ⟨bm, 0, none⟩), .pointer (some ⟨bj, 0, none⟩), .pointer (some ⟨ba, 0, none⟩), .pointer (some ⟨be, 0, none⟩)] (.panicking (pan (failV x))) w fun e u' w' => (∃ v, e = .returned v) ∧ u' = .panicking [{ v := failV x, recovered := true }] ∧ BackM (idsOf (boxes bm bj ba be)) w w' μ (boxesP bm bj ba be x) μ := by
  refine callsD_of_wpS Tryd.func14 rfl fun c₀ cs hc => ?_
  have hn : Tryd.f14.ntmps = 16 := Tryd.ntmps14
  have hst : St ⟨w, μ, idsOf (boxes bm bj ba be), 16⟩ μ (idx 0 [.pointer (some ⟨bm, 0, none⟩), .pointer (some ⟨bj, 0, none⟩), .pointer (some ⟨ba, 0, none⟩), .pointer (some ⟨be, 0, none⟩)]) (boxes bm bj ba be) { tmps := #[.pointer (some ⟨bm, 0, none⟩), .pointer (some ⟨bj, 0, none⟩), .pointer (some ⟨ba, 0, none⟩), .pointer (some ⟨be, 0, none⟩)] ++ Array.replicate (Tryd.f14.ntmps - 4) undef, defers := [] } w := by
    refine ⟨?_, Marks.nil, fun t v hv => ?_, Keep.refl _ _, hμ, MLe.refl _, fun _ _ _ h => h, hO.own, hO.priv, fun x hx b hxb => .inl (mem_idsOf.2 ⟨x, hx, hxb⟩), hO.diff⟩
    · simp [hn]
    · obtain ⟨_, h2⟩ := lk_idx _ _ _ _ hv
      have hlt : t < 4 := by have := (List.getElem?_eq_some_iff.1 h2).1; simpa using this
      simp only [Nat.sub_zero] at h2
      rw [Array.getElem?_append_left (by simpa using hlt)]
      simpa using h2
  have hrec : recoverD (c₀ :: cs) = some (failV x, { c₀ with mode := .panicking [{ v := failV x, recovered := true }] } :: cs) := by
    cases c₀
    simp at hc
    subst hc
    rfl
  refine wpS_seq (wpS_region ?_)
  refine gs_recover_p rfl rfl hrec (fun a w h => by
    obtain ⟨u', ⟨v, h⟩, _⟩ := h
    cases h) ?_ hst
  repeat' (first | refine KO ?_ | (refine KV (b := by first | ((with_reducible apply v_assert_ok); exact rfl; exact rfl)) (c := ?_)) | refine KI ?_ | refine NB fun b => ?_ | ((refine KB ?_ ?_ <;> intro hp)) | refine KG ?_ | fail)
  refine gq_of fun a2 w2 hs2 => ?_
  refine wpS_of_wp ?_
  refine gc_at (show GC Tryd.prog ⟨w, μ, idsOf (boxes bm bj ba be), 16⟩ _ _ μ [(0, .pointer (some ⟨bm, 0, none⟩)), (1, .pointer (some ⟨bj, 0, none⟩)), (2, .pointer (some ⟨ba, 0, none⟩)), (3, .pointer (some ⟨be, 0, none⟩)), (4, .pointer (some ⟨b, 0, none⟩)), (5, .bool true)] [.inl ⟨bm, 27, 1, []⟩, .inl ⟨bj, 28, 1, []⟩, .inl ⟨ba, 3, 1, []⟩, .inl ⟨be, 29, 1, []⟩, .inl ⟨b, 41, 2, idx 0 [.int .i64 x.1, .int .i64 x.2]⟩] from ?_) (hs2.sel PU PS)
  repeat' (first | refine KK ?_ | refine NB fun b => ?_ | ((refine KB ?_ ?_ <;> intro hp)) | refine KG ?_ | fail)
  refine gc_draw 8 _ (by kernel_rfl) rfl (List.Sublist.cons _ (List.Sublist.cons _ (List.Sublist.cons _ (List.Sublist.cons _ (List.Sublist.cons_cons _ (List.nil_sublist _)))))) ?_
  all_goals refine DD 0 ?_
  all_goals refine DD 1 ?_
  all_goals refine DD 2 ?_
  all_goals refine DD 3 ?_
  all_goals (first | (refine D3 4 ?_; refine D5 ?_; refine Y0 ?_; refine D9 ?_))
  all_goals (first | (refine D3 5 ?_; refine D5 ?_; refine Y0 ?_; refine D9 ?_))
  all_goals (first | (refine D3 6 ?_; refine D5 ?_; refine Y0 ?_; refine D9 ?_))
  all_goals (first | (refine D3 7 ?_; refine D5 ?_; refine Y0 ?_; refine D9 ?_))
  all_goals refine D8 ?_
  all_goals
    refine gq_of fun a3 w3 hs3 => ?_
    have hs4 := hs3.sel (l' := []) (L' := boxesP bm bj ba be x) PU PS
    have hcnt := ids_count hO.diff
    refine ⟨hs4.defers.none hcnt, _, rfl, .tuple #[], by simp [results, Tryd.f14], ⟨_, rfl⟩, rfl, ⟨hs4.keep.os, hs4.keep.tape, hs4.keep.output, hs4.keep.size, hs4.keep.block, MLe.refl _, hs4.mem, fun _ _ _ h => h⟩, ⟨hs4.own, hs4.priv, hs4.diff⟩, hs4.new⟩
end Go.Proofs.YtnllooebophcpaaDoor
