/- The law EarlyTwice walked: its first two statements for any ints, the rest by closed runs. No statement of the seat is proved here. -/
import Derived.Test.YtimghlognaajkaaDoorEa4
import Derived.Test.YtimghlognaajkaaDoorEa5
import Derived.Test.YtimghlognaajkaaDoorEa6
set_option maxRecDepth 20000
namespace Go.Proofs.YtimghlognaajkaaDoor
open Go.RowKit Go.Vcg
set_option maxRecDepth 20000

/-- x & 1 -/
def an1 (x : Int) : Int := IntKind.i64.wrap ((BitVec.ofInt 64 x &&& BitVec.ofInt 64 1).toNat : Int)
theorem an1_01 (x : Int) : an1 x = 0 ∨ an1 x = 1 := by
  unfold an1
  have h : (BitVec.ofInt 64 x &&& BitVec.ofInt 64 1).toNat ≤ 1 := by
    rw [BitVec.toNat_and]
    exact Nat.le_trans Nat.and_le_right (by decide)
  generalize (BitVec.ofInt 64 x &&& BitVec.ofInt 64 1).toNat = n at h
  have : n = 0 ∨ n = 1 := by omega
  rcases this with rfl | rfl
  · left; decide
  · right; decide
section
variable {P : Program} {X : Ctx} {μ : Mem} {l : Slots} {L : List Bk}
variable {ty : TypeId} {pos : String} {af : Array Edge} {gd : Option (Nat × Bool)} {ds : Option Nat}
theorem v_andq {p q : Operand} {t t2 : TypeId} {k : IntKind} {x y : Int} (hx0 : ev l p = some (.int k x)) (hx1 : ev l q = some (.int k y)) : Val P μ l L ⟨ds, .binOp .and t p q t2, ty, pos, af, gd⟩ (.int k (k.wrap ((BitVec.ofInt k.bits x &&& BitVec.ofInt k.bits y).toNat : Int))) :=
  fun a w hs => by have e0 := hs.eval hx0; have e1 := hs.eval hx1; generalize a.eval = ρ at e0 e1; simp [execOp, e0, e1, eqGuard, binOp, Op.intBits]
theorem v_and1 {p : Operand} {t t2 : TypeId} {x : Int} (hx0 : ev l p = some (.int .i64 x)) : Val P μ l L ⟨ds, .binOp .and t p (.const (.int .i64 1)) t2, ty, pos, af, gd⟩ (.int .i64 (an1 x)) := v_andq hx0 rfl
theorem v_shr1 {p : Operand} {t t2 : TypeId} {x : Int} (hx0 : ev l p = some (.int .i64 x)) : Val P μ l L ⟨ds, .binOp .shr t p (.const (.int .u64 1)) t2, ty, pos, af, gd⟩ (.int .i64 (x.fdiv 2)) :=
  fun a w hs => by have e0 := hs.eval hx0; have e1 : a.eval (.const (.int .u64 1)) = .int .u64 1 := rfl; generalize a.eval = ρ at e0 e1; simp [execOp, e0, e1, eqGuard, binOp, Op.shift]; rfl
theorem v_add01 {p q : Operand} {t t2 : TypeId} {x y : Int} (hx0 : ev l p = some (.int .i64 (an1 x))) (hx1 : ev l q = some (.int .i64 (an1 y))) : Val P μ l L ⟨ds, .binOp .add t p q t2, ty, pos, af, gd⟩ (.int .i64 (an1 x + an1 y)) :=
  v_add_i hx0 hx1 (by rcases an1_01 x with h | h <;> rcases an1_01 y with h' | h' <;> rw [h, h'] <;> decide)
theorem gc_mid {P : Program} {X : Ctx} {Q : Exit → Act → World → Prop} {x y : Code} {μ : Mem} {l : Slots} {L : List Bk} (μ1 : Mem) (l1 : Slots) (L1 : List Bk) (h1 : ∀ Q', GQ X Q' .normal μ1 l1 L1 → GC P X x Q' μ l L) (h2 : GC P X y Q μ1 l1 L1) : GC P X (.seq x y) Q μ l L :=
  gc_seq (h1 _ (gq_then h2))
end
theorem three {x y : Int} : an1 x + an1 y = 0 ∨ an1 x + an1 y = 1 ∨ an1 x + an1 y = 2 := by
  rcases an1_01 x with h | h <;> rcases an1_01 y with h' | h' <;> rw [h, h'] <;> decide
theorem gq_sub {X : Ctx} {Q : Exit → Act → World → Prop} {e : Exit} {μ : Mem} {l l1 : Slots} {L L1 : List Bk} (hq : GQ X Q e μ l1 L1) (hl : SubS l1 l) (hL : L1.Sublist L) : GQ X Q e μ l L := fun a w hs => hq a w (hs.sub hl hL)
theorem ok3 {l : Slots} {a b c : Nat} {x y z : Value} (h1 : lk l a = some x) (f1 : Rex.flat2 x = true) (h2 : lk l b = some y) (f2 : Rex.flat2 y = true) (h3 : lk l c = some z) (f3 : Rex.flat2 z = true) : Rex.okSlots l [(a, x), (b, y), (c, z)] := ⟨h1, f1, h2, f2, h3, f3, trivial⟩
attribute [local irreducible] G GC GQ GA GAop Calls IntKind.wrap Int.decLt Int.decLe
theorem twice_walk (w : World) (μ : Mem) (hμ : MOk μ w) (hT : TabW w) (x y : Int) (i : Bool) :
    Calls Tryd.prog 3 #[.int .i64 x, .int .i64 y, .bool i] w fun e w' => e = .returned (.bool true) ∧ Below w.heap.size w w' := by
  refine call_intro (args := [.int .i64 x, .int .i64 y, .bool i]) Tryd.func3 rfl Tryd.ntmps3 (by simp) hμ ?_
  refine gc_mid μ [(0, .int .i64 x), (1, .int .i64 y), (2, .bool i)] [] (fun Q' hq => ?_) ?_
  · repeat' (first | (with_reducible (first | apply gc_seq | apply gc_region | apply g_nil | apply gq_then | apply gc_block | apply gc_exit | apply gc_ret | apply gc_skip | apply gq_then_exit | apply gq_then_ret | apply gq_block_same | apply gq_block_normal | apply gq_block_ret)) | ((with_reducible apply g_p); exact rfl) | ((with_reducible apply gc_if); exact rfl) | (with_reducible (first | apply pif_t | apply pif_f | apply pif_not)) | ((with_reducible apply pif_decT); (first | omega | with_reducible assumption | with_reducible rfl)) | ((with_reducible apply pif_decF); (first | omega | with_reducible assumption | with_reducible exact ne_self_f _)) | (((with_reducible apply pif_tt); exact rfl)) | (((with_reducible apply pif_ff); exact rfl)) | (with_reducible (first | refine pif_dec (fun hp => ?_) (fun hp => ?_) | refine pif_b (fun hp => ?_) (fun hp => ?_))) | ((with_reducible apply g_ar); exact rfl; omega) | ((with_reducible apply g_ld); exact rfl; exact rfl; (repeat first | with_reducible exact inb_hd | with_reducible apply inb_tl); exact rfl) | ((with_reducible apply g_v); exact rfl; (first | ((with_reducible apply arB_sound); exact rfl; omega) | ((with_reducible apply v_aggeql); exact rfl; exact rfl; exact rfl; kernel_rfl; kernel_rfl; kernel_rfl; kernel_rfl))) | ((with_reducible apply g_nw); exact rfl; exact rfl; exact rfl; intro b) | ((with_reducible apply g_bs); exact rfl; exact rfl; exact rfl; intro b) | ((with_reducible apply g_st); exact rfl; exact rfl; (repeat first | with_reducible exact ones_nil | ((with_reducible apply ones_cons); (first | exact rfl | assumption))); (repeat first | with_reducible apply upb_hd | with_reducible apply upb_tl); exact rfl; (repeat first | with_reducible exact pc_nil | with_reducible apply pc_cons)) | ((with_reducible apply gq_block_other); exact rfl) | ((with_reducible apply g_if); exact rfl; (fail_if_success (with_reducible show NLit true)); (fail_if_success (with_reducible show NLit false)); exact nLit _))
    exact gq_sub hq (by repeat first | exact subS_nil | refine subS_cons rfl ?_) (List.nil_sublist _)
  refine gc_mid μ [(0, .int .i64 (an1 x + an1 (x.fdiv 2))), (1, .int .i64 (an1 y + an1 (y.fdiv 2))), (2, .bool i)] [] (fun Q' hq => ?_) ?_
  · repeat' (first | (with_reducible (first | apply gc_seq | apply gc_region | apply g_nil | apply gq_then | apply gc_block | apply gc_exit | apply gc_ret | apply gc_skip | apply gq_then_exit | apply gq_then_ret | apply gq_block_same | apply gq_block_normal | apply gq_block_ret)) | ((with_reducible apply g_p); exact rfl) | ((with_reducible apply gc_if); exact rfl) | (with_reducible (first | apply pif_t | apply pif_f | apply pif_not)) | ((with_reducible apply pif_decT); (first | omega | with_reducible assumption | with_reducible rfl)) | ((with_reducible apply pif_decF); (first | omega | with_reducible assumption | with_reducible exact ne_self_f _)) | (((with_reducible apply pif_tt); exact rfl)) | (((with_reducible apply pif_ff); exact rfl)) | (with_reducible (first | refine pif_dec (fun hp => ?_) (fun hp => ?_) | refine pif_b (fun hp => ?_) (fun hp => ?_))) | ((with_reducible apply g_ar); exact rfl; omega) | ((with_reducible apply g_ld); exact rfl; exact rfl; (repeat first | with_reducible exact inb_hd | with_reducible apply inb_tl); exact rfl) | ((with_reducible apply g_v); exact rfl; (first | ((with_reducible apply v_and1); exact rfl) | ((with_reducible apply v_shr1); exact rfl) | ((with_reducible apply v_add01); exact rfl; exact rfl) | ((with_reducible apply arB_sound); exact rfl; omega) | ((with_reducible apply v_aggeql); exact rfl; exact rfl; exact rfl; kernel_rfl; kernel_rfl; kernel_rfl; kernel_rfl))) | ((with_reducible apply g_nw); exact rfl; exact rfl; exact rfl; intro b) | ((with_reducible apply g_bs); exact rfl; exact rfl; exact rfl; intro b) | ((with_reducible apply g_st); exact rfl; exact rfl; (repeat first | with_reducible exact ones_nil | ((with_reducible apply ones_cons); (first | exact rfl | assumption))); (repeat first | with_reducible apply upb_hd | with_reducible apply upb_tl); exact rfl; (repeat first | with_reducible exact pc_nil | with_reducible apply pc_cons)) | ((with_reducible apply gq_block_other); exact rfl) | ((with_reducible apply g_if); exact rfl; (fail_if_success (with_reducible show NLit true)); (fail_if_success (with_reducible show NLit false)); exact nLit _))
    exact gq_sub hq (by repeat first | exact subS_nil | refine subS_cons rfl ?_) (List.nil_sublist _)
  generalize hA : an1 x + an1 (x.fdiv 2) = A
  generalize hB : an1 y + an1 (y.fdiv 2) = B
  have h1 : A = 0 ∨ A = 1 ∨ A = 2 := hA ▸ three
  have h2 : B = 0 ∨ B = 1 ∨ B = 2 := hB ▸ three
  have go : ∀ {A B : Int} {i : Bool}, Rex.runG Tryd.prog 1000 memoL T1 400 (restOf (Rex.nth Tryd.prog.funcs.toList 3)) 76 [(0, .int .i64 A), (1, .int .i64 B), (2, .bool i)] [.tmp 6] = some (.bool true) →
      GC Tryd.prog ⟨w, μ, [], 76⟩ (restOf (Rex.nth Tryd.prog.funcs.toList 3)) (bodyPost Tryd.prog Tryd.f3 (fun e w' => e = .returned (.bool true) ∧ Below w.heap.size w w')) μ [(0, .int .i64 A), (1, .int .i64 B), (2, .bool i)] [] := fun e =>
    Rex.gc_run mixed (by decide) (fun w' hk => ⟨(hT.keep hk).tab, memoL_ok (hT.keep hk)⟩) rfl (by kernel_rfl) (ok3 rfl rfl rfl rfl rfl rfl) e
  have hrest : ∀ {c : Code} {Q : Exit → Act → World → Prop} {l : Slots}, c = (restOf (Rex.nth Tryd.prog.funcs.toList 3)) → GC Tryd.prog ⟨w, μ, [], 76⟩ (restOf (Rex.nth Tryd.prog.funcs.toList 3)) Q μ l [] → GC Tryd.prog ⟨w, μ, [], 76⟩ c Q μ l [] := fun e h => e ▸ h
  refine hrest (by kernel_rfl) ?_
  rcases h1 with rfl | rfl | rfl <;> rcases h2 with rfl | rfl | rfl <;> cases i
  · exact go run_0_0_false
  · exact go run_0_0_true
  · exact go run_0_1_false
  · exact go run_0_1_true
  · exact go run_0_2_false
  · exact go run_0_2_true
  · exact go run_1_0_false
  · exact go run_1_0_true
  · exact go run_1_1_false
  · exact go run_1_1_true
  · exact go run_1_2_false
  · exact go run_1_2_true
  · exact go run_2_0_false
  · exact go run_2_0_true
  · exact go run_2_1_false
  · exact go run_2_1_true
  · exact go run_2_2_false
  · exact go run_2_2_true
end Go.Proofs.YtimghlognaajkaaDoor
