/- The example of the specification; the guard; the reference's Type, Truth, Prim. -/
import Derived.Test.YtlhmgadmolojmaaDoorEq1
set_option maxRecDepth 20000
namespace Go.Proofs.YtlhmgadmolojmaaDoor
open Go.RowKit Go.Vcg

theorem exLoose1 : looseF ⟨5, 0, ⟨#[32, 49, 32]⟩⟩ ⟨2, 1, noS⟩ = (true, true) := by decide +kernel
theorem exLoose2 : looseF ⟨5, 0, ⟨#[97]⟩⟩ nanV = (false, true) := by decide +kernel
def oddF (v : V) : Bool := decide (v.k < 0) || decide (7 < v.k)

attribute [local irreducible] G GC GQ GA GAop Calls IntKind.wrap Int.decLt Int.decLe
section
variable (w : World) (μ : Mem) (hμ : MOk μ w)
include hμ
theorem exl1 : Calls Tryd.prog 14 #[.agg (encV ⟨5, 0, ⟨#[32, 49, 32]⟩⟩).toArray, .agg (encV ⟨2, 1, noS⟩).toArray] w fun e w' => e = .returned (.tuple #[.bool true, .bool true]) ∧ Below w.heap.size w w' := by
  have := loose_spec w μ hμ ⟨5, 0, ⟨#[32, 49, 32]⟩⟩ ⟨2, 1, noS⟩ (by decide) (by decide)
  rw [exLoose1] at this
  exact this
theorem exl2 : Calls Tryd.prog 14 #[.agg (encV ⟨5, 0, ⟨#[97]⟩⟩).toArray, .agg (encV nanV).toArray] w fun e w' => e = .returned (.tuple #[.bool false, .bool true]) ∧ Below w.heap.size w w' := by
  have := loose_spec w μ hμ ⟨5, 0, ⟨#[97]⟩⟩ nanV (by decide) (by decide)
  rw [exLoose2] at this
  exact this
theorem exs1 : Calls Tryd.prog 13 #[.agg (encV nanV).toArray, .agg (encV nanV).toArray] w fun e w' => e = .returned (.bool false) ∧ Below w.heap.size w w' :=
  strict_spec w μ hμ nanV nanV
def shortF (a b : V) : Bool := decide (a.s.size ≤ 1000) && decide (b.s.size ≤ 1000)
theorem refPrim_spec (v : V) : Calls Tryd.prog 7 #[.agg (encV v).toArray] w fun e w' => e = .returned (.bool (primF v)) ∧ Below w.heap.size w w' := by
  refine call_intro Tryd.func7 rfl Tryd.ntmps7 (by simp) hμ ?_
  repeat' (first | (with_reducible (first | apply gc_seq | apply gc_region | apply g_nil | apply gq_then | apply gc_block | apply gc_exit | apply gc_ret | apply gc_skip | apply gq_then_exit | apply gq_then_ret | apply gq_block_same | apply gq_block_normal | apply gq_block_ret)) | ((with_reducible apply g_p); exact rfl) | ((with_reducible apply gc_if); exact rfl) | (with_reducible (first | apply pif_t | apply pif_f | apply pif_not)) | ((with_reducible apply pif_decT); (first | omega | with_reducible assumption | with_reducible rfl)) | ((with_reducible apply pif_decF); (first | omega | with_reducible assumption | with_reducible exact ne_self_f _)) | (((with_reducible apply pif_tt); exact rfl)) | (((with_reducible apply pif_ff); exact rfl)) | (with_reducible (first | refine pif_dec (fun hp => ?_) (fun hp => ?_) | refine pif_b (fun hp => ?_) (fun hp => ?_))) | ((with_reducible apply g_ld); exact rfl; exact rfl; (repeat first | with_reducible exact inb_hd | with_reducible apply inb_tl); exact rfl) | ((with_reducible apply g_v); exact rfl; (first | ((with_reducible apply v_field_n); exact rfl; exact rfl))) | ((with_reducible apply g_nw); exact rfl; exact rfl; exact rfl; intro b) | ((with_reducible apply gq_block_other); exact rfl) | ((with_reducible apply g_if); exact rfl; (fail_if_success (with_reducible show NLit true)); (fail_if_success (with_reducible show NLit false)); exact nLit _))
  all_goals refine ret_s rfl rfl ?_
  all_goals unfold primF
  all_goals (simp; omega)
end
end Go.Proofs.YtlhmgadmolojmaaDoor
