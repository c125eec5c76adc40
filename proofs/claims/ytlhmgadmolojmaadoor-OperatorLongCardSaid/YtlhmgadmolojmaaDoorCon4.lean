/- convert.Text, Key, Int and the reference's Text, Num, Key, Int: their contracts. -/
import Derived.Test.YtlhmgadmolojmaaDoorCon3
import Derived.Test.YtlhmgadmolojmaaDoorVm
import Derived.Test.YtlhmgadmolojmaaDoorNumRef5
import Derived.Lib.ItoaLen
set_option maxRecDepth 20000
namespace Go.Proofs.YtlhmgadmolojmaaDoor
open Go.RowKit Go.Vcg
def conKeyF (v : V) : V × Int := if v.k = 6 then (⟨2, v.n, noS⟩, 0) else if (conTextF v).2 ≠ 0 then (⟨0, 0, noS⟩, (conTextF v).2) else (wordF (conTextF v).1, 0)
def conIntF (v : V) : Int × Bool := ((conNumF v).1.n, decide ((conNumF v).2 = 0))
theorem textF_len (v : V) : (textF v).size ≤ 21 := by
  unfold textF
  split
  · rename_i h
    have hn := wholeF_n h
    have := Lib.itoa_length_le v.n (by omega) (by omega)
    simpa [ByteArray.size] using this
  · decide
theorem conTextF_len (v : V) (h : v.s.size ≤ 65536) : (conTextF v).1.size ≤ 65536 := by
  have := textF_len v
  unfold conTextF
  repeat' split
  all_goals first | decide | (show (textF v).size ≤ 65536; omega) | exact h | (show (⟨#[]⟩ : ByteArray).size ≤ 65536; decide)
theorem conNum_no {v : V} (h : (conNumF v).2 ≠ 0) : (conNumF v).1.n = 0 := by
  unfold conNumF at *
  repeat' split at h
  all_goals first | exact absurd rfl h | skip
  all_goals simp_all
theorem conNum_why (v : V) (h0 : ¬ v.k = 0) (h1 : ¬ v.k = 1) (h2 : ¬ v.k = 2) (h3 : ¬ (v.k = 3 ∨ v.k = 4)) (h5 : ¬ v.k = 5) : (conTextF v).2 = whyF v := by
  unfold conTextF
  rw [if_neg h0, if_neg h1, if_neg h2, if_neg h3, if_neg h5]
attribute [local irreducible] G GC GQ GA GAop Calls IntKind.wrap Int.decLt Int.decLe bAt
section
variable (w : World) (μ : Mem) (hμ : MOk μ w)
include hμ
end
section
variable (w : World) (μ : Mem) (hμ : MOk μ w) (ht : TabOk μ)
include hμ ht
theorem conText_spec (v : V) : Calls Tryd.prog 26 #[.agg (encV v).toArray] w fun e w' => e = .returned (.tuple #[.string (conTextF v).1, .int .i64 (conTextF v).2]) ∧ Below w.heap.size w w' := by
  refine call_intro Tryd.func26 rfl Tryd.ntmps26 (by simp) hμ ?_
  unfold conTextF
  cases hb : decide (v.n ≠ 0)
  · have hn := of_decide_eq_false hb
    repeat' (first | (with_reducible (first | apply gc_seq | apply gc_region | apply g_nil | apply gq_then | apply gc_block | apply gc_exit | apply gc_ret | apply gc_skip | apply gq_then_exit | apply gq_then_ret | apply gq_block_same | apply gq_block_normal | apply gq_block_ret)) | ((with_reducible apply g_p); exact rfl) | ((with_reducible show G _ _ _ _ (Oper.mk _ (Op.call (Call.mk (Callee.value (Operand.func 40)) _ _)) _ _ _ _ :: _) _ _ _); (with_reducible apply g_enter_s); exact rfl; exact rfl; exact rfl; (first | ((with_reducible apply e_call1); kernel_rfl; exact rfl)); exact fun w μc hw hse => text_spec w μc hw (ht.mono hse.le) v) | ((with_reducible show G _ _ _ _ (Oper.mk _ (Op.call (Call.mk (Callee.value (Operand.func 38)) _ _)) _ _ _ _ :: _) _ _ _); (with_reducible apply g_enter_s); exact rfl; exact rfl; exact rfl; (first | ((with_reducible apply e_call1); kernel_rfl; exact rfl)); exact fun w μc hw hse => cwhy_spec w μc hw v) | ((with_reducible apply gc_if); exact rfl) | (with_reducible (first | apply pif_t | apply pif_f | apply pif_not)) | ((with_reducible apply pif_decT); (first | omega | with_reducible assumption | with_reducible rfl)) | ((with_reducible apply pif_decF); (first | omega | with_reducible assumption | with_reducible exact ne_self_f _)) | (((with_reducible apply pif_tt); exact rfl)) | (((with_reducible apply pif_ff); exact rfl)) | (with_reducible (first | refine pif_dec (fun hp => ?_) (fun hp => ?_) | refine pif_b (fun hp => ?_) (fun hp => ?_))) | ((with_reducible apply g_ld); exact rfl; exact rfl; (repeat first | with_reducible exact inb_hd | with_reducible apply inb_tl); exact rfl) | ((with_reducible apply g_v); exact rfl; (first | ((with_reducible apply v_lookup); exact rfl; exact rfl; exact rfl; exact rfl; exact trivial; (with_reducible exact inm_hd); (rw [hb]; exact rfl)) | ((with_reducible apply v_field_n); exact rfl; exact rfl) | ((with_reducible apply v_aggeql); exact rfl; exact rfl; exact rfl; kernel_rfl; kernel_rfl; kernel_rfl; kernel_rfl) | ((with_reducible apply v_aggneq); exact rfl; exact rfl; exact rfl; kernel_rfl; kernel_rfl; kernel_rfl; kernel_rfl) | ((with_reducible apply v_lookup); exact rfl; exact rfl; exact rfl; exact rfl; (first | exact trivial | exact rfl); (repeat first | with_reducible exact inm_hd | with_reducible apply inm_tl); exact rfl) | ((with_reducible apply v_lookup2); exact rfl; exact rfl; exact rfl; exact rfl; (first | exact trivial | exact rfl); (repeat first | with_reducible exact inm_hd | with_reducible apply inm_tl); exact rfl))) | ((with_reducible apply g_nw); exact rfl; exact rfl; exact rfl; intro b) | ((with_reducible apply g_mkmap); exact rfl; exact rfl; intro b) | ((with_reducible apply g_mapset); (first | exact .inl rfl | exact .inr rfl); (iterate 6 exact rfl); (first | exact trivial | exact rfl); (repeat first | with_reducible exact upm_hd | with_reducible apply upm_tl); exact rfl) | ((with_reducible apply gq_block_other); exact rfl) | ((with_reducible apply g_if); exact rfl; (fail_if_success (with_reducible show NLit true)); (fail_if_success (with_reducible show NLit false)); exact nLit _))
    all_goals repeat (first | rw [if_pos (show v.k = 0 by omega)] | rw [if_neg (show ¬ v.k = 0 by omega)] | rw [if_pos (show v.k = 1 by omega)] | rw [if_neg (show ¬ v.k = 1 by omega)] | rw [if_pos (show v.k = 2 by omega)] | rw [if_neg (show ¬ v.k = 2 by omega)] | rw [if_pos (show v.k = 5 by omega)] | rw [if_neg (show ¬ v.k = 5 by omega)] | rw [if_pos (show v.k = 6 by omega)] | rw [if_neg (show ¬ v.k = 6 by omega)] | rw [if_pos (show v.k = 3 ∨ v.k = 4 by omega)] | rw [if_neg (show ¬ (v.k = 3 ∨ v.k = 4) by omega)] | rw [if_pos (show v.n ≠ 0 by omega)] | rw [if_neg (show ¬ v.n ≠ 0 by omega)])
    all_goals first | exact ret_v2 rfl (by first | exact rv_tmp rfl | exact (rv_agg 0 rfl rfl rfl rfl rfl (by repeat first | exact lc_nil | refine lc_cons rfl ?_)) | exact (rv_agg 1 rfl rfl rfl rfl rfl (by repeat first | exact lc_nil | refine lc_cons rfl ?_)) | exact (rv_agg 2 rfl rfl rfl rfl rfl (by repeat first | exact lc_nil | refine lc_cons rfl ?_)) | exact (rv_agg 3 rfl rfl rfl rfl rfl (by repeat first | exact lc_nil | refine lc_cons rfl ?_))) (by first | exact rv_tmp rfl | exact (rv_agg 0 rfl rfl rfl rfl rfl (by repeat first | exact lc_nil | refine lc_cons rfl ?_)) | exact (rv_agg 1 rfl rfl rfl rfl rfl (by repeat first | exact lc_nil | refine lc_cons rfl ?_)) | exact (rv_agg 2 rfl rfl rfl rfl rfl (by repeat first | exact lc_nil | refine lc_cons rfl ?_)) | exact (rv_agg 3 rfl rfl rfl rfl rfl (by repeat first | exact lc_nil | refine lc_cons rfl ?_))) rfl rfl | trace_state
    done
  · have hn := of_decide_eq_true hb
    repeat' (first | (with_reducible (first | apply gc_seq | apply gc_region | apply g_nil | apply gq_then | apply gc_block | apply gc_exit | apply gc_ret | apply gc_skip | apply gq_then_exit | apply gq_then_ret | apply gq_block_same | apply gq_block_normal | apply gq_block_ret)) | ((with_reducible apply g_p); exact rfl) | ((with_reducible show G _ _ _ _ (Oper.mk _ (Op.call (Call.mk (Callee.value (Operand.func 40)) _ _)) _ _ _ _ :: _) _ _ _); (with_reducible apply g_enter_s); exact rfl; exact rfl; exact rfl; (first | ((with_reducible apply e_call1); kernel_rfl; exact rfl)); exact fun w μc hw hse => text_spec w μc hw (ht.mono hse.le) v) | ((with_reducible show G _ _ _ _ (Oper.mk _ (Op.call (Call.mk (Callee.value (Operand.func 38)) _ _)) _ _ _ _ :: _) _ _ _); (with_reducible apply g_enter_s); exact rfl; exact rfl; exact rfl; (first | ((with_reducible apply e_call1); kernel_rfl; exact rfl)); exact fun w μc hw hse => cwhy_spec w μc hw v) | ((with_reducible apply gc_if); exact rfl) | (with_reducible (first | apply pif_t | apply pif_f | apply pif_not)) | ((with_reducible apply pif_decT); (first | omega | with_reducible assumption | with_reducible rfl)) | ((with_reducible apply pif_decF); (first | omega | with_reducible assumption | with_reducible exact ne_self_f _)) | (((with_reducible apply pif_tt); exact rfl)) | (((with_reducible apply pif_ff); exact rfl)) | (with_reducible (first | refine pif_dec (fun hp => ?_) (fun hp => ?_) | refine pif_b (fun hp => ?_) (fun hp => ?_))) | ((with_reducible apply g_ld); exact rfl; exact rfl; (repeat first | with_reducible exact inb_hd | with_reducible apply inb_tl); exact rfl) | ((with_reducible apply g_v); exact rfl; (first | ((with_reducible apply v_lookup); exact rfl; exact rfl; exact rfl; exact rfl; exact trivial; (with_reducible exact inm_hd); (rw [hb]; exact rfl)) | ((with_reducible apply v_field_n); exact rfl; exact rfl) | ((with_reducible apply v_aggeql); exact rfl; exact rfl; exact rfl; kernel_rfl; kernel_rfl; kernel_rfl; kernel_rfl) | ((with_reducible apply v_aggneq); exact rfl; exact rfl; exact rfl; kernel_rfl; kernel_rfl; kernel_rfl; kernel_rfl) | ((with_reducible apply v_lookup); exact rfl; exact rfl; exact rfl; exact rfl; (first | exact trivial | exact rfl); (repeat first | with_reducible exact inm_hd | with_reducible apply inm_tl); exact rfl) | ((with_reducible apply v_lookup2); exact rfl; exact rfl; exact rfl; exact rfl; (first | exact trivial | exact rfl); (repeat first | with_reducible exact inm_hd | with_reducible apply inm_tl); exact rfl))) | ((with_reducible apply g_nw); exact rfl; exact rfl; exact rfl; intro b) | ((with_reducible apply g_mkmap); exact rfl; exact rfl; intro b) | ((with_reducible apply g_mapset); (first | exact .inl rfl | exact .inr rfl); (iterate 6 exact rfl); (first | exact trivial | exact rfl); (repeat first | with_reducible exact upm_hd | with_reducible apply upm_tl); exact rfl) | ((with_reducible apply gq_block_other); exact rfl) | ((with_reducible apply g_if); exact rfl; (fail_if_success (with_reducible show NLit true)); (fail_if_success (with_reducible show NLit false)); exact nLit _))
    all_goals repeat (first | rw [if_pos (show v.k = 0 by omega)] | rw [if_neg (show ¬ v.k = 0 by omega)] | rw [if_pos (show v.k = 1 by omega)] | rw [if_neg (show ¬ v.k = 1 by omega)] | rw [if_pos (show v.k = 2 by omega)] | rw [if_neg (show ¬ v.k = 2 by omega)] | rw [if_pos (show v.k = 5 by omega)] | rw [if_neg (show ¬ v.k = 5 by omega)] | rw [if_pos (show v.k = 6 by omega)] | rw [if_neg (show ¬ v.k = 6 by omega)] | rw [if_pos (show v.k = 3 ∨ v.k = 4 by omega)] | rw [if_neg (show ¬ (v.k = 3 ∨ v.k = 4) by omega)] | rw [if_pos (show v.n ≠ 0 by omega)] | rw [if_neg (show ¬ v.n ≠ 0 by omega)])
    all_goals exact ret_v2 rfl (by first | exact rv_tmp rfl | exact (rv_agg 0 rfl rfl rfl rfl rfl (by repeat first | exact lc_nil | refine lc_cons rfl ?_)) | exact (rv_agg 1 rfl rfl rfl rfl rfl (by repeat first | exact lc_nil | refine lc_cons rfl ?_)) | exact (rv_agg 2 rfl rfl rfl rfl rfl (by repeat first | exact lc_nil | refine lc_cons rfl ?_)) | exact (rv_agg 3 rfl rfl rfl rfl rfl (by repeat first | exact lc_nil | refine lc_cons rfl ?_))) (by first | exact rv_tmp rfl | exact (rv_agg 0 rfl rfl rfl rfl rfl (by repeat first | exact lc_nil | refine lc_cons rfl ?_)) | exact (rv_agg 1 rfl rfl rfl rfl rfl (by repeat first | exact lc_nil | refine lc_cons rfl ?_)) | exact (rv_agg 2 rfl rfl rfl rfl rfl (by repeat first | exact lc_nil | refine lc_cons rfl ?_)) | exact (rv_agg 3 rfl rfl rfl rfl rfl (by repeat first | exact lc_nil | refine lc_cons rfl ?_))) rfl rfl
end
section
variable (w : World) (μ : Mem) (hμ : MOk μ w)
include hμ
end
end Go.Proofs.YtlhmgadmolojmaaDoor
