/- Keys of texts: the contracts of key.word, key.Of and the reference's, at texts. -/
import Derived.Test.YtmclpmhgeikmjaaDoorKey1
import Derived.Test.YtmclpmhgeikmjaaDoorNumRef4
namespace Go.Proofs.YtmclpmhgeikmjaaDoor
open Go.RowKit Go.Vcg
theorem idx_ref (s : ByteArray) (h : ¬ (bl s = [] ∨ 10 < s.size ∨ (bAt s 0 = 48 ∧ 1 < s.size))) : idxF (bl s) = if (rcount2 10 (bl s)).2 = false ∨ (rcount2 10 (bl s)).1 > 4294967294 then (0, false) else ((rcount2 10 (bl s)).1, true) := by
  have h0' : bl s ≠ [] := fun e => h (.inl e)
  have hpos : 0 < s.size := by rw [← bl_len]; exact List.length_pos_iff.2 h0'
  have hh : (bl s).head? = some 48 ↔ bAt s 0 = 48 := head_at hpos
  have hF : idxF (bl s) = match countF 10 (bl s) 0 with
      | some n => if n > 4294967294 then (0, false) else (n, true)
      | none => (0, false) := by
    unfold idxF
    exact if_neg (by rw [bl_len, hh]; exact h)
  have hl : (bl s).length ≤ 10 := by rw [bl_len]; omega
  have hc := count_short (bl s) 0 (by omega) (by
    have := ten_le hl
    have e : ((0 : Int) + 1) * 10 ^ (bl s).length = 10 ^ (bl s).length := by simp
    rw [e]
    exact Int.le_trans this (by decide))
  rw [hF]
  unfold rcount2
  rw [hc]
  cases h2 : countF 10 (bl s) 0 with
  | none => simp
  | some n => simp [h0']
attribute [local irreducible] G GC GQ GA GAop Calls IntKind.wrap Int.decLt Int.decLe bAt
section
variable (w : World) (μ : Mem) (hμ : MOk μ w)
include hμ
set_option maxRecDepth 4000 in
theorem refIndex_spec (s : ByteArray) (hs : s.size ≤ 9223372036854775807) : Calls Tryd.prog 60 #[.string s] w fun e w' => e = .returned (.tuple #[.int .i64 (idxF (bl s)).1, .bool (idxF (bl s)).2]) ∧ Below w.heap.size w w' := by
  refine call_intro Tryd.func60 rfl Tryd.ntmps60 (by simp) hμ ?_
  have hh : 0 < s.size → ((bl s).head? = some 48 ↔ bAt s 0 = 48) := fun h => head_at h
  by_cases h0 : s = ⟨#[]⟩
  · have hF : idxF (bl s) = (0, false) := by unfold idxF; rw [if_pos (.inl ((bl_empty_iff s).1 h0))]
    rw [hF]
    repeat' (first | (with_reducible (first | apply gc_seq | apply gc_region | apply g_nil | apply gq_then | apply gc_block | apply gc_exit | apply gc_ret | apply gc_skip | apply gq_then_exit | apply gq_then_ret | apply gq_block_same | apply gq_block_normal | apply gq_block_ret)) | ((with_reducible apply g_p); exact rfl) | ((with_reducible apply gc_if); exact rfl) | (with_reducible (first | apply pif_t | apply pif_f | apply pif_not)) | ((with_reducible apply pif_decT); (first | omega | with_reducible assumption | with_reducible rfl)) | ((with_reducible apply pif_decF); (first | omega | with_reducible assumption | with_reducible exact ne_self_f _)) | (((with_reducible apply pif_tt); exact rfl)) | (((with_reducible apply pif_ff); exact rfl)) | (with_reducible (first | refine pif_dec (fun hp => ?_) (fun hp => ?_) | refine pif_b (fun hp => ?_) (fun hp => ?_))) | ((with_reducible apply g_v); exact rfl; (first | ((with_reducible apply v_sindex_n); exact rfl; exact rfl; exact rfl; omega) | ((with_reducible apply v_aggeql); exact rfl; exact rfl; exact rfl; kernel_rfl; kernel_rfl; kernel_rfl; kernel_rfl) | ((with_reducible apply v_len_row 0); exact rfl; exact rfl; exact rfl) | ((with_reducible apply v_len_row 1); exact rfl; exact rfl; exact rfl) | ((with_reducible apply v_len_row 2); exact rfl; exact rfl; exact rfl) | ((with_reducible apply v_len_row 3); exact rfl; exact rfl; exact rfl))) | ((with_reducible apply gq_block_other); exact rfl) | ((with_reducible apply g_if); exact rfl; (fail_if_success (with_reducible show NLit true)); (fail_if_success (with_reducible show NLit false)); exact nLit _))
    exact ret_s2 rfl rfl rfl rfl rfl
  · have h0' : bl s ≠ [] := fun h => h0 ((bl_empty_iff s).2 h)
    have hpos : 0 < s.size := by rw [← bl_len]; exact List.length_pos_iff.2 h0'
    by_cases hbad : 10 < s.size ∨ (bAt s 0 = 48 ∧ 1 < s.size)
    · have hF : idxF (bl s) = (0, false) := by
        unfold idxF
        rw [if_pos]
        rw [bl_len, hh hpos]
        exact .inr hbad
      rw [hF]
      repeat' (first | (with_reducible (first | apply gc_seq | apply gc_region | apply g_nil | apply gq_then | apply gc_block | apply gc_exit | apply gc_ret | apply gc_skip | apply gq_then_exit | apply gq_then_ret | apply gq_block_same | apply gq_block_normal | apply gq_block_ret)) | ((with_reducible apply g_p); exact rfl) | ((with_reducible apply gc_if); exact rfl) | (with_reducible (first | apply pif_t | apply pif_f | apply pif_not)) | ((with_reducible apply pif_decT); (first | omega | with_reducible assumption | with_reducible rfl)) | ((with_reducible apply pif_decF); (first | omega | with_reducible assumption | with_reducible exact ne_self_f _)) | (((with_reducible apply pif_tt); exact rfl)) | (((with_reducible apply pif_ff); exact rfl)) | (with_reducible (first | refine pif_dec (fun hp => ?_) (fun hp => ?_) | refine pif_b (fun hp => ?_) (fun hp => ?_))) | ((with_reducible apply g_v); exact rfl; (first | ((with_reducible apply v_sindex 0); exact rfl; exact rfl; exact rfl; (first | exact rfl | omega); omega) | ((with_reducible apply v_sindex_n); exact rfl; exact rfl; exact rfl; omega) | ((with_reducible apply v_aggeql); exact rfl; exact rfl; exact rfl; kernel_rfl; kernel_rfl; kernel_rfl; kernel_rfl) | ((with_reducible apply v_len_row 0); exact rfl; exact rfl; exact rfl) | ((with_reducible apply v_len_row 1); exact rfl; exact rfl; exact rfl) | ((with_reducible apply v_len_row 2); exact rfl; exact rfl; exact rfl) | ((with_reducible apply v_len_row 3); exact rfl; exact rfl; exact rfl))) | ((with_reducible apply gq_block_other); exact rfl) | ((with_reducible apply g_if); exact rfl; (fail_if_success (with_reducible show NLit true)); (fail_if_success (with_reducible show NLit false)); exact nLit _))
      all_goals first | (exfalso; omega) | exact ret_s2 rfl rfl rfl rfl rfl
    · rw [idx_ref s (fun h => h.elim h0' hbad)]
      have hcnt := fun w μ hμ => refCount_spec w μ hμ s 10 (.inl rfl) hs
      generalize rcount2 10 (bl s) = r at hcnt
      clear hh
      repeat' (first | (with_reducible (first | apply gc_seq | apply gc_region | apply g_nil | apply gq_then | apply gc_block | apply gc_exit | apply gc_ret | apply gc_skip | apply gq_then_exit | apply gq_then_ret | apply gq_block_same | apply gq_block_normal | apply gq_block_ret)) | ((with_reducible apply g_p); exact rfl) | ((with_reducible apply g_enter_s); exact rfl; exact rfl; exact rfl; (first | ((with_reducible apply e_call2); kernel_rfl; exact rfl; exact rfl)); exact fun w μc hw hse => hcnt w μc hw) | ((with_reducible apply gc_if); exact rfl) | (with_reducible (first | apply pif_t | apply pif_f | apply pif_not)) | ((with_reducible apply pif_decT); (first | omega | with_reducible assumption | with_reducible rfl)) | ((with_reducible apply pif_decF); (first | omega | with_reducible assumption | with_reducible exact ne_self_f _)) | (((with_reducible apply pif_tt); exact rfl)) | (((with_reducible apply pif_ff); exact rfl)) | (with_reducible (first | refine pif_dec (fun hp => ?_) (fun hp => ?_) | refine pif_b (fun hp => ?_) (fun hp => ?_))) | ((with_reducible apply g_v); exact rfl; (first | ((with_reducible apply v_sindex 0); exact rfl; exact rfl; exact rfl; (first | exact rfl | omega); omega) | ((with_reducible apply v_sindex_n); exact rfl; exact rfl; exact rfl; omega) | ((with_reducible apply v_aggeql); exact rfl; exact rfl; exact rfl; kernel_rfl; kernel_rfl; kernel_rfl; kernel_rfl) | ((with_reducible apply v_len_row 0); exact rfl; exact rfl; exact rfl) | ((with_reducible apply v_len_row 1); exact rfl; exact rfl; exact rfl) | ((with_reducible apply v_len_row 2); exact rfl; exact rfl; exact rfl) | ((with_reducible apply v_len_row 3); exact rfl; exact rfl; exact rfl))) | ((with_reducible apply gq_block_other); exact rfl) | ((with_reducible apply g_if); exact rfl; (fail_if_success (with_reducible show NLit true)); (fail_if_success (with_reducible show NLit false)); exact nLit _))
      all_goals first
        | (exfalso; omega)
        | (rw [if_pos (.inl (by assumption))]; exact ret_s2 rfl rfl rfl rfl rfl)
        | (rw [if_pos (.inr (by omega))]; exact ret_s2 rfl rfl rfl rfl rfl)
        | (rw [if_neg (fun h => h.elim (fun e => by simp_all) (fun e => by omega))]; exact ret_s2 rfl rfl rfl rfl rfl)
theorem word_spec (s : ByteArray) (hs : s.size ≤ 9223372036854775807) : Calls Tryd.prog 46 #[.string s] w fun e w' => e = .returned (.agg (encV (wordF s)).toArray) ∧ Below w.heap.size w w' := by
  refine call_intro Tryd.func46 rfl Tryd.ntmps46 (by simp) hμ ?_
  unfold wordF
  have hx := fun w μ hμ => index_spec w μ hμ s hs
  generalize idxF (bl s) = r at hx
  repeat' (first | (with_reducible (first | apply gc_seq | apply gc_region | apply g_nil | apply gq_then | apply gc_block | apply gc_exit | apply gc_ret | apply gc_skip | apply gq_then_exit | apply gq_then_ret | apply gq_block_same | apply gq_block_normal | apply gq_block_ret)) | ((with_reducible apply g_p); exact rfl) | ((with_reducible apply g_enter_s); exact rfl; exact rfl; exact rfl; (first | ((with_reducible apply e_call1); kernel_rfl; exact rfl)); exact fun w μc hw hse => hx w μc hw) | ((with_reducible apply gc_if); exact rfl) | (with_reducible (first | apply pif_t | apply pif_f | apply pif_not)) | ((with_reducible apply pif_decT); (first | omega | with_reducible assumption | with_reducible rfl)) | ((with_reducible apply pif_decF); (first | omega | with_reducible assumption | with_reducible exact ne_self_f _)) | (((with_reducible apply pif_tt); exact rfl)) | (((with_reducible apply pif_ff); exact rfl)) | (with_reducible (first | refine pif_dec (fun hp => ?_) (fun hp => ?_) | refine pif_b (fun hp => ?_) (fun hp => ?_))) | ((with_reducible apply g_nw); exact rfl; exact rfl; exact rfl; intro b) | ((with_reducible apply g_st); exact rfl; exact rfl; (repeat first | with_reducible exact ones_nil | ((with_reducible apply ones_cons); (first | exact rfl | assumption))); (repeat first | with_reducible apply upb_hd | with_reducible apply upb_tl); exact rfl; (repeat first | with_reducible exact pc_nil | with_reducible apply pc_cons)) | ((with_reducible apply gq_block_other); exact rfl) | ((with_reducible apply g_if); exact rfl; (fail_if_success (with_reducible show NLit true)); (fail_if_success (with_reducible show NLit false)); exact nLit _))
  · rw [if_pos hp]
    exact ret_v1 rfl (rv_agg 0 rfl rfl rfl rfl rfl (by repeat first | exact lc_nil | refine lc_cons rfl ?_)) rfl
  · rw [if_neg (by simp [hp])]
    exact ret_v1 rfl (rv_agg 0 rfl rfl rfl rfl rfl (by repeat first | exact lc_nil | refine lc_cons rfl ?_)) rfl
end
end Go.Proofs.YtmclpmhgeikmjaaDoor
