/- Conversions of package convert: what they compute, and their contracts (Text at a bool apart). -/
import Derived.Test.YtmclpmhgeikmjaaDoorKey3
namespace Go.Proofs.YtmclpmhgeikmjaaDoor
open Go.RowKit Go.Vcg

def whyF (v : V) : Int := if v.k = 6 then 12 else 13
def conTextF (v : V) : ByteArray × Int :=
  if v.k = 0 then (⟨#[117, 110, 100, 101, 102, 105, 110, 101, 100]⟩, 0) else if v.k = 1 then (⟨#[110, 117, 108, 108]⟩, 0) else if v.k = 2 then (if v.n ≠ 0 then ⟨#[116, 114, 117, 101]⟩ else ⟨#[102, 97, 108, 115, 101]⟩, 0)
  else if v.k = 3 ∨ v.k = 4 then (textF v, 0) else if v.k = 5 then (v.s, 0) else (⟨#[]⟩, whyF v)
def conNumF (v : V) : V × Int :=
  if v.k = 0 then (nanV, 0) else if v.k = 1 then (⟨3, 0, noS⟩, 0) else if v.k = 2 then (if v.n ≠ 0 then ⟨3, 1, noS⟩ else ⟨3, 0, noS⟩, 0)
  else if v.k = 3 ∨ v.k = 4 then (if isF v = true then v else nanV, 0) else if v.k = 5 then (readF (bl v.s), 0) else (⟨0, 0, noS⟩, whyF v)
def clipF (n most : Int) : Int := if most < 0 then 0 else if n < 0 then (if 0 < most + n then most + n else 0) else (if most < n then most else n)
attribute [local irreducible] G GC GQ GA GAop Calls IntKind.wrap Int.decLt Int.decLe bAt
section
variable (w : World) (μ : Mem) (hμ : MOk μ w)
include hμ
theorem clip_spec (n most : Int) (hn : -9223372036854775808 ≤ n ∧ n ≤ 9223372036854775807) (hm : most ≤ 9223372036854775807) : Calls Tryd.prog 7 #[.int .i64 n, .int .i64 most] w fun e w' => e = .returned (.int .i64 (clipF n most)) ∧ Below w.heap.size w w' := by
  refine call_intro Tryd.func7 rfl Tryd.ntmps7 (by simp) hμ ?_
  repeat' (first | (with_reducible (first | apply gc_seq | apply gc_region | apply g_nil | apply gq_then | apply gc_block | apply gc_exit | apply gc_ret | apply gc_skip | apply gq_then_exit | apply gq_then_ret | apply gq_block_same | apply gq_block_normal | apply gq_block_ret)) | ((with_reducible apply g_p); exact rfl) | ((with_reducible apply gc_if); exact rfl) | (with_reducible (first | apply pif_t | apply pif_f | apply pif_not)) | ((with_reducible apply pif_decT); (first | omega | with_reducible assumption | with_reducible rfl)) | ((with_reducible apply pif_decF); (first | omega | with_reducible assumption | with_reducible exact ne_self_f _)) | (((with_reducible apply pif_tt); exact rfl)) | (((with_reducible apply pif_ff); exact rfl)) | (with_reducible (first | refine pif_dec (fun hp => ?_) (fun hp => ?_) | refine pif_b (fun hp => ?_) (fun hp => ?_))) | ((with_reducible apply g_ar); exact rfl; omega) | ((with_reducible apply g_v); exact rfl; (first | ((with_reducible apply v_max2); exact rfl; exact rfl) | ((with_reducible apply v_min2); exact rfl; exact rfl) | ((with_reducible apply arB_sound); exact rfl; omega))) | ((with_reducible apply gq_block_other); exact rfl) | ((with_reducible apply g_if); exact rfl; (fail_if_success (with_reducible show NLit true)); (fail_if_success (with_reducible show NLit false)); exact nLit _))
  all_goals refine ret_s rfl rfl ?_
  all_goals congr 1
  all_goals unfold clipF
  all_goals (repeat' split) <;> omega
theorem refClip_spec (n most : Int) (hn : -9223372036854775808 ≤ n ∧ n ≤ 9223372036854775807) (hm : most ≤ 9223372036854775807) : Calls Tryd.prog 8 #[.int .i64 n, .int .i64 most] w fun e w' => e = .returned (.int .i64 (clipF n most)) ∧ Below w.heap.size w w' := by
  refine call_intro Tryd.func8 rfl Tryd.ntmps8 (by simp) hμ ?_
  repeat' (first | (with_reducible (first | apply gc_seq | apply gc_region | apply g_nil | apply gq_then | apply gc_block | apply gc_exit | apply gc_ret | apply gc_skip | apply gq_then_exit | apply gq_then_ret | apply gq_block_same | apply gq_block_normal | apply gq_block_ret)) | ((with_reducible apply g_p); exact rfl) | ((with_reducible apply gc_if); exact rfl) | (with_reducible (first | apply pif_t | apply pif_f | apply pif_not)) | ((with_reducible apply pif_decT); (first | omega | with_reducible assumption | with_reducible rfl)) | ((with_reducible apply pif_decF); (first | omega | with_reducible assumption | with_reducible exact ne_self_f _)) | (((with_reducible apply pif_tt); exact rfl)) | (((with_reducible apply pif_ff); exact rfl)) | (with_reducible (first | refine pif_dec (fun hp => ?_) (fun hp => ?_) | refine pif_b (fun hp => ?_) (fun hp => ?_))) | ((with_reducible apply g_ar); exact rfl; omega) | ((with_reducible apply g_v); exact rfl; (first | ((with_reducible apply v_max2); exact rfl; exact rfl) | ((with_reducible apply v_min2); exact rfl; exact rfl) | ((with_reducible apply arB_sound); exact rfl; omega))) | ((with_reducible apply gq_block_other); exact rfl) | ((with_reducible apply g_if); exact rfl; (fail_if_success (with_reducible show NLit true)); (fail_if_success (with_reducible show NLit false)); exact nLit _))
  all_goals refine ret_s rfl rfl ?_
  all_goals congr 1
  all_goals unfold clipF
  all_goals (repeat' split) <;> omega
end
end Go.Proofs.YtmclpmhgeikmjaaDoor
