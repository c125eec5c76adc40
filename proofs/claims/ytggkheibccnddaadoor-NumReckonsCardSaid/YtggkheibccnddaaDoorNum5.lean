/- Decimal numerals: num.Text, the reference's Text; the examples of the specification. -/
import Derived.Test.YtggkheibccnddaaDoorNum4
import Derived.Lib.AppendIntMem
import Derived.Lib.LaidU8
import Derived.Lib.LaidTab
namespace Go.Proofs.YtggkheibccnddaaDoor
open Go.RowKit Go.Vcg

def tabName : String := ((Rows.numTellsRow.laid[2]?).map (·.1)).getD ""
/-- the table of powers of ten is there -/
def TabOk (μ : Mem) : Prop := ∀ w, MOk μ w → Lib.TabIs Tryd.prog w tabName .u64 Lib.pow10Tab
theorem TabOk.mono {μ μ' : Mem} (h : TabOk μ) (hle : MLe μ μ') : TabOk μ' := fun w hw => h w (fun b o e => hw b o (hle b o e))
def nanS : ByteArray := ⟨#[78, 97, 78]⟩
def textF (v : V) : ByteArray := if wholeF v = true then ⟨(Lib.itoa v.n).toArray⟩ else nanS

theorem exDiv : twoF divG ⟨3, -7, noS⟩ ⟨3, 2, noS⟩ = ⟨3, -3, noS⟩ := by rfl
theorem exRem : twoF remG ⟨3, -7, noS⟩ ⟨3, 2, noS⟩ = ⟨3, -1, noS⟩ := by rfl
theorem exRead1 : readF (bl ⟨#[32, 48, 120, 49, 70]⟩) = ⟨3, 31, noS⟩ := by rfl
theorem exRead2 : readF (bl ⟨#[32, 45, 48, 120, 49]⟩) = nanV := by rfl
theorem exText : textF ⟨3, -7, noS⟩ = ⟨#[45, 55]⟩ := by
  unfold textF
  rw [if_pos (by decide)]
  have : Lib.itoa (-7) = [45, 55] := by
    unfold Lib.itoa
    rw [if_pos (by decide)]
    rw [show (-7 : Int).natAbs = 7 from rfl, Lib.decDigits, dif_pos (by decide)]
    rfl
  show (⟨(Lib.itoa (-7)).toArray⟩ : ByteArray) = _
  rw [this]
attribute [local irreducible] G GC GQ GA GAop Calls IntKind.wrap Int.decLt Int.decLe
theorem itoa_spec (n : Int) (hn : -9007199254740992 ≤ n ∧ n ≤ 9007199254740992) (w : World) (ht : Lib.TabIs Tryd.prog w tabName .u64 Lib.pow10Tab) :
    Calls Tryd.prog 31 #[.int .i64 n] w fun e w' => e = .returned (.string ⟨(Lib.itoa n).toArray⟩) ∧ Below w.heap.size w w' :=
  (Any.strconv_Itoa Tryd.laysM171 n (by omega) (by omega) w ht).mono fun e w' ⟨he, k, os, hw⟩ => ⟨he, by rw [hw]; exact Lib.below_grow _ w (Nat.le_refl _) k os⟩
section
variable (w : World) (μ : Mem) (hμ : MOk μ w)
include hμ
theorem ex1 : Calls Tryd.prog 18 #[.agg (encV ⟨3, -7, noS⟩).toArray, .agg (encV ⟨3, 2, noS⟩).toArray] w fun e w' => e = .returned (.agg (encV ⟨3, -3, noS⟩).toArray) ∧ Below w.heap.size w w' := by
  have := div_spec w μ hμ ⟨3, -7, noS⟩ ⟨3, 2, noS⟩
  rwa [exDiv] at this
theorem ex2 : Calls Tryd.prog 19 #[.agg (encV ⟨3, -7, noS⟩).toArray, .agg (encV ⟨3, 2, noS⟩).toArray] w fun e w' => e = .returned (.agg (encV ⟨3, -1, noS⟩).toArray) ∧ Below w.heap.size w w' := by
  have := rem_spec w μ hμ ⟨3, -7, noS⟩ ⟨3, 2, noS⟩
  rwa [exRem] at this
theorem ex3 : Calls Tryd.prog 16 #[.string ⟨#[32, 48, 120, 49, 70]⟩] w fun e w' => e = .returned (.agg (encV ⟨3, 31, noS⟩).toArray) ∧ Below w.heap.size w w' := by
  have := read_spec ⟨#[32, 48, 120, 49, 70]⟩ (by decide) w μ hμ
  rwa [exRead1] at this
theorem ex4 : Calls Tryd.prog 16 #[.string ⟨#[32, 45, 48, 120, 49]⟩] w fun e w' => e = .returned (.agg (encV nanV).toArray) ∧ Below w.heap.size w w' := by
  have := read_spec ⟨#[32, 45, 48, 120, 49]⟩ (by decide) w μ hμ
  rwa [exRead2] at this
end
section
variable (w : World) (μ : Mem) (hμ : MOk μ w) (ht : TabOk μ)
include hμ ht
theorem text_spec (v : V) : Calls Tryd.prog 14 #[.agg (encV v).toArray] w fun e w' => e = .returned (.string (textF v)) ∧ Below w.heap.size w w' := by
  refine call_intro Tryd.func14 rfl Tryd.ntmps14 (by simp) hμ ?_
  cases hw : wholeF v
  · have hF : textF v = nanS := by unfold textF; rw [if_neg (by simp [hw])]
    rw [hF]
    repeat' (first | (with_reducible (first | apply gc_seq | apply gc_region | apply g_nil | apply gq_then | apply gc_block | apply gc_exit | apply gc_ret | apply gc_skip | apply gq_then_exit | apply gq_then_ret | apply gq_block_same | apply gq_block_normal | apply gq_block_ret)) | ((with_reducible apply g_p); exact rfl) | ((with_reducible show G _ _ _ _ (Oper.mk _ (Op.call (Call.mk (Callee.value (Operand.func 30)) _ _)) _ _ _ _ :: _) _ _ _); (with_reducible apply g_enter_s); exact rfl; exact rfl; exact rfl; (first | ((with_reducible apply e_call1); kernel_rfl; exact rfl)); exact fun w μc hw' hse => whole_at w μc hw' v hw) | ((with_reducible apply gc_if); exact rfl) | (with_reducible (first | apply pif_t | apply pif_f | apply pif_not)) | ((with_reducible apply pif_decT); (first | omega | with_reducible assumption | with_reducible rfl)) | ((with_reducible apply pif_decF); (first | omega | with_reducible assumption | with_reducible exact ne_self_f _)) | (((with_reducible apply pif_tt); exact rfl)) | (((with_reducible apply pif_ff); exact rfl)) | (with_reducible (first | refine pif_dec (fun hp => ?_) (fun hp => ?_) | refine pif_b (fun hp => ?_) (fun hp => ?_))) | ((with_reducible apply g_ld); exact rfl; exact rfl; (repeat first | with_reducible exact inb_hd | with_reducible apply inb_tl); exact rfl) | ((with_reducible apply g_nw); exact rfl; exact rfl; exact rfl; intro b) | ((with_reducible apply gq_block_other); exact rfl) | ((with_reducible apply g_if); exact rfl; (fail_if_success (with_reducible show NLit true)); (fail_if_success (with_reducible show NLit false)); exact nLit _))
    exact ret_s rfl rfl rfl
  · have hF : textF v = ⟨(Lib.itoa v.n).toArray⟩ := by unfold textF; rw [if_pos hw]
    rw [hF]
    have hn := wholeF_n hw
    repeat' (first | (with_reducible (first | apply gc_seq | apply gc_region | apply g_nil | apply gq_then | apply gc_block | apply gc_exit | apply gc_ret | apply gc_skip | apply gq_then_exit | apply gq_then_ret | apply gq_block_same | apply gq_block_normal | apply gq_block_ret)) | ((with_reducible apply g_p); exact rfl) | ((with_reducible show G _ _ _ _ (Oper.mk _ (Op.call (Call.mk (Callee.value (Operand.func 30)) _ _)) _ _ _ _ :: _) _ _ _); (with_reducible apply g_enter_s); exact rfl; exact rfl; exact rfl; (first | ((with_reducible apply e_call1); kernel_rfl; exact rfl)); exact fun w μc hw' hse => whole_at w μc hw' v hw) | ((with_reducible show G _ _ _ _ (Oper.mk _ (Op.call (Call.mk (Callee.value (Operand.func 31)) _ _)) _ _ _ _ :: _) _ _ _); (with_reducible apply g_enter_s); exact rfl; exact rfl; exact rfl; (first | ((with_reducible apply e_call1); kernel_rfl; exact rfl)); exact fun w μc hw' hse => itoa_spec v.n hn w ((ht.mono hse.le) w hw')) | ((with_reducible apply gc_if); exact rfl) | (with_reducible (first | apply pif_t | apply pif_f | apply pif_not)) | ((with_reducible apply pif_decT); (first | omega | with_reducible assumption | with_reducible rfl)) | ((with_reducible apply pif_decF); (first | omega | with_reducible assumption | with_reducible exact ne_self_f _)) | (((with_reducible apply pif_tt); exact rfl)) | (((with_reducible apply pif_ff); exact rfl)) | (with_reducible (first | refine pif_dec (fun hp => ?_) (fun hp => ?_) | refine pif_b (fun hp => ?_) (fun hp => ?_))) | ((with_reducible apply g_ld); exact rfl; exact rfl; (repeat first | with_reducible exact inb_hd | with_reducible apply inb_tl); exact rfl) | ((with_reducible apply g_nw); exact rfl; exact rfl; exact rfl; intro b) | ((with_reducible apply gq_block_other); exact rfl) | ((with_reducible apply g_if); exact rfl; (fail_if_success (with_reducible show NLit true)); (fail_if_success (with_reducible show NLit false)); exact nLit _))
    exact ret_s rfl rfl rfl
theorem ex5 : Calls Tryd.prog 14 #[.agg (encV ⟨3, -7, noS⟩).toArray] w fun e w' => e = .returned (.string ⟨#[45, 55]⟩) ∧ Below w.heap.size w w' := by
  have := text_spec w μ hμ ht ⟨3, -7, noS⟩
  rwa [exText] at this
theorem awake_spec : Calls Tryd.prog 8 #[] w fun e w' => e = .returned (.bool true) ∧ Below w.heap.size w w' := by
  refine call_intro (args := []) Tryd.func8 rfl Tryd.ntmps8 (by simp) hμ ?_
  repeat' (first | (with_reducible (first | apply gc_seq | apply gc_region | apply g_nil | apply gq_then | apply gc_block | apply gc_exit | apply gc_ret | apply gc_skip | apply gq_then_exit | apply gq_then_ret | apply gq_block_same | apply gq_block_normal | apply gq_block_ret)) | ((with_reducible apply g_p); exact rfl) | ((with_reducible show G _ _ _ _ (Oper.mk _ (Op.call (Call.mk (Callee.value (Operand.func 18)) _ _)) _ _ _ _ :: _) _ _ _); (with_reducible apply g_enter_s); exact rfl; exact rfl; exact rfl; (first | ((with_reducible apply e_call1); kernel_rfl; exact rfl) | ((with_reducible apply e_call2); kernel_rfl; exact rfl; exact rfl)); exact fun w μc hw hse => ex1 w μc hw) | ((with_reducible show G _ _ _ _ (Oper.mk _ (Op.call (Call.mk (Callee.value (Operand.func 19)) _ _)) _ _ _ _ :: _) _ _ _); (with_reducible apply g_enter_s); exact rfl; exact rfl; exact rfl; (first | ((with_reducible apply e_call1); kernel_rfl; exact rfl) | ((with_reducible apply e_call2); kernel_rfl; exact rfl; exact rfl)); exact fun w μc hw hse => ex2 w μc hw) | ((with_reducible show G _ _ _ _ (Oper.mk _ (Op.call (Call.mk (Callee.value (Operand.func 16)) _ _)) _ _ _ _ :: _) _ _ _); (with_reducible apply g_enter_s); exact rfl; exact rfl; exact rfl; (first | ((with_reducible apply e_call1); kernel_rfl; exact rfl) | ((with_reducible apply e_call2); kernel_rfl; exact rfl; exact rfl)); first | exact fun w μc hw hse => ex3 w μc hw | exact fun w μc hw hse => ex4 w μc hw) | ((with_reducible show G _ _ _ _ (Oper.mk _ (Op.call (Call.mk (Callee.value (Operand.func 14)) _ _)) _ _ _ _ :: _) _ _ _); (with_reducible apply g_enter_s); exact rfl; exact rfl; exact rfl; (first | ((with_reducible apply e_call1); kernel_rfl; exact rfl) | ((with_reducible apply e_call2); kernel_rfl; exact rfl; exact rfl)); exact fun w μc hw hse => ex5 w μc hw (ht.mono hse.le)) | ((with_reducible apply gc_if); exact rfl) | (with_reducible (first | apply pif_t | apply pif_f | apply pif_not)) | ((with_reducible apply pif_decT); (first | omega | with_reducible assumption | with_reducible rfl)) | ((with_reducible apply pif_decF); (first | omega | with_reducible assumption | with_reducible exact ne_self_f _)) | (((with_reducible apply pif_tt); exact rfl)) | (((with_reducible apply pif_ff); exact rfl)) | (with_reducible (first | refine pif_dec (fun hp => ?_) (fun hp => ?_) | refine pif_b (fun hp => ?_) (fun hp => ?_))) | ((with_reducible apply g_ld); exact rfl; exact rfl; (repeat first | with_reducible exact inb_hd | with_reducible apply inb_tl); exact rfl) | ((with_reducible apply g_v); exact rfl; (first | ((with_reducible apply v_fieldv); exact rfl; exact rfl) | ((with_reducible apply v_aggeql); exact rfl; exact rfl; exact rfl; kernel_rfl; kernel_rfl; kernel_rfl; kernel_rfl))) | ((with_reducible apply g_nw); exact rfl; exact rfl; exact rfl; intro b) | ((with_reducible apply g_st); exact rfl; exact rfl; (repeat first | with_reducible exact ones_nil | ((with_reducible apply ones_cons); (first | exact rfl | assumption))); (repeat first | with_reducible apply upb_hd | with_reducible apply upb_tl); exact rfl; (repeat first | with_reducible exact pc_nil | with_reducible apply pc_cons)) | ((with_reducible apply gq_block_other); exact rfl) | ((with_reducible apply g_if); exact rfl; (fail_if_success (with_reducible show NLit true)); (fail_if_success (with_reducible show NLit false)); exact nLit _))
  exact ret_s rfl rfl rfl
end
end Go.Proofs.YtggkheibccnddaaDoor
