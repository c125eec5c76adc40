/- Decimal numerals: num.Text, the reference's Text; the examples of the specification. -/
import Derived.Test.YtlhmgadmolojmaaDoorNum4
import Derived.Lib.AppendIntMem
import Derived.Lib.LaidU8
import Derived.Lib.LaidTab
set_option maxRecDepth 20000
namespace Go.Proofs.YtlhmgadmolojmaaDoor
open Go.RowKit Go.Vcg

def tabName : String := ((Rows.operatorTurnsRow.laid[2]?).map (·.1)).getD ""
/-- the table of powers of ten is there -/
def TabOk (μ : Mem) : Prop := ∀ w, MOk μ w → Lib.TabIs Tryd.prog w tabName .u64 Lib.pow10Tab
theorem TabOk.mono {μ μ' : Mem} (h : TabOk μ) (hle : MLe μ μ') : TabOk μ' := fun w hw => h w (fun b o e => hw b o (hle b o e))
def nanS : ByteArray := ⟨#[78, 97, 78]⟩
def textF (v : V) : ByteArray := if wholeF v = true then ⟨(Lib.itoa v.n).toArray⟩ else nanS

theorem exDiv : twoF divG ⟨3, -7, noS⟩ ⟨3, 2, noS⟩ = ⟨3, -3, noS⟩ := by rfl
theorem exRem : twoF remG ⟨3, -7, noS⟩ ⟨3, 2, noS⟩ = ⟨3, -1, noS⟩ := by rfl
theorem exRead1 : readF (bl ⟨#[32, 48, 120, 49, 70]⟩) = ⟨3, 31, noS⟩ := by rfl
theorem exRead2 : readF (bl ⟨#[32, 45, 48, 120, 49]⟩) = nanV := by rfl
theorem exText : textF ⟨3, -7, noS⟩ = ⟨#[45, 55]⟩ := by
  unfold textF
  rw [if_pos (by decide)]
  have : Lib.itoa (-7) = [45, 55] := by
    unfold Lib.itoa
    rw [if_pos (by decide)]
    rw [show (-7 : Int).natAbs = 7 from rfl, Lib.decDigits, dif_pos (by decide)]
    rfl
  show (⟨(Lib.itoa (-7)).toArray⟩ : ByteArray) = _
  rw [this]
attribute [local irreducible] G GC GQ GA GAop Calls IntKind.wrap Int.decLt Int.decLe
theorem itoa_spec (n : Int) (hn : -9007199254740992 ≤ n ∧ n ≤ 9007199254740992) (w : World) (ht : Lib.TabIs Tryd.prog w tabName .u64 Lib.pow10Tab) :
    Calls Tryd.prog 57 #[.int .i64 n] w fun e w' => e = .returned (.string ⟨(Lib.itoa n).toArray⟩) ∧ Below w.heap.size w w' :=
  (Any.strconv_Itoa Tryd.laysM171 n (by omega) (by omega) w ht).mono fun e w' ⟨he, k, os, hw⟩ => ⟨he, by rw [hw]; exact Lib.below_grow _ w (Nat.le_refl _) k os⟩
section
variable (w : World) (μ : Mem) (hμ : MOk μ w) (ht : TabOk μ)
include hμ ht
theorem text_spec (v : V) : Calls Tryd.prog 40 #[.agg (encV v).toArray] w fun e w' => e = .returned (.string (textF v)) ∧ Below w.heap.size w w' := by
  refine call_intro Tryd.func40 rfl Tryd.ntmps40 (by simp) hμ ?_
  cases hw : wholeF v
  · have hF : textF v = nanS := by unfold textF; rw [if_neg (by simp [hw])]
    rw [hF]
    repeat' (first | (with_reducible (first | apply gc_seq | apply gc_region | apply g_nil | apply gq_then | apply gc_block | apply gc_exit | apply gc_ret | apply gc_skip | apply gq_then_exit | apply gq_then_ret | apply gq_block_same | apply gq_block_normal | apply gq_block_ret)) | ((with_reducible apply g_p); exact rfl) | ((with_reducible show G _ _ _ _ (Oper.mk _ (Op.call (Call.mk (Callee.value (Operand.func 53)) _ _)) _ _ _ _ :: _) _ _ _); (with_reducible apply g_enter_s); exact rfl; exact rfl; exact rfl; (first | ((with_reducible apply e_call1); kernel_rfl; exact rfl)); exact fun w μc hw' hse => whole_at w μc hw' v hw) | ((with_reducible apply gc_if); exact rfl) | (with_reducible (first | apply pif_t | apply pif_f | apply pif_not)) | ((with_reducible apply pif_decT); (first | omega | with_reducible assumption | with_reducible rfl)) | ((with_reducible apply pif_decF); (first | omega | with_reducible assumption | with_reducible exact ne_self_f _)) | (((with_reducible apply pif_tt); exact rfl)) | (((with_reducible apply pif_ff); exact rfl)) | (with_reducible (first | refine pif_dec (fun hp => ?_) (fun hp => ?_) | refine pif_b (fun hp => ?_) (fun hp => ?_))) | ((with_reducible apply g_ld); exact rfl; exact rfl; (repeat first | with_reducible exact inb_hd | with_reducible apply inb_tl); exact rfl) | ((with_reducible apply g_nw); exact rfl; exact rfl; exact rfl; intro b) | ((with_reducible apply gq_block_other); exact rfl) | ((with_reducible apply g_if); exact rfl; (fail_if_success (with_reducible show NLit true)); (fail_if_success (with_reducible show NLit false)); exact nLit _))
    exact ret_s rfl rfl rfl
  · have hF : textF v = ⟨(Lib.itoa v.n).toArray⟩ := by unfold textF; rw [if_pos hw]
    rw [hF]
    have hn := wholeF_n hw
    repeat' (first | (with_reducible (first | apply gc_seq | apply gc_region | apply g_nil | apply gq_then | apply gc_block | apply gc_exit | apply gc_ret | apply gc_skip | apply gq_then_exit | apply gq_then_ret | apply gq_block_same | apply gq_block_normal | apply gq_block_ret)) | ((with_reducible apply g_p); exact rfl) | ((with_reducible show G _ _ _ _ (Oper.mk _ (Op.call (Call.mk (Callee.value (Operand.func 53)) _ _)) _ _ _ _ :: _) _ _ _); (with_reducible apply g_enter_s); exact rfl; exact rfl; exact rfl; (first | ((with_reducible apply e_call1); kernel_rfl; exact rfl)); exact fun w μc hw' hse => whole_at w μc hw' v hw) | ((with_reducible show G _ _ _ _ (Oper.mk _ (Op.call (Call.mk (Callee.value (Operand.func 57)) _ _)) _ _ _ _ :: _) _ _ _); (with_reducible apply g_enter_s); exact rfl; exact rfl; exact rfl; (first | ((with_reducible apply e_call1); kernel_rfl; exact rfl)); exact fun w μc hw' hse => itoa_spec v.n hn w ((ht.mono hse.le) w hw')) | ((with_reducible apply gc_if); exact rfl) | (with_reducible (first | apply pif_t | apply pif_f | apply pif_not)) | ((with_reducible apply pif_decT); (first | omega | with_reducible assumption | with_reducible rfl)) | ((with_reducible apply pif_decF); (first | omega | with_reducible assumption | with_reducible exact ne_self_f _)) | (((with_reducible apply pif_tt); exact rfl)) | (((with_reducible apply pif_ff); exact rfl)) | (with_reducible (first | refine pif_dec (fun hp => ?_) (fun hp => ?_) | refine pif_b (fun hp => ?_) (fun hp => ?_))) | ((with_reducible apply g_ld); exact rfl; exact rfl; (repeat first | with_reducible exact inb_hd | with_reducible apply inb_tl); exact rfl) | ((with_reducible apply g_nw); exact rfl; exact rfl; exact rfl; intro b) | ((with_reducible apply gq_block_other); exact rfl) | ((with_reducible apply g_if); exact rfl; (fail_if_success (with_reducible show NLit true)); (fail_if_success (with_reducible show NLit false)); exact nLit _))
    exact ret_s rfl rfl rfl
end
end Go.Proofs.YtlhmgadmolojmaaDoor
