/- Numbers of the reference: Of, blank, worth, Count: what they compute, and their contracts. -/
import Derived.Test.YtlhmgadmolojmaaGreatDoorNum2
set_option maxRecDepth 20000
namespace Go.Proofs.YtlhmgadmolojmaaGreatDoor
open Go.RowKit Go.Vcg

def blankF (c : Int) : Bool := decide (c = 9) || decide (c = 10) || decide (c = 13) || decide (c = 32)
theorem blank_cut (b : UInt8) : blankF b.toNat = cutB.contains b := by
  have h : ∀ k : UInt8, ((b.toNat : Int) = (k.toNat : Int)) ↔ b = k := fun k => by
    constructor
    · intro e; exact UInt8.toNat_inj.1 (by omega)
    · rintro rfl; rfl
  have h9 := h 9; have h10 := h 10; have h13 := h 13; have h32 := h 32
  rw [show ((9 : UInt8).toNat : Int) = 9 from rfl] at h9
  rw [show ((10 : UInt8).toNat : Int) = 10 from rfl] at h10
  rw [show ((13 : UInt8).toNat : Int) = 13 from rfl] at h13
  rw [show ((32 : UInt8).toNat : Int) = 32 from rfl] at h32
  rw [Bool.eq_iff_iff]
  simp [blankF, cutB, h9, h10, h13, h32, or_assoc]
def worthF (base : Int) (c : Int) : Int := if digitF c ≥ base then -1 else digitF c
def rcountF (base : Int) : List UInt8 → Int → Option Int
  | [], n => some n
  | b :: r, n => if worthF base b.toNat < 0 then none else
    if (if n ≥ 0 then n * base + worthF base b.toNat else n) > 9007199254740992 then rcountF base r (-1) else rcountF base r (if n ≥ 0 then n * base + worthF base b.toNat else n)
def rcount2 (base : Int) (l : List UInt8) : Int × Bool := match rcountF base l 0 with
  | some n => (n, decide (l ≠ []))
  | none => (0, false)

attribute [local irreducible] G GC GQ GA GAop Calls IntKind.wrap Int.decLt Int.decLe
section
variable (w : World) (μ : Mem) (hμ : MOk μ w)
include hμ
theorem refOf_spec (n : Int) : Calls Tryz.prog 59 #[.int .i64 n] w fun e w' => e = .returned (.agg (encV (ofF n)).toArray) ∧ Below w.heap.size w w' := by
  refine call_intro Tryz.func59 rfl Tryz.ntmps59 (by simp) hμ ?_
  have h1 : ∀ (_ : -9007199254740992 ≤ n ∧ n ≤ 9007199254740992), ofF n = ⟨3, n, noS⟩ := fun h => by unfold ofF inF; rw [if_pos (by simp; omega)]
  have h2 : ∀ (_ : ¬ (-9007199254740992 ≤ n ∧ n ≤ 9007199254740992)), ofF n = nanV := fun h => by unfold ofF inF; rw [if_neg (by simp; omega)]
  repeat' (first | (with_reducible (first | apply gc_seq | apply gc_region | apply g_nil | apply gq_then | apply gc_block | apply gc_exit | apply gc_ret | apply gc_skip | apply gq_then_exit | apply gq_then_ret | apply gq_block_same | apply gq_block_normal | apply gq_block_ret)) | ((with_reducible apply g_p); exact rfl) | ((with_reducible apply gc_if); exact rfl) | (with_reducible (first | apply pif_t | apply pif_f | apply pif_not)) | ((with_reducible apply pif_decT); (first | omega | with_reducible assumption | with_reducible rfl)) | ((with_reducible apply pif_decF); (first | omega | with_reducible assumption | with_reducible exact ne_self_f _)) | (((with_reducible apply pif_tt); exact rfl)) | (((with_reducible apply pif_ff); exact rfl)) | (with_reducible (first | refine pif_dec (fun hp => ?_) (fun hp => ?_) | refine pif_b (fun hp => ?_) (fun hp => ?_))) | ((with_reducible apply g_nw); exact rfl; exact rfl; exact rfl; intro b) | ((with_reducible apply g_st); exact rfl; exact rfl; (repeat first | with_reducible exact ones_nil | ((with_reducible apply ones_cons); (first | exact rfl | assumption))); (repeat first | with_reducible apply upb_hd | with_reducible apply upb_tl); exact rfl; (repeat first | with_reducible exact pc_nil | with_reducible apply pc_cons)) | ((with_reducible apply gq_block_other); exact rfl) | ((with_reducible apply g_if); exact rfl; (fail_if_success (with_reducible show NLit true)); (fail_if_success (with_reducible show NLit false)); exact nLit _))
  all_goals first | (rw [h1 (by omega)]; exact ret_v1 rfl (rv_agg 0 rfl rfl rfl rfl rfl (by repeat first | exact lc_nil | refine lc_cons rfl ?_)) rfl) | (rw [h2 (by omega)]; exact ret_v1 rfl (rv_agg 0 rfl rfl rfl rfl rfl (by repeat first | exact lc_nil | refine lc_cons rfl ?_)) rfl)
theorem blank_spec (c : Int) : Calls Tryz.prog 81 #[.int .u8 c] w fun e w' => e = .returned (.bool (blankF c)) ∧ Below w.heap.size w w' := by
  refine call_intro Tryz.func81 rfl Tryz.ntmps81 (by simp) hμ ?_
  repeat' (first | (with_reducible (first | apply gc_seq | apply gc_region | apply g_nil | apply gq_then | apply gc_block | apply gc_exit | apply gc_ret | apply gc_skip | apply gq_then_exit | apply gq_then_ret | apply gq_block_same | apply gq_block_normal | apply gq_block_ret)) | ((with_reducible apply g_p); exact rfl) | ((with_reducible apply gc_if); exact rfl) | (with_reducible (first | apply pif_t | apply pif_f | apply pif_not)) | ((with_reducible apply pif_decT); (first | omega | with_reducible assumption | with_reducible rfl)) | ((with_reducible apply pif_decF); (first | omega | with_reducible assumption | with_reducible exact ne_self_f _)) | (((with_reducible apply pif_tt); exact rfl)) | (((with_reducible apply pif_ff); exact rfl)) | (with_reducible (first | refine pif_dec (fun hp => ?_) (fun hp => ?_) | refine pif_b (fun hp => ?_) (fun hp => ?_))) | ((with_reducible apply g_v); exact rfl; (first | ((with_reducible apply v_aggeql); exact rfl; exact rfl; exact rfl; kernel_rfl; kernel_rfl; kernel_rfl; kernel_rfl))) | ((with_reducible apply gq_block_other); exact rfl) | ((with_reducible apply g_if); exact rfl; (fail_if_success (with_reducible show NLit true)); (fail_if_success (with_reducible show NLit false)); exact nLit _))
  all_goals refine ret_s rfl rfl ?_
  all_goals unfold blankF
  all_goals simp_all
theorem blank_at (c : Int) {r : Bool} (h : blankF c = r) : Calls Tryz.prog 81 #[.int .u8 c] w fun e w' => e = .returned (.bool r) ∧ Below w.heap.size w w' := by
  have := blank_spec w μ hμ c
  rwa [h] at this
theorem worth_spec (c base : Int) (hc : 0 ≤ c ∧ c ≤ 255) (hb : base = 10 ∨ base = 16) : Calls Tryz.prog 91 #[.int .u8 c, .int .i64 base] w fun e w' => e = .returned (.int .i64 (worthF base c)) ∧ Below w.heap.size w w' := by
  refine call_intro Tryz.func91 rfl Tryz.ntmps91 (by simp) hμ ?_
  have hd : (48 ≤ c ∧ c ≤ 57 → digitF c = c - 48) ∧ (97 ≤ c ∧ c ≤ 102 → digitF c = c - 97 + 10) ∧ (65 ≤ c ∧ c ≤ 70 → digitF c = c - 65 + 10) ∧ (¬ (48 ≤ c ∧ c ≤ 57) ∧ ¬ (97 ≤ c ∧ c ≤ 102) ∧ ¬ (65 ≤ c ∧ c ≤ 70) → digitF c = 99) := by
    unfold digitF
    refine ⟨fun h => ?_, fun h => ?_, fun h => ?_, fun h => ?_⟩ <;> (repeat' split) <;> omega
  have hw1 : digitF c ≥ base → worthF base c = -1 := fun h => by unfold worthF; rw [if_pos h]
  have hw2 : ¬ digitF c ≥ base → worthF base c = digitF c := fun h => by unfold worthF; rw [if_neg h]
  repeat' (first | (with_reducible (first | apply gc_seq | apply gc_region | apply g_nil | apply gq_then | apply gc_block | apply gc_exit | apply gc_ret | apply gc_skip | apply gq_then_exit | apply gq_then_ret | apply gq_block_same | apply gq_block_normal | apply gq_block_ret)) | ((with_reducible apply g_p); exact rfl) | ((with_reducible apply gc_if); exact rfl) | (with_reducible (first | apply pif_t | apply pif_f | apply pif_not)) | ((with_reducible apply pif_decT); (first | omega | with_reducible assumption | with_reducible rfl)) | ((with_reducible apply pif_decF); (first | omega | with_reducible assumption | with_reducible exact ne_self_f _)) | (((with_reducible apply pif_tt); exact rfl)) | (((with_reducible apply pif_ff); exact rfl)) | (with_reducible (first | refine pif_dec (fun hp => ?_) (fun hp => ?_) | refine pif_b (fun hp => ?_) (fun hp => ?_))) | ((with_reducible apply g_ar); exact rfl; omega) | ((with_reducible apply g_v); exact rfl; (first | ((with_reducible apply v_conv_int); exact rfl; exact rfl; exact rfl; omega) | ((with_reducible apply arB_sound); exact rfl; omega))) | ((with_reducible apply gq_block_other); exact rfl) | ((with_reducible apply g_if); exact rfl; (fail_if_success (with_reducible show NLit true)); (fail_if_success (with_reducible show NLit false)); exact nLit _))
  all_goals refine ret_s rfl rfl ?_
  all_goals congr 1
  all_goals omega
theorem refCount_spec (s : ByteArray) (base : Int) (hb : base = 10 ∨ base = 16) (hs : s.size ≤ 9223372036854775807) :
    Calls Tryz.prog 82 #[.string s, .int .i64 base] w fun e w' => e = .returned (.tuple #[.int .i64 (rcount2 base (bl s)).1, .bool (rcount2 base (bl s)).2]) ∧ Below w.heap.size w w' := by
  refine call_intro Tryz.func82 rfl Tryz.ntmps82 (by simp) hμ ?_
  repeat' (first | (with_reducible (first | apply gc_seq | apply gc_region | apply g_nil | apply gq_then | apply gc_block | apply gc_exit | apply gc_ret | apply gc_skip | apply gq_then_exit | apply gq_then_ret | apply gq_block_same | apply gq_block_normal | apply gq_block_ret)) | ((with_reducible apply g_p); exact rfl) | ((with_reducible apply gc_if); exact rfl) | (with_reducible (first | apply pif_t | apply pif_f | apply pif_not)) | ((with_reducible apply pif_decT); (first | omega | with_reducible assumption | with_reducible rfl)) | ((with_reducible apply pif_decF); (first | omega | with_reducible assumption | with_reducible exact ne_self_f _)) | (((with_reducible apply pif_tt); exact rfl)) | (((with_reducible apply pif_ff); exact rfl)) | (with_reducible (first | refine pif_dec (fun hp => ?_) (fun hp => ?_) | refine pif_b (fun hp => ?_) (fun hp => ?_))) | ((with_reducible apply g_ar); exact rfl; omega) | ((with_reducible apply g_v); exact rfl; (first | ((with_reducible apply v_sindex_n); exact rfl; exact rfl; exact rfl; omega) | ((with_reducible apply arB_sound); exact rfl; omega) | ((with_reducible apply v_aggneq); exact rfl; exact rfl; exact rfl; kernel_rfl; kernel_rfl; kernel_rfl; kernel_rfl) | ((with_reducible apply v_len_row 0); exact rfl; exact rfl; exact rfl) | ((with_reducible apply v_len_row 1); exact rfl; exact rfl; exact rfl) | ((with_reducible apply v_len_row 2); exact rfl; exact rfl; exact rfl) | ((with_reducible apply v_len_row 3); exact rfl; exact rfl; exact rfl))) | ((with_reducible apply gq_block_other); exact rfl) | ((with_reducible apply g_if); exact rfl; (fail_if_success (with_reducible show NLit true)); (fail_if_success (with_reducible show NLit false)); exact nLit _))
  refine gc_loop (ι := Nat × Int) (fun i => i.1 ≤ s.size ∧ -1 ≤ i.2 ∧ i.2 ≤ 9007199254740992 ∧ rcountF base (bl s) 0 = rcountF base ((bl s).drop i.1) i.2) (fun i => s.size - i.1) (fun _ => μ) (fun i => [(7, .int .i64 i.1), (6, .int .i64 i.2), (1, .int .i64 base), (0, .string s)]) (fun _ => []) (0, 0) ⟨by simp, by simp, by simp, by simp⟩ (fun a w hs => hs.sub (by repeat first | exact subS_nil | refine subS_cons rfl ?_) (by repeat first | exact List.Sublist.refl _ | exact List.nil_sublist _ | refine List.Sublist.cons _ ?_)) ?_
  rintro ⟨i, n⟩ ⟨hi, hn0, hn1, hc⟩
  dsimp only at hi hn0 hn1 hc ⊢
  by_cases hlt : i < s.size
  · obtain ⟨b, hb1, hb2⟩ := bl_at hlt
    have h1 := bAt_lo s i
    have h2 := bAt_hi s i
    have h3 := digitF_lo h1
    have h4 := digitF_hi (c := bAt s i)
    rw [drop_cons hb1, rcountF, ← hb2] at hc
    have h5 : -1 ≤ worthF base (bAt s i) ∧ worthF base (bAt s i) ≤ 99 := by unfold worthF; split <;> omega
    have hk : -16 ≤ n * base ∧ n * base ≤ 9223372036854775707 := by rcases hb with rfl | rfl <;> omega
    have hk2 : 0 ≤ n → 0 ≤ n * base := fun h => by rcases hb with rfl | rfl <;> omega
    repeat' (first | (with_reducible (first | apply gc_seq | apply gc_region | apply g_nil | apply gq_then | apply gc_block | apply gc_exit | apply gc_ret | apply gc_skip | apply gq_then_exit | apply gq_then_ret | apply gq_block_same | apply gq_block_normal | apply gq_block_ret)) | ((with_reducible apply g_p); exact rfl) | ((with_reducible apply g_enter_s); exact rfl; exact rfl; exact rfl; (first | ((with_reducible apply e_call2); kernel_rfl; exact rfl; exact rfl)); exact fun w μc hw hse => worth_spec w μc hw _ base (by omega) hb) | ((with_reducible apply gc_if); exact rfl) | (with_reducible (first | apply pif_t | apply pif_f | apply pif_not)) | ((with_reducible apply pif_decT); (first | omega | with_reducible assumption | with_reducible rfl)) | ((with_reducible apply pif_decF); (first | omega | with_reducible assumption | with_reducible exact ne_self_f _)) | (((with_reducible apply pif_tt); exact rfl)) | (((with_reducible apply pif_ff); exact rfl)) | (with_reducible (first | refine pif_dec (fun hp => ?_) (fun hp => ?_) | refine pif_b (fun hp => ?_) (fun hp => ?_))) | ((with_reducible apply g_ar); exact rfl; omega) | ((with_reducible apply g_v); exact rfl; (first | ((with_reducible apply v_sindex_n); exact rfl; exact rfl; exact rfl; omega) | ((with_reducible apply arB_sound); exact rfl; omega) | ((with_reducible apply v_aggneq); exact rfl; exact rfl; exact rfl; kernel_rfl; kernel_rfl; kernel_rfl; kernel_rfl) | ((with_reducible apply v_len_row 0); exact rfl; exact rfl; exact rfl) | ((with_reducible apply v_len_row 1); exact rfl; exact rfl; exact rfl) | ((with_reducible apply v_len_row 2); exact rfl; exact rfl; exact rfl) | ((with_reducible apply v_len_row 3); exact rfl; exact rfl; exact rfl))) | ((with_reducible apply gq_block_other); exact rfl) | ((with_reducible apply g_if); exact rfl; (fail_if_success (with_reducible show NLit true)); (fail_if_success (with_reducible show NLit false)); exact nLit _))
    · rw [if_pos (by omega)] at hc
      exact ret_s2 rfl rfl rfl (by simp [rcount2, hc]) (by simp [rcount2, hc])
    · rw [if_neg (by omega), if_pos (show n ≥ 0 by omega), if_pos (by omega)] at hc
      exact gq_back (i + 1, -1) ⟨by dsimp only; omega, by dsimp only; omega, by dsimp only; omega, hc⟩ (by dsimp only; omega) rfl (by repeat first | exact subS_nil | refine subS_cons rfl ?_) (by repeat first | exact List.Sublist.refl _ | exact List.nil_sublist _ | refine List.Sublist.cons _ ?_)
    · rw [if_neg (by omega), if_pos (show n ≥ 0 by omega), if_neg (by omega)] at hc
      exact gq_back (i + 1, n * base + worthF base (bAt s i)) ⟨by dsimp only; omega, by dsimp only; omega, by dsimp only; omega, hc⟩ (by dsimp only; omega) rfl (by repeat first | exact subS_nil | refine subS_cons rfl ?_) (by repeat first | exact List.Sublist.refl _ | exact List.nil_sublist _ | refine List.Sublist.cons _ ?_)
    · rw [if_neg (by omega), if_neg (show ¬ n ≥ 0 by omega), if_neg (by omega)] at hc
      exact gq_back (i + 1, n) ⟨by dsimp only; omega, by dsimp only; omega, by dsimp only; omega, hc⟩ (by dsimp only; omega) rfl (by repeat first | exact subS_nil | refine subS_cons rfl ?_) (by repeat first | exact List.Sublist.refl _ | exact List.nil_sublist _ | refine List.Sublist.cons _ ?_)
  · have hi' : i = s.size := by omega
    have hd : (bl s).drop i = [] := List.drop_of_length_le (by rw [bl_len]; omega)
    rw [hd, rcountF] at hc
    repeat' (first | (with_reducible (first | apply gc_seq | apply gc_region | apply g_nil | apply gq_then | apply gc_block | apply gc_exit | apply gc_ret | apply gc_skip | apply gq_then_exit | apply gq_then_ret | apply gq_block_same | apply gq_block_normal | apply gq_block_ret)) | ((with_reducible apply g_p); exact rfl) | ((with_reducible apply gc_if); exact rfl) | (with_reducible (first | apply pif_t | apply pif_f | apply pif_not)) | ((with_reducible apply pif_decT); (first | omega | with_reducible assumption | with_reducible rfl)) | ((with_reducible apply pif_decF); (first | omega | with_reducible assumption | with_reducible exact ne_self_f _)) | (((with_reducible apply pif_tt); exact rfl)) | (((with_reducible apply pif_ff); exact rfl)) | (with_reducible (first | refine pif_dec (fun hp => ?_) (fun hp => ?_) | refine pif_b (fun hp => ?_) (fun hp => ?_))) | ((with_reducible apply g_ar); exact rfl; omega) | ((with_reducible apply g_v); exact rfl; (first | ((with_reducible apply v_sindex_n); exact rfl; exact rfl; exact rfl; omega) | ((with_reducible apply arB_sound); exact rfl; omega) | ((with_reducible apply v_aggneq); exact rfl; exact rfl; exact rfl; kernel_rfl; kernel_rfl; kernel_rfl; kernel_rfl) | ((with_reducible apply v_len_row 0); exact rfl; exact rfl; exact rfl) | ((with_reducible apply v_len_row 1); exact rfl; exact rfl; exact rfl) | ((with_reducible apply v_len_row 2); exact rfl; exact rfl; exact rfl) | ((with_reducible apply v_len_row 3); exact rfl; exact rfl; exact rfl))) | ((with_reducible apply gq_block_other); exact rfl) | ((with_reducible apply g_if); exact rfl; (fail_if_success (with_reducible show NLit true)); (fail_if_success (with_reducible show NLit false)); exact nLit _))
    refine ret_s2 rfl rfl rfl ?_ ?_
    · simp [rcount2, hc]
    · rw [ne_bl]; simp [rcount2, hc]
end
end Go.Proofs.YtlhmgadmolojmaaGreatDoor
