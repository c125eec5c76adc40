/- The reference's arithmetic and numerals: what they compute, and their contracts. -/
import Derived.Test.YtlhmgadmolojmaaGreatDoorNum5
set_option maxRecDepth 20000
namespace Go.Proofs.YtlhmgadmolojmaaGreatDoor
open Go.RowKit Go.Vcg

theorem isF_cases (v : V) : isF v = (decide (v.s = ⟨#[]⟩) && ((decide (v.k = 3) && inF v.n) || (decide (v.k = 4) && decide (v.n = 0)))) := by
  cases v
  rw [Bool.eq_iff_iff]
  simp only [isF, wholeF, eqVs, eqV, nanV, noS, Bool.or_eq_true, Bool.and_eq_true, decide_eq_true_eq]
  constructor
  · rintro (⟨h1, h2, h3⟩ | ⟨h1, h2, h3, _⟩)
    · exact ⟨h2, .inl ⟨h1, h3⟩⟩
    · exact ⟨of_decide_eq_true h3, .inr ⟨of_decide_eq_true h1, of_decide_eq_true h2⟩⟩
  · rintro ⟨h1, ⟨h2, h3⟩ | ⟨h2, h3⟩⟩
    · exact .inl ⟨h2, h1, h3⟩
    · exact .inr ⟨decide_eq_true h2, decide_eq_true h3, decide_eq_true h1, trivial⟩
theorem isF_whole (v : V) : (isF v && decide (v.k = 3)) = wholeF v := by
  rw [isF_cases]
  unfold wholeF
  rw [Bool.eq_iff_iff]
  simp only [Bool.or_eq_true, Bool.and_eq_true, decide_eq_true_eq]
  constructor
  · rintro ⟨⟨h1, ⟨h2, h3⟩ | ⟨h2, h3⟩⟩, h4⟩
    · exact ⟨h2, h1, h3⟩
    · omega
  · rintro ⟨h1, h2, h3⟩
    exact ⟨⟨h2, .inl ⟨h1, h3⟩⟩, h1⟩
theorem digits_len (n : Nat) : (Lib.decDigits n).length ≤ n + 1 := by
  induction n using Nat.strongRecOn with
  | _ n ih =>
    rw [Lib.decDigits]
    split
    · simp
    · have := ih (n / 10) (by omega)
      simp; omega
def tenS : ByteArray := ⟨#[48, 49, 50, 51, 52, 53, 54, 55, 56, 57]⟩
theorem ten_at (k : Nat) (h : k < 10) : tenS.extract k (k + 1) = ⟨#[UInt8.ofNat (48 + k)]⟩ := by
  have : k = 0 ∨ k = 1 ∨ k = 2 ∨ k = 3 ∨ k = 4 ∨ k = 5 ∨ k = 6 ∨ k = 7 ∨ k = 8 ∨ k = 9 := by omega
  rcases this with rfl | rfl | rfl | rfl | rfl | rfl | rfl | rfl | rfl | rfl <;> rfl
theorem append_bytes (a b : List UInt8) : (⟨a.toArray⟩ : ByteArray) ++ (⟨b.toArray⟩ : ByteArray) = ⟨(a ++ b).toArray⟩ := by
  apply bl_inj
  simp [bl, ByteArray.data_append]

attribute [local irreducible] G GC GQ GA GAop Calls IntKind.wrap Int.decLt Int.decLe
section
variable (w : World) (μ : Mem) (hμ : MOk μ w)
include hμ
theorem refIs_spec (v : V) : Calls Tryz.prog 56 #[.agg (encV v).toArray] w fun e w' => e = .returned (.bool (isF v)) ∧ Below w.heap.size w w' := by
  refine call_intro Tryz.func56 rfl Tryz.ntmps56 (by simp) hμ ?_
  rw [isF_cases]
  unfold inF
  repeat' (first | (with_reducible (first | apply gc_seq | apply gc_region | apply g_nil | apply gq_then | apply gc_block | apply gc_exit | apply gc_ret | apply gc_skip | apply gq_then_exit | apply gq_then_ret | apply gq_block_same | apply gq_block_normal | apply gq_block_ret)) | ((with_reducible apply g_p); exact rfl) | ((with_reducible apply gc_if); exact rfl) | (with_reducible (first | apply pif_t | apply pif_f | apply pif_not)) | ((with_reducible apply pif_decT); (first | omega | with_reducible assumption | with_reducible rfl)) | ((with_reducible apply pif_decF); (first | omega | with_reducible assumption | with_reducible exact ne_self_f _)) | (((with_reducible apply pif_tt); exact rfl)) | (((with_reducible apply pif_ff); exact rfl)) | (with_reducible (first | refine pif_dec (fun hp => ?_) (fun hp => ?_) | refine pif_b (fun hp => ?_) (fun hp => ?_))) | ((with_reducible apply g_ld); exact rfl; exact rfl; (repeat first | with_reducible exact inb_hd | with_reducible apply inb_tl); exact rfl) | ((with_reducible apply g_v); exact rfl; (first | ((with_reducible apply v_field_n); exact rfl; exact rfl) | ((with_reducible apply v_aggeql); exact rfl; exact rfl; exact rfl; kernel_rfl; kernel_rfl; kernel_rfl; kernel_rfl) | ((with_reducible apply v_aggneq); exact rfl; exact rfl; exact rfl; kernel_rfl; kernel_rfl; kernel_rfl; kernel_rfl))) | ((with_reducible apply g_nw); exact rfl; exact rfl; exact rfl; intro b) | ((with_reducible apply gq_block_other); exact rfl) | ((with_reducible apply g_if); exact rfl; (fail_if_success (with_reducible show NLit true)); (fail_if_success (with_reducible show NLit false)); exact nLit _))
  all_goals refine ret_s rfl rfl ?_
  all_goals first | (simp_all; done) | (simp_all; omega)
theorem refSome_spec (v : V) : Calls Tryz.prog 58 #[.agg (encV v).toArray] w fun e w' => e = .returned (.bool (wholeF v)) ∧ Below w.heap.size w w' := by
  refine call_intro Tryz.func58 rfl Tryz.ntmps58 (by simp) hμ ?_
  rw [← isF_whole]
  repeat' (first | (with_reducible (first | apply gc_seq | apply gc_region | apply g_nil | apply gq_then | apply gc_block | apply gc_exit | apply gc_ret | apply gc_skip | apply gq_then_exit | apply gq_then_ret | apply gq_block_same | apply gq_block_normal | apply gq_block_ret)) | ((with_reducible apply g_p); exact rfl) | ((with_reducible apply g_enter_s); exact rfl; exact rfl; exact rfl; (first | ((with_reducible apply e_call1); kernel_rfl; exact rfl)); exact fun w μc hw hse => refIs_spec w μc hw v) | ((with_reducible apply gc_if); exact rfl) | (with_reducible (first | apply pif_t | apply pif_f | apply pif_not)) | ((with_reducible apply pif_decT); (first | omega | with_reducible assumption | with_reducible rfl)) | ((with_reducible apply pif_decF); (first | omega | with_reducible assumption | with_reducible exact ne_self_f _)) | (((with_reducible apply pif_tt); exact rfl)) | (((with_reducible apply pif_ff); exact rfl)) | (with_reducible (first | refine pif_dec (fun hp => ?_) (fun hp => ?_) | refine pif_b (fun hp => ?_) (fun hp => ?_))) | ((with_reducible apply g_ld); exact rfl; exact rfl; (repeat first | with_reducible exact inb_hd | with_reducible apply inb_tl); exact rfl) | ((with_reducible apply g_v); exact rfl; (first | ((with_reducible apply v_field_n); exact rfl; exact rfl) | ((with_reducible apply v_aggeql); exact rfl; exact rfl; exact rfl; kernel_rfl; kernel_rfl; kernel_rfl; kernel_rfl))) | ((with_reducible apply g_nw); exact rfl; exact rfl; exact rfl; intro b) | ((with_reducible apply gq_block_other); exact rfl) | ((with_reducible apply g_if); exact rfl; (fail_if_success (with_reducible show NLit true)); (fail_if_success (with_reducible show NLit false)); exact nLit _))
  all_goals refine ret_s rfl rfl ?_
  all_goals simp [hp]
theorem some_at (v : V) {c : Bool} (h : wholeF v = c) : Calls Tryz.prog 58 #[.agg (encV v).toArray] w fun e w' => e = .returned (.bool c) ∧ Below w.heap.size w w' := by
  have := refSome_spec w μ hμ v
  rwa [h] at this
theorem refLess_spec (x y : V) : Calls Tryz.prog 31 #[.agg (encV x).toArray, .agg (encV y).toArray] w fun e w' => e = .returned (.tuple #[.bool (lessF x y).1, .bool (lessF x y).2]) ∧ Below w.heap.size w w' := by
  refine call_intro Tryz.func31 rfl Tryz.ntmps31 (by simp) hμ ?_
  cases hwa : wholeF x <;> cases hwb : wholeF y
  all_goals have hF : lessF x y = if wholeF x = true ∧ wholeF y = true then (decide (x.n < y.n), true) else (false, false) := rfl
  all_goals rw [hwa, hwb] at hF
  all_goals simp only [Bool.false_eq_true, and_self, and_false, false_and, if_false, if_true] at hF
  all_goals rw [hF]
  all_goals
    repeat' (first | (with_reducible (first | apply gc_seq | apply gc_region | apply g_nil | apply gq_then | apply gc_block | apply gc_exit | apply gc_ret | apply gc_skip | apply gq_then_exit | apply gq_then_ret | apply gq_block_same | apply gq_block_normal | apply gq_block_ret)) | ((with_reducible apply g_p); exact rfl) | ((with_reducible apply g_enter_s); exact rfl; exact rfl; exact rfl; (first | ((with_reducible apply e_call1); kernel_rfl; exact rfl)); first | exact fun w μc hw hse => some_at w μc hw x hwa | exact fun w μc hw hse => some_at w μc hw y hwb) | ((with_reducible apply gc_if); exact rfl) | (with_reducible (first | apply pif_t | apply pif_f | apply pif_not)) | ((with_reducible apply pif_decT); (first | omega | with_reducible assumption | with_reducible rfl)) | ((with_reducible apply pif_decF); (first | omega | with_reducible assumption | with_reducible exact ne_self_f _)) | (((with_reducible apply pif_tt); exact rfl)) | (((with_reducible apply pif_ff); exact rfl)) | (with_reducible (first | refine pif_dec (fun hp => ?_) (fun hp => ?_) | refine pif_b (fun hp => ?_) (fun hp => ?_))) | ((with_reducible apply g_ld); exact rfl; exact rfl; (repeat first | with_reducible exact inb_hd | with_reducible apply inb_tl); exact rfl) | ((with_reducible apply g_v); exact rfl; (first | ((with_reducible apply v_field_n); exact rfl; exact rfl))) | ((with_reducible apply g_nw); exact rfl; exact rfl; exact rfl; intro b) | ((with_reducible apply gq_block_other); exact rfl) | ((with_reducible apply g_if); exact rfl; (fail_if_success (with_reducible show NLit true)); (fail_if_success (with_reducible show NLit false)); exact nLit _))
    exact ret_s2 rfl rfl rfl rfl rfl
end
theorem digits_spec (n : Nat) : n ≤ 9007199254740992 → ∀ (w : World) (μ : Mem), MOk μ w → Calls Tryz.prog 90 #[.int .i64 n] w fun e w' => e = .returned (.string ⟨(Lib.decDigits n).toArray⟩) ∧ Below w.heap.size w w' := by
  induction n using Nat.strongRecOn with
  | _ n ih =>
    intro hn w μ hμ
    refine call_intro Tryz.func90 rfl Tryz.ntmps90 (by simp) hμ ?_
    by_cases h10 : n < 10
    · have hF : (⟨(Lib.decDigits n).toArray⟩ : ByteArray) = tenS.extract n (n + 1) := by rw [ten_at n h10, Lib.decDigits, dif_pos h10]
      rw [hF]
      have hts : tenS.size = 10 := rfl
      repeat' (first | (with_reducible (first | apply gc_seq | apply gc_region | apply g_nil | apply gq_then | apply gc_block | apply gc_exit | apply gc_ret | apply gc_skip | apply gq_then_exit | apply gq_then_ret | apply gq_block_same | apply gq_block_normal | apply gq_block_ret)) | ((with_reducible apply g_p); exact rfl) | ((with_reducible apply gc_if); exact rfl) | (with_reducible (first | apply pif_t | apply pif_f | apply pif_not)) | ((with_reducible apply pif_decT); (first | omega | with_reducible assumption | with_reducible rfl)) | ((with_reducible apply pif_decF); (first | omega | with_reducible assumption | with_reducible exact ne_self_f _)) | (((with_reducible apply pif_tt); exact rfl)) | (((with_reducible apply pif_ff); exact rfl)) | (with_reducible (first | refine pif_dec (fun hp => ?_) (fun hp => ?_) | refine pif_b (fun hp => ?_) (fun hp => ?_))) | ((with_reducible apply g_ar); exact rfl; omega) | ((with_reducible apply g_v); exact rfl; (first | ((with_reducible apply v_str_both (b := tenS) n (n + 1)); exact rfl; exact rfl; exact rfl; exact rfl; exact rfl; (first | exact rfl | omega); omega; omega) | ((with_reducible apply arB_sound); exact rfl; omega) | ((with_reducible apply v_slice_arr); exact rfl; exact rfl; exact rfl))) | ((with_reducible apply gq_block_other); exact rfl) | ((with_reducible apply g_if); exact rfl; (fail_if_success (with_reducible show NLit true)); (fail_if_success (with_reducible show NLit false)); exact nLit _))
      exact ret_s rfl rfl rfl
    · have hF : (⟨(Lib.decDigits n).toArray⟩ : ByteArray) = (⟨(Lib.decDigits (n / 10)).toArray⟩ : ByteArray) ++ tenS.extract (n % 10) (n % 10 + 1) := by
        rw [ten_at (n % 10) (by omega), Lib.decDigits, dif_neg h10, ← append_bytes]
      rw [hF]
      have hts : tenS.size = 10 := rfl
      have hl := digits_len (n / 10)
      have hsz : (⟨(Lib.decDigits (n / 10)).toArray⟩ : ByteArray).size + (tenS.extract (n % 10) (n % 10 + 1)).size ≤ 9223372036854775807 := by
        have h1 : (⟨(Lib.decDigits (n / 10)).toArray⟩ : ByteArray).size = (Lib.decDigits (n / 10)).length := by simp [ByteArray.size]
        rw [h1, ten_at (n % 10) (by omega)]
        have h2 : (⟨#[UInt8.ofNat (48 + n % 10)]⟩ : ByteArray).size = 1 := rfl
        omega
      have hq : (n : Int).tdiv 10 = ((n / 10 : Nat) : Int) := rfl
      have hr : (n : Int).tmod 10 = ((n % 10 : Nat) : Int) := rfl
      have hqb : -9223372036854775808 ≤ (n : Int).tdiv 10 ∧ (n : Int).tdiv 10 ≤ 9223372036854775807 := by rw [hq]; omega
      repeat' (first | (with_reducible (first | apply gc_seq | apply gc_region | apply g_nil | apply gq_then | apply gc_block | apply gc_exit | apply gc_ret | apply gc_skip | apply gq_then_exit | apply gq_then_ret | apply gq_block_same | apply gq_block_normal | apply gq_block_ret)) | ((with_reducible apply g_p); exact rfl) | ((with_reducible apply gc_if); exact rfl) | (with_reducible (first | apply pif_t | apply pif_f | apply pif_not)) | ((with_reducible apply pif_decT); (first | omega | with_reducible assumption | with_reducible rfl)) | ((with_reducible apply pif_decF); (first | omega | with_reducible assumption | with_reducible exact ne_self_f _)) | (((with_reducible apply pif_tt); exact rfl)) | (((with_reducible apply pif_ff); exact rfl)) | (with_reducible (first | refine pif_dec (fun hp => ?_) (fun hp => ?_) | refine pif_b (fun hp => ?_) (fun hp => ?_))) | ((with_reducible apply g_ar); exact rfl; omega) | ((with_reducible apply g_v); exact rfl; (first | ((with_reducible apply arB_sound); exact rfl; omega) | ((with_reducible apply v_slice_arr); exact rfl; exact rfl; exact rfl))) | ((with_reducible apply gq_block_other); exact rfl) | ((with_reducible apply g_if); exact rfl; (fail_if_success (with_reducible show NLit true)); (fail_if_success (with_reducible show NLit false)); exact nLit _))
      refine gc_draw 12 (_) (by kernel_rfl) rfl (by first | exact List.Sublist.refl _ | simp) ?_
      all_goals ((with_reducible apply ga_p 0); exact rfl; kernel_rfl; (exact fun _ _ _ h => h))
      all_goals (first | ((with_reducible apply ga_p 1); exact rfl; kernel_rfl; (exact fun _ _ _ h => h)) | ((with_reducible apply ga_v 1); exact rfl; kernel_rfl; (exact fun _ _ _ h => h); (first | ((with_reducible apply v_str_both (b := tenS) (n % 10) (n % 10 + 1)); exact rfl; exact rfl; exact rfl; exact hr; exact rfl; (rw [hr]; rfl); omega; omega) | ((with_reducible apply v_sadd); exact rfl; exact rfl; exact hsz) | ((with_reducible apply v_quo_i); exact rfl; exact rfl; (first | omega | with_reducible assumption); (first | omega | with_reducible assumption)) | ((with_reducible apply arI_sound); exact rfl; omega))))
      all_goals ((with_reducible apply ga_p 3); exact rfl; kernel_rfl; (exact fun _ _ _ h => h))
      all_goals ((with_reducible apply ga_p 4); exact rfl; kernel_rfl; (exact fun _ _ _ h => h))
      all_goals (first | ((with_reducible apply ga_p 5); exact rfl; kernel_rfl; (exact fun _ _ _ h => h)) | ((with_reducible apply ga_v 5); exact rfl; kernel_rfl; (exact fun _ _ _ h => h); (first | ((with_reducible apply v_str_both (b := tenS) (n % 10) (n % 10 + 1)); exact rfl; exact rfl; exact rfl; exact hr; exact rfl; (rw [hr]; rfl); omega; omega) | ((with_reducible apply v_sadd); exact rfl; exact rfl; exact hsz) | ((with_reducible apply v_rem); exact rfl; exact rfl; (first | omega | with_reducible assumption)) | ((with_reducible apply arI_sound); exact rfl; omega))))
      all_goals ((with_reducible apply ga_p 6); exact rfl; kernel_rfl; (exact fun _ _ _ h => h))
      all_goals (first | ((with_reducible apply ga_p 7); exact rfl; kernel_rfl; (exact fun _ _ _ h => h)) | ((with_reducible apply ga_v 7); exact rfl; kernel_rfl; (exact fun _ _ _ h => h); (first | ((with_reducible apply v_str_both (b := tenS) (n % 10) (n % 10 + 1)); exact rfl; exact rfl; exact rfl; exact hr; exact rfl; (rw [hr]; rfl); omega; omega) | ((with_reducible apply v_sadd); exact rfl; exact rfl; exact hsz) | ((with_reducible apply v_rem); exact rfl; exact rfl; (first | omega | with_reducible assumption)) | ((with_reducible apply arI_sound); exact rfl; omega))))
      all_goals (first | ((with_reducible apply ga_p 8); exact rfl; kernel_rfl; (exact fun _ _ _ h => h)) | ((with_reducible apply ga_v 8); exact rfl; kernel_rfl; (exact fun _ _ _ h => h); (first | ((with_reducible apply v_str_both (b := tenS) (n % 10) (n % 10 + 1)); exact rfl; exact rfl; exact rfl; exact hr; exact rfl; (rw [hr]; rfl); omega; omega) | ((with_reducible apply v_sadd); exact rfl; exact rfl; exact hsz) | ((with_reducible apply arB_sound); exact rfl; omega) | ((with_reducible apply arI_sound); exact rfl; omega))))
      all_goals (first | ((with_reducible apply ga_p 9); exact rfl; kernel_rfl; (exact fun _ _ _ h => h)) | ((with_reducible apply ga_v 9); exact rfl; kernel_rfl; (exact fun _ _ _ h => h); (first | ((with_reducible apply v_str_both (b := tenS) (n % 10) (n % 10 + 1)); exact rfl; exact rfl; exact rfl; exact hr; exact rfl; (rw [hr]; rfl); omega; omega) | ((with_reducible apply v_sadd); exact rfl; exact rfl; exact hsz) | ((with_reducible apply v_slice_arr); exact rfl; exact rfl; exact rfl))))
      all_goals (first | ((with_reducible apply ga_all1 2); kernel_rfl; (with_reducible apply gaop_g); exact rfl; (first | ((with_reducible apply g_enter_s); exact rfl; exact rfl; exact rfl; (first | ((with_reducible apply e_call1); kernel_rfl; exact rfl)); exact fun w μc hw hse => ih (n / 10) (by omega) (by omega) w μc hw)); (with_reducible apply g_ga_nil); (first | exact MLe.refl _ | assumption | exact MLe.trans ‹_› ‹_›); (repeat first | exact List.Sublist.refl _ | exact List.nil_sublist _ | refine List.Sublist.cons_cons _ ?_ | refine List.Sublist.cons _ ?_)))
      all_goals (first | ((with_reducible apply ga_p 10); exact rfl; kernel_rfl; (exact fun _ _ _ h => h)) | ((with_reducible apply ga_v 10); exact rfl; kernel_rfl; (exact fun _ _ _ h => h); (first | ((with_reducible apply v_str_both (b := tenS) (n % 10) (n % 10 + 1)); exact rfl; exact rfl; exact rfl; exact hr; exact rfl; (rw [hr]; rfl); omega; omega) | ((with_reducible apply v_sadd); exact rfl; exact rfl; exact hsz) | ((with_reducible apply arB_sound); exact rfl; omega) | ((with_reducible apply arI_sound); exact rfl; omega))))
      all_goals ((with_reducible apply ga_p 11); exact rfl; kernel_rfl; (exact fun _ _ _ h => h))
      all_goals ((with_reducible apply ga_done); kernel_rfl)
      repeat' (first | (with_reducible (first | apply gc_seq | apply gc_region | apply g_nil | apply gq_then | apply gc_block | apply gc_exit | apply gc_ret | apply gc_skip | apply gq_then_exit | apply gq_then_ret | apply gq_block_same | apply gq_block_normal | apply gq_block_ret)) | ((with_reducible apply g_p); exact rfl) | ((with_reducible apply gc_if); exact rfl) | (with_reducible (first | apply pif_t | apply pif_f | apply pif_not)) | ((with_reducible apply pif_decT); (first | omega | with_reducible assumption | with_reducible rfl)) | ((with_reducible apply pif_decF); (first | omega | with_reducible assumption | with_reducible exact ne_self_f _)) | (((with_reducible apply pif_tt); exact rfl)) | (((with_reducible apply pif_ff); exact rfl)) | (with_reducible (first | refine pif_dec (fun hp => ?_) (fun hp => ?_) | refine pif_b (fun hp => ?_) (fun hp => ?_))) | ((with_reducible apply g_ar); exact rfl; omega) | ((with_reducible apply g_v); exact rfl; (first | ((with_reducible apply arB_sound); exact rfl; omega) | ((with_reducible apply v_slice_arr); exact rfl; exact rfl; exact rfl))) | ((with_reducible apply gq_block_other); exact rfl) | ((with_reducible apply g_if); exact rfl; (fail_if_success (with_reducible show NLit true)); (fail_if_success (with_reducible show NLit false)); exact nLit _))
      exact ret_s rfl rfl rfl
end Go.Proofs.YtlhmgadmolojmaaGreatDoor
