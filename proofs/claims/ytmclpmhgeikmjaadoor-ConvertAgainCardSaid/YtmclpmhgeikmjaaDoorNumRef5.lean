/- The reference's Text, times and Two. -/
import Derived.Test.YtmclpmhgeikmjaaDoorNumRef4
namespace Go.Proofs.YtmclpmhgeikmjaaDoor
open Go.RowKit Go.Vcg

/-- what a product's parts say: all have one sign -/
theorem parts (a b : Int) (ha : -9007199254740992 ≤ a ∧ a ≤ 9007199254740992) (hb : -9007199254740992 ≤ b ∧ b ≤ 9007199254740992) :
    ∃ (s : Int) (T M1 M2 R : Nat), (s = 1 ∨ s = -1) ∧ a.tdiv 67108864 * b.tdiv 67108864 = s * T ∧ a.tdiv 67108864 * b.tmod 67108864 = s * M1 ∧ a.tmod 67108864 * b.tdiv 67108864 = s * M2 ∧ a.tmod 67108864 * b.tmod 67108864 = s * R ∧
      a * b = s * (T * 4503599627370496 + (M1 + M2) * 67108864 + R) ∧ T ≤ 18014398509481984 ∧ M1 ≤ 9007199254740992 ∧ M2 ≤ 9007199254740992 ∧ R ≤ 4503599627370496 := by
  have sg : ∀ x : Int, ∃ s : Int, (s = 1 ∨ s = -1) ∧ x = s * (x.natAbs : Int) := fun x => by
    rcases Int.le_total 0 x with h | h
    · exact ⟨1, .inl rfl, by omega⟩
    · exact ⟨-1, .inr rfl, by omega⟩
  have dv : ∀ (s : Int) (n : Nat), (s = 1 ∨ s = -1) → (s * (n : Int)).tdiv 67108864 = s * ((n / 67108864 : Nat) : Int) ∧ (s * (n : Int)).tmod 67108864 = s * ((n % 67108864 : Nat) : Int) := fun s n hs => by
    rcases hs with rfl | rfl
    · rw [Int.one_mul, Int.one_mul, Int.one_mul]; exact ⟨rfl, rfl⟩
    · rw [Int.neg_one_mul, Int.neg_one_mul, Int.neg_one_mul, Int.neg_tdiv, Int.neg_tmod]; exact ⟨rfl, rfl⟩
  obtain ⟨s, hs, ea⟩ := sg a
  obtain ⟨t, ht, eb⟩ := sg b
  have hA : a.natAbs ≤ 9007199254740992 := by omega
  have hB : b.natAbs ≤ 9007199254740992 := by omega
  obtain ⟨d1, m1⟩ := dv s a.natAbs hs
  obtain ⟨d2, m2⟩ := dv t b.natAbs ht
  rw [← ea] at d1 m1
  rw [← eb] at d2 m2
  have hsa : a.natAbs = a.natAbs / 67108864 * 67108864 + a.natAbs % 67108864 := by omega
  have hsb : b.natAbs = b.natAbs / 67108864 * 67108864 + b.natAbs % 67108864 := by omega
  have b1 : a.natAbs / 67108864 ≤ 134217728 := by omega
  have b2 : b.natAbs / 67108864 ≤ 134217728 := by omega
  have b3 : a.natAbs % 67108864 ≤ 67108864 := by omega
  have b4 : b.natAbs % 67108864 ≤ 67108864 := by omega
  generalize a.natAbs / 67108864 = H at *
  generalize b.natAbs / 67108864 = U at *
  generalize a.natAbs % 67108864 = L at *
  generalize b.natAbs % 67108864 = D at *
  have e : ∀ (x y : Nat), s * (x : Int) * (t * (y : Int)) = s * t * ((x * y : Nat) : Int) := fun x y => by
    rw [Int.natCast_mul]
    rw [Int.mul_assoc, Int.mul_assoc, ← Int.mul_assoc (x : Int) t, Int.mul_comm (x : Int) t, Int.mul_assoc]
  refine ⟨s * t, H * U, H * D, L * U, L * D, ?_, by rw [d1, d2, e], by rw [d1, m2, e], by rw [m1, d2, e], by rw [m1, m2, e], ?_, ?_, ?_, ?_, ?_⟩
  · rcases hs with rfl | rfl <;> rcases ht with rfl | rfl <;> simp
  · rw [ea, eb, e, hsa, hsb]
    congr 1
    rw [Nat.add_mul, Nat.mul_add, Nat.mul_add]
    have h1 : H * 67108864 * (U * 67108864) = H * U * 4503599627370496 := by
      rw [Nat.mul_mul_mul_comm]
    have h2 : H * 67108864 * D = H * D * 67108864 := by rw [Nat.mul_right_comm]
    have h3 : L * (U * 67108864) = L * U * 67108864 := by rw [Nat.mul_assoc]
    rw [h1, h2, h3]
    omega
  · exact Nat.le_trans (Nat.mul_le_mul b1 b2) (by decide)
  · exact Nat.le_trans (Nat.mul_le_mul b1 b4) (by decide)
  · exact Nat.le_trans (Nat.mul_le_mul b3 b2) (by decide)
  · exact Nat.le_trans (Nat.mul_le_mul b3 b4) (by decide)

theorem tmod_eq (x y : Int) : x - y * x.tdiv y = x.tmod y := (Int.tmod_def x y).symm
attribute [local irreducible] G GC GQ GA GAop Calls IntKind.wrap Int.decLt Int.decLe
section
variable (w : World) (μ : Mem) (hμ : MOk μ w)
include hμ
theorem refText_spec (v : V) : Calls Tryd.prog 27 #[.agg (encV v).toArray] w fun e w' => e = .returned (.string (textF v)) ∧ Below w.heap.size w w' := by
  refine call_intro Tryd.func27 rfl Tryd.ntmps27 (by simp) hμ ?_
  cases hw : wholeF v
  · have hF : textF v = nanS := by unfold textF; rw [if_neg (by simp [hw])]
    rw [hF]
    repeat' (first | (with_reducible (first | apply gc_seq | apply gc_region | apply g_nil | apply gq_then | apply gc_block | apply gc_exit | apply gc_ret | apply gc_skip | apply gq_then_exit | apply gq_then_ret | apply gq_block_same | apply gq_block_normal | apply gq_block_ret)) | ((with_reducible apply g_p); exact rfl) | ((with_reducible show G _ _ _ _ (Oper.mk _ (Op.call (Call.mk (Callee.value (Operand.func 36)) _ _)) _ _ _ _ :: _) _ _ _); (with_reducible apply g_enter_s); exact rfl; exact rfl; exact rfl; (first | ((with_reducible apply e_call1); kernel_rfl; exact rfl)); exact fun w μc hw' hse => some_at w μc hw' v hw) | ((with_reducible apply gc_if); exact rfl) | (with_reducible (first | apply pif_t | apply pif_f | apply pif_not)) | ((with_reducible apply pif_decT); (first | omega | with_reducible assumption | with_reducible rfl)) | ((with_reducible apply pif_decF); (first | omega | with_reducible assumption | with_reducible exact ne_self_f _)) | (((with_reducible apply pif_tt); exact rfl)) | (((with_reducible apply pif_ff); exact rfl)) | (with_reducible (first | refine pif_dec (fun hp => ?_) (fun hp => ?_) | refine pif_b (fun hp => ?_) (fun hp => ?_))) | ((with_reducible apply g_ar); exact rfl; omega) | ((with_reducible apply g_ld); exact rfl; exact rfl; (repeat first | with_reducible exact inb_hd | with_reducible apply inb_tl); exact rfl) | ((with_reducible apply g_v); exact rfl; (first | ((with_reducible apply v_field_n); exact rfl; exact rfl) | ((with_reducible apply v_neg_i); exact rfl; omega) | ((with_reducible apply arB_sound); exact rfl; omega))) | ((with_reducible apply g_nw); exact rfl; exact rfl; exact rfl; intro b) | ((with_reducible apply gq_block_other); exact rfl) | ((with_reducible apply g_if); exact rfl; (fail_if_success (with_reducible show NLit true)); (fail_if_success (with_reducible show NLit false)); exact nLit _))
    exact ret_s rfl rfl rfl
  · have hn := wholeF_n hw
    by_cases h0 : v.n < 0
    · have hF : textF v = (⟨#[45]⟩ : ByteArray) ++ (⟨(Lib.decDigits (-v.n).toNat).toArray⟩ : ByteArray) := by
        unfold textF; rw [if_pos hw]
        unfold Lib.itoa; rw [if_pos h0]
        have : v.n.natAbs = (-v.n).toNat := by omega
        rw [this]
        exact (append_bytes [45] _).symm
      rw [hF]
      have hd : -v.n = (((-v.n).toNat : Nat) : Int) := by omega
      have hl := digits_len (-v.n).toNat
      have hsz : (⟨#[45]⟩ : ByteArray).size + (⟨(Lib.decDigits (-v.n).toNat).toArray⟩ : ByteArray).size ≤ 9223372036854775807 := by
        have h1 : (⟨(Lib.decDigits (-v.n).toNat).toArray⟩ : ByteArray).size = (Lib.decDigits (-v.n).toNat).length := by simp [ByteArray.size]
        have h2 : (⟨#[45]⟩ : ByteArray).size = 1 := rfl
        omega
      have hdig : ∀ (w : World) (μ : Mem), MOk μ w → Calls Tryd.prog 37 #[.int .i64 (-v.n)] w fun e w' => e = .returned (.string ⟨(Lib.decDigits (-v.n).toNat).toArray⟩) ∧ Below w.heap.size w w' := fun w μ hμ => by
        have := digits_spec (-v.n).toNat (by omega) w μ hμ
        rw [← hd] at this
        exact this
      repeat' (first | (with_reducible (first | apply gc_seq | apply gc_region | apply g_nil | apply gq_then | apply gc_block | apply gc_exit | apply gc_ret | apply gc_skip | apply gq_then_exit | apply gq_then_ret | apply gq_block_same | apply gq_block_normal | apply gq_block_ret)) | ((with_reducible apply g_p); exact rfl) | ((with_reducible show G _ _ _ _ (Oper.mk _ (Op.call (Call.mk (Callee.value (Operand.func 36)) _ _)) _ _ _ _ :: _) _ _ _); (with_reducible apply g_enter_s); exact rfl; exact rfl; exact rfl; (first | ((with_reducible apply e_call1); kernel_rfl; exact rfl)); exact fun w μc hw' hse => some_at w μc hw' v hw) | ((with_reducible show G _ _ _ _ (Oper.mk _ (Op.call (Call.mk (Callee.value (Operand.func 37)) _ _)) _ _ _ _ :: _) _ _ _); (with_reducible apply g_enter_s); exact rfl; exact rfl; exact rfl; (first | ((with_reducible apply e_call1); kernel_rfl; exact rfl)); exact fun w μc hw' hse => hdig w μc hw') | ((with_reducible apply gc_if); exact rfl) | (with_reducible (first | apply pif_t | apply pif_f | apply pif_not)) | ((with_reducible apply pif_decT); (first | omega | with_reducible assumption | with_reducible rfl)) | ((with_reducible apply pif_decF); (first | omega | with_reducible assumption | with_reducible exact ne_self_f _)) | (((with_reducible apply pif_tt); exact rfl)) | (((with_reducible apply pif_ff); exact rfl)) | (with_reducible (first | refine pif_dec (fun hp => ?_) (fun hp => ?_) | refine pif_b (fun hp => ?_) (fun hp => ?_))) | ((with_reducible apply g_ar); exact rfl; omega) | ((with_reducible apply g_ld); exact rfl; exact rfl; (repeat first | with_reducible exact inb_hd | with_reducible apply inb_tl); exact rfl) | ((with_reducible apply g_v); exact rfl; (first | ((with_reducible apply v_sadd); exact rfl; exact rfl; exact hsz) | ((with_reducible apply v_field_n); exact rfl; exact rfl) | ((with_reducible apply v_neg_i); exact rfl; omega) | ((with_reducible apply arB_sound); exact rfl; omega))) | ((with_reducible apply g_nw); exact rfl; exact rfl; exact rfl; intro b) | ((with_reducible apply gq_block_other); exact rfl) | ((with_reducible apply g_if); exact rfl; (fail_if_success (with_reducible show NLit true)); (fail_if_success (with_reducible show NLit false)); exact nLit _))
      exact ret_s rfl rfl rfl
    · have hF : textF v = ⟨(Lib.decDigits v.n.toNat).toArray⟩ := by
        unfold textF; rw [if_pos hw]
        unfold Lib.itoa; rw [if_neg h0]
      rw [hF]
      have hd : v.n = ((v.n.toNat : Nat) : Int) := by omega
      have hdig : ∀ (w : World) (μ : Mem), MOk μ w → Calls Tryd.prog 37 #[.int .i64 v.n] w fun e w' => e = .returned (.string ⟨(Lib.decDigits v.n.toNat).toArray⟩) ∧ Below w.heap.size w w' := fun w μ hμ => by
        have := digits_spec v.n.toNat (by omega) w μ hμ
        rw [← hd] at this
        exact this
      repeat' (first | (with_reducible (first | apply gc_seq | apply gc_region | apply g_nil | apply gq_then | apply gc_block | apply gc_exit | apply gc_ret | apply gc_skip | apply gq_then_exit | apply gq_then_ret | apply gq_block_same | apply gq_block_normal | apply gq_block_ret)) | ((with_reducible apply g_p); exact rfl) | ((with_reducible show G _ _ _ _ (Oper.mk _ (Op.call (Call.mk (Callee.value (Operand.func 36)) _ _)) _ _ _ _ :: _) _ _ _); (with_reducible apply g_enter_s); exact rfl; exact rfl; exact rfl; (first | ((with_reducible apply e_call1); kernel_rfl; exact rfl)); exact fun w μc hw' hse => some_at w μc hw' v hw) | ((with_reducible show G _ _ _ _ (Oper.mk _ (Op.call (Call.mk (Callee.value (Operand.func 37)) _ _)) _ _ _ _ :: _) _ _ _); (with_reducible apply g_enter_s); exact rfl; exact rfl; exact rfl; (first | ((with_reducible apply e_call1); kernel_rfl; exact rfl)); exact fun w μc hw' hse => hdig w μc hw') | ((with_reducible apply gc_if); exact rfl) | (with_reducible (first | apply pif_t | apply pif_f | apply pif_not)) | ((with_reducible apply pif_decT); (first | omega | with_reducible assumption | with_reducible rfl)) | ((with_reducible apply pif_decF); (first | omega | with_reducible assumption | with_reducible exact ne_self_f _)) | (((with_reducible apply pif_tt); exact rfl)) | (((with_reducible apply pif_ff); exact rfl)) | (with_reducible (first | refine pif_dec (fun hp => ?_) (fun hp => ?_) | refine pif_b (fun hp => ?_) (fun hp => ?_))) | ((with_reducible apply g_ar); exact rfl; omega) | ((with_reducible apply g_ld); exact rfl; exact rfl; (repeat first | with_reducible exact inb_hd | with_reducible apply inb_tl); exact rfl) | ((with_reducible apply g_v); exact rfl; (first | ((with_reducible apply v_field_n); exact rfl; exact rfl) | ((with_reducible apply v_neg_i); exact rfl; omega) | ((with_reducible apply arB_sound); exact rfl; omega))) | ((with_reducible apply g_nw); exact rfl; exact rfl; exact rfl; intro b) | ((with_reducible apply gq_block_other); exact rfl) | ((with_reducible apply g_if); exact rfl; (fail_if_success (with_reducible show NLit true)); (fail_if_success (with_reducible show NLit false)); exact nLit _))
      exact ret_s rfl rfl rfl
end
end Go.Proofs.YtmclpmhgeikmjaaDoor
