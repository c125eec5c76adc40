/- Numbers of package num: what Read computes, and its contract. -/
import Derived.Test.YtlhmgadmolojmaaDoorNum1
import Derived.Test.YtlhmgadmolojmaaDoorShelf
set_option maxRecDepth 20000
namespace Go.Proofs.YtlhmgadmolojmaaDoor
open Go.RowKit Go.Vcg

def cutB : List UInt8 := [9, 10, 13, 32]
def numOr (r : Int × Bool) (sign : Int) : V := if r.2 then ofF (sign * r.1) else nanV
def readT (t : List UInt8) : V :=
  if t = [] then ofF 0 else if t.take 2 = [48, 120] ∨ t.take 2 = [48, 88] then numOr (count2 16 (t.drop 2)) 1
  else numOr (count2 10 (if t.head? = some 45 ∨ t.head? = some 43 then t.drop 1 else t)) (if t.head? = some 45 then -1 else 1)
def readF (l : List UInt8) : V := readT (Lib.trimS l cutB)
theorem trim_len (l : List UInt8) : (Lib.trimS l cutB).length ≤ l.length := by
  unfold Lib.trimS Lib.trimLeftS Lib.trimRightS
  have h1 := (List.dropWhile_sublist (cutB.contains ·) (l := List.reverse (List.dropWhile (cutB.contains ·) l.reverse))).length_le
  have h2 := (List.dropWhile_sublist (cutB.contains ·) (l := l.reverse)).length_le
  simp only [List.length_reverse] at h1 h2
  omega
theorem count2_lo (base : Int) (l : List UInt8) (hb : base = 10 ∨ base = 16) : 0 ≤ (count2 base l).1 ∧ (count2 base l).1 ≤ 9007199254740992 := by
  have key : ∀ (l : List UInt8) (n : Int), 0 ≤ n → n ≤ 9007199254740992 → ∀ m, countF base l n = some m → 0 ≤ m ∧ m ≤ 9007199254740992 := by
    intro l
    induction l with
    | nil => intro n h0 h1 m h; simp only [countF, Option.some.injEq] at h; omega
    | cons b l ih =>
      intro n h0 h1 m h
      rw [countF] at h
      split at h
      · cases h
      · split at h
        · cases h
        · have := digitF_lo (c := b.toNat) (by omega)
          refine ih _ ?_ ?_ m h
          · rcases hb with rfl | rfl <;> omega
          · omega
  unfold count2
  split
  · rename_i n h; exact key l 0 (by omega) (by omega) n h
  · simp

attribute [local irreducible] G GC GQ GA GAop Calls IntKind.wrap Int.decLt Int.decLe
theorem trim_spec (s : ByteArray) (hs : s.size ≤ 9223372036854775807) (w : World) :
    Calls Tryd.prog 54 #[.string s, .string ⟨#[9, 10, 13, 32]⟩] w fun e w' => e = .returned (.string ⟨(Lib.trimS (bl s) cutB).toArray⟩) ∧ Below w.heap.size w w' :=
  Any.strings_Trim_laid Tryd.lays160 (by kernel_rfl) s ⟨#[9, 10, 13, 32]⟩ w hs (by decide) (ascii_of_all (by decide))

theorem numOr_t {r : Int × Bool} {sign : Int} (h : r.2 = true) : numOr r sign = ofF (sign * r.1) := by unfold numOr; rw [if_pos h]
theorem numOr_f {r : Int × Bool} {sign : Int} (h : r.2 = false) : numOr r sign = nanV := by unfold numOr; rw [if_neg (by simp [h])]
theorem head_at {s : ByteArray} {b : UInt8} (h : 0 < s.size) : (bl s).head? = some b ↔ bAt s 0 = b.toNat := by
  obtain ⟨c, h1, h2⟩ := bl_at h
  rw [List.head?_eq_getElem?, h1, h2]
  constructor
  · intro e; cases e; rfl
  · intro e
    have : c = b := UInt8.toNat_inj.1 (by omega)
    rw [this]
theorem read_spec (s : ByteArray) (hs : s.size ≤ 9223372036854775807) (w : World) (μ : Mem) (hμ : MOk μ w) :
    Calls Tryd.prog 37 #[.string s] w fun e w' => e = .returned (.agg (encV (readF (bl s))).toArray) ∧ Below w.heap.size w w' := by
  refine call_intro Tryd.func37 rfl Tryd.ntmps37 (by simp) hμ ?_
  unfold readF
  have hl := trim_len (bl s)
  rw [bl_len] at hl
  generalize ht : (⟨(Lib.trimS (bl s) cutB).toArray⟩ : ByteArray) = t
  have hbt : Lib.trimS (bl s) cutB = bl t := by rw [← ht]
  have htl : t.size ≤ 9223372036854775807 := by rw [← bl_len, ← hbt]; omega
  rw [hbt]
  have htrim : ∀ w, Calls Tryd.prog 54 #[.string s, .string ⟨#[9, 10, 13, 32]⟩] w fun e w' => e = .returned (.string t) ∧ Below w.heap.size w w' := fun w => by
    have := trim_spec s hs w
    rw [ht] at this
    exact this
  clear ht hbt hl
  by_cases h0 : t = ⟨#[]⟩
  · subst h0
    have hr : readT (bl ⟨#[]⟩) = ofF 0 := by unfold readT; exact if_pos rfl
    rw [hr]
    repeat' (first | (with_reducible (first | apply gc_seq | apply gc_region | apply g_nil | apply gq_then | apply gc_block | apply gc_exit | apply gc_ret | apply gc_skip | apply gq_then_exit | apply gq_then_ret | apply gq_block_same | apply gq_block_normal | apply gq_block_ret)) | ((with_reducible apply g_p); exact rfl) | ((with_reducible show G _ _ _ _ (Oper.mk _ (Op.call (Call.mk (Callee.value (Operand.func 54)) _ _)) _ _ _ _ :: _) _ _ _); (with_reducible apply g_enter_s); exact rfl; exact rfl; exact rfl; (first | ((with_reducible apply e_call0); kernel_rfl) | ((with_reducible apply e_call1); kernel_rfl; exact rfl) | ((with_reducible apply e_call2); kernel_rfl; exact rfl; exact rfl)); exact fun w μc hw hse => htrim w) | ((with_reducible show G _ _ _ _ (Oper.mk _ (Op.call (Call.mk (Callee.value (Operand.func 35)) _ _)) _ _ _ _ :: _) _ _ _); (with_reducible apply g_enter_s); exact rfl; exact rfl; exact rfl; (first | ((with_reducible apply e_call0); kernel_rfl) | ((with_reducible apply e_call1); kernel_rfl; exact rfl) | ((with_reducible apply e_call2); kernel_rfl; exact rfl; exact rfl)); exact fun w μc hw hse => of_spec _ w μc hw) | ((with_reducible show G _ _ _ _ (Oper.mk _ (Op.call (Call.mk (Callee.value (Operand.func 47)) _ _)) _ _ _ _ :: _) _ _ _); (with_reducible apply g_enter_s); exact rfl; exact rfl; exact rfl; (first | ((with_reducible apply e_call0); kernel_rfl) | ((with_reducible apply e_call1); kernel_rfl; exact rfl) | ((with_reducible apply e_call2); kernel_rfl; exact rfl; exact rfl)); exact fun w μc hw hse => none_spec w μc hw) | ((with_reducible show G _ _ _ _ (Oper.mk _ (Op.call (Call.mk (Callee.value (Operand.func 55)) _ _)) _ _ _ _ :: _) _ _ _); (with_reducible apply g_enter_s); exact rfl; exact rfl; exact rfl; (first | ((with_reducible apply e_call0); kernel_rfl) | ((with_reducible apply e_call1); kernel_rfl; exact rfl) | ((with_reducible apply e_call2); kernel_rfl; exact rfl; exact rfl)); exact fun w μc hw hse => hasPrefix_spec t _ htl (by decide) w μc hw) | ((with_reducible apply gc_if); exact rfl) | (with_reducible (first | apply pif_t | apply pif_f | apply pif_not)) | ((with_reducible apply pif_decT); (first | omega | with_reducible assumption | with_reducible rfl)) | ((with_reducible apply pif_decF); (first | omega | with_reducible assumption | with_reducible exact ne_self_f _)) | (((with_reducible apply pif_tt); exact rfl)) | (((with_reducible apply pif_ff); exact rfl)) | (with_reducible (first | refine pif_dec (fun hp => ?_) (fun hp => ?_) | refine pif_b (fun hp => ?_) (fun hp => ?_))) | ((with_reducible apply g_ar); exact rfl; omega) | ((with_reducible apply g_v); exact rfl; (first | ((with_reducible apply v_sindex_n); exact rfl; exact rfl; exact rfl; omega) | ((with_reducible apply v_aggeql); exact rfl; exact rfl; exact rfl; kernel_rfl; kernel_rfl; kernel_rfl; kernel_rfl) | ((with_reducible apply v_slice_arr); exact rfl; exact rfl; exact rfl))) | ((with_reducible apply g_nw); exact rfl; exact rfl; exact rfl; intro b) | ((with_reducible apply g_st); exact rfl; exact rfl; (repeat first | with_reducible exact ones_nil | ((with_reducible apply ones_cons); (first | exact rfl | assumption))); (repeat first | with_reducible apply upb_hd | with_reducible apply upb_tl); exact rfl; (repeat first | with_reducible exact pc_nil | with_reducible apply pc_cons)) | ((with_reducible apply gq_block_other); exact rfl) | ((with_reducible apply g_if); exact rfl; (fail_if_success (with_reducible show NLit true)); (fail_if_success (with_reducible show NLit false)); exact nLit _))
    exact ret_v1 rfl (rv_agg 0 rfl rfl rfl rfl rfl (by repeat first | exact lc_nil | refine lc_cons rfl ?_)) rfl
  · have h0' : bl t ≠ [] := fun h => h0 ((bl_empty_iff t).2 h)
    have hpos : 0 < t.size := by
      rw [← bl_len]
      exact List.length_pos_iff.2 h0'
    by_cases h16 : (bl t).take 2 = [48, 120] ∨ (bl t).take 2 = [48, 88]
    · have h2 : 2 ≤ t.size := by
        have : ((bl t).take 2).length = 2 := by rcases h16 with h | h <;> rw [h] <;> rfl
        rw [List.length_take, bl_len] at this
        omega
      have hr : readT (bl t) = numOr (count2 16 ((bl t).drop 2)) 1 := by unfold readT; rw [if_neg h0', if_pos h16]
      rw [hr]
      have hu : bl (t.extract 2 t.size) = (bl t).drop 2 := by
        rw [bl_extract]
        exact List.take_of_length_le (by rw [List.length_drop, bl_len]; omega)
      have hus : (t.extract 2 t.size).size ≤ 9223372036854775807 := by rw [← bl_len, hu, List.length_drop, bl_len]; omega
      have hcnt : ∀ (w : World) (μ : Mem), MOk μ w → Calls Tryd.prog 56 #[.string (t.extract 2 t.size), .int .i64 16] w fun e w' => e = .returned (.tuple #[.int .i64 (count2 16 ((bl t).drop 2)).1, .bool (count2 16 ((bl t).drop 2)).2]) ∧ Below w.heap.size w w' := fun w μ hμ => by
        have := count_spec (t.extract 2 t.size) 16 (.inr rfl) hus w μ hμ
        rw [hu] at this
        exact this
      generalize count2 16 ((bl t).drop 2) = r at hcnt
      have q : ((bl t).take (ByteArray.size ⟨#[48, 120]⟩) = bl ⟨#[48, 120]⟩) ∨ (¬ (bl t).take (ByteArray.size ⟨#[48, 120]⟩) = bl ⟨#[48, 120]⟩ ∧ (bl t).take (ByteArray.size ⟨#[48, 88]⟩) = bl ⟨#[48, 88]⟩) := by
        by_cases h : (bl t).take 2 = [48, 120]
        · exact .inl h
        · exact .inr ⟨h, h16.resolve_left h⟩
      rcases q with q | ⟨q, q'⟩
      all_goals repeat' (first | (with_reducible (first | apply gc_seq | apply gc_region | apply g_nil | apply gq_then | apply gc_block | apply gc_exit | apply gc_ret | apply gc_skip | apply gq_then_exit | apply gq_then_ret | apply gq_block_same | apply gq_block_normal | apply gq_block_ret)) | ((with_reducible apply g_p); exact rfl) | ((with_reducible show G _ _ _ _ (Oper.mk _ (Op.call (Call.mk (Callee.value (Operand.func 54)) _ _)) _ _ _ _ :: _) _ _ _); (with_reducible apply g_enter_s); exact rfl; exact rfl; exact rfl; (first | ((with_reducible apply e_call0); kernel_rfl) | ((with_reducible apply e_call1); kernel_rfl; exact rfl) | ((with_reducible apply e_call2); kernel_rfl; exact rfl; exact rfl)); exact fun w μc hw hse => htrim w) | ((with_reducible show G _ _ _ _ (Oper.mk _ (Op.call (Call.mk (Callee.value (Operand.func 35)) _ _)) _ _ _ _ :: _) _ _ _); (with_reducible apply g_enter_s); exact rfl; exact rfl; exact rfl; (first | ((with_reducible apply e_call0); kernel_rfl) | ((with_reducible apply e_call1); kernel_rfl; exact rfl) | ((with_reducible apply e_call2); kernel_rfl; exact rfl; exact rfl)); exact fun w μc hw hse => of_spec _ w μc hw) | ((with_reducible show G _ _ _ _ (Oper.mk _ (Op.call (Call.mk (Callee.value (Operand.func 47)) _ _)) _ _ _ _ :: _) _ _ _); (with_reducible apply g_enter_s); exact rfl; exact rfl; exact rfl; (first | ((with_reducible apply e_call0); kernel_rfl) | ((with_reducible apply e_call1); kernel_rfl; exact rfl) | ((with_reducible apply e_call2); kernel_rfl; exact rfl; exact rfl)); exact fun w μc hw hse => none_spec w μc hw) | ((with_reducible show G _ _ _ _ (Oper.mk _ (Op.call (Call.mk (Callee.value (Operand.func 55)) _ _)) _ _ _ _ :: _) _ _ _); (with_reducible apply g_enter_s); exact rfl; exact rfl; exact rfl; (first | ((with_reducible apply e_call0); kernel_rfl) | ((with_reducible apply e_call1); kernel_rfl; exact rfl) | ((with_reducible apply e_call2); kernel_rfl; exact rfl; exact rfl)); exact fun w μc hw hse => hasPrefix_spec t _ htl (by decide) w μc hw) | ((with_reducible show G _ _ _ _ (Oper.mk _ (Op.call (Call.mk (Callee.value (Operand.func 56)) _ _)) _ _ _ _ :: _) _ _ _); (with_reducible apply g_enter_s); exact rfl; exact rfl; exact rfl; (first | ((with_reducible apply e_call0); kernel_rfl) | ((with_reducible apply e_call1); kernel_rfl; exact rfl) | ((with_reducible apply e_call2); kernel_rfl; exact rfl; exact rfl)); exact fun w μc hw hse => hcnt w μc hw) | ((with_reducible apply gc_if); exact rfl) | (with_reducible (first | apply pif_t | apply pif_f | apply pif_not)) | ((with_reducible apply pif_decT); (first | omega | with_reducible assumption | with_reducible rfl)) | ((with_reducible apply pif_decF); (first | omega | with_reducible assumption | with_reducible exact ne_self_f _)) | (((with_reducible apply pif_tt); exact rfl)) | (((with_reducible apply pif_ff); exact rfl)) | (with_reducible (first | refine pif_dec (fun hp => ?_) (fun hp => ?_) | refine pif_b (fun hp => ?_) (fun hp => ?_))) | ((with_reducible apply g_ar); exact rfl; omega) | ((with_reducible apply g_v); exact rfl; (first | ((with_reducible apply v_str_lo 2); exact rfl; exact rfl; exact rfl; exact rfl; omega) | ((with_reducible apply v_sindex_n); exact rfl; exact rfl; exact rfl; omega) | ((with_reducible apply v_aggeql); exact rfl; exact rfl; exact rfl; kernel_rfl; kernel_rfl; kernel_rfl; kernel_rfl) | ((with_reducible apply v_slice_arr); exact rfl; exact rfl; exact rfl))) | ((with_reducible apply g_nw); exact rfl; exact rfl; exact rfl; intro b) | ((with_reducible apply g_st); exact rfl; exact rfl; (repeat first | with_reducible exact ones_nil | ((with_reducible apply ones_cons); (first | exact rfl | assumption))); (repeat first | with_reducible apply upb_hd | with_reducible apply upb_tl); exact rfl; (repeat first | with_reducible exact pc_nil | with_reducible apply pc_cons)) | ((with_reducible apply gq_block_other); exact rfl) | ((with_reducible apply g_if); exact rfl; (fail_if_success (with_reducible show NLit true)); (fail_if_success (with_reducible show NLit false)); exact nLit _))
      all_goals first
        | (rw [numOr_t (by assumption), Int.one_mul]; exact ret_v1 rfl (rv_agg 0 rfl rfl rfl rfl rfl (by repeat first | exact lc_nil | refine lc_cons rfl ?_)) rfl)
        | (rw [numOr_f (by assumption)]; exact ret_v1 rfl (rv_agg 0 rfl rfl rfl rfl rfl (by repeat first | exact lc_nil | refine lc_cons rfl ?_)) rfl)
    · have hr : readT (bl t) = numOr (count2 10 (if (bl t).head? = some 45 ∨ (bl t).head? = some 43 then (bl t).drop 1 else bl t)) (if (bl t).head? = some 45 then -1 else 1) := by unfold readT; rw [if_neg h0', if_neg h16]
      rw [hr]
      have hh := head_at (s := t) (b := 45) hpos
      have hh' := head_at (s := t) (b := 43) hpos
      simp only [hh, hh']
      rw [show (45 : UInt8).toNat = 45 from rfl, show (43 : UInt8).toNat = 43 from rfl]
      clear hr hh hh'
      have hu : bl (t.extract 1 t.size) = (bl t).drop 1 := by
        rw [bl_extract]
        exact List.take_of_length_le (by rw [List.length_drop, bl_len]; omega)
      have hus : (t.extract 1 t.size).size ≤ 9223372036854775807 := by rw [← bl_len, hu, List.length_drop, bl_len]; omega
      have hcnt : ∀ (w : World) (μ : Mem), MOk μ w → Calls Tryd.prog 56 #[.string (t.extract 1 t.size), .int .i64 10] w fun e w' => e = .returned (.tuple #[.int .i64 (count2 10 ((bl t).drop 1)).1, .bool (count2 10 ((bl t).drop 1)).2]) ∧ Below w.heap.size w w' := fun w μ hμ => by
        have := count_spec (t.extract 1 t.size) 10 (.inl rfl) hus w μ hμ
        rw [hu] at this
        exact this
      have c1 := count2_lo 10 ((bl t).drop 1) (.inl rfl)
      have c2 := count2_lo 10 (bl t) (.inl rfl)
      have hb0 := bAt_lo t 0
      have n1 : ¬ (bl t).take (ByteArray.size ⟨#[48, 120]⟩) = bl ⟨#[48, 120]⟩ := fun h => h16 (.inl h)
      have n2 : ¬ (bl t).take (ByteArray.size ⟨#[48, 88]⟩) = bl ⟨#[48, 88]⟩ := fun h => h16 (.inr h)
      repeat' (first | (with_reducible (first | apply gc_seq | apply gc_region | apply g_nil | apply gq_then | apply gc_block | apply gc_exit | apply gc_ret | apply gc_skip | apply gq_then_exit | apply gq_then_ret | apply gq_block_same | apply gq_block_normal | apply gq_block_ret)) | ((with_reducible apply g_p); exact rfl) | ((with_reducible show G _ _ _ _ (Oper.mk _ (Op.call (Call.mk (Callee.value (Operand.func 54)) _ _)) _ _ _ _ :: _) _ _ _); (with_reducible apply g_enter_s); exact rfl; exact rfl; exact rfl; (first | ((with_reducible apply e_call0); kernel_rfl) | ((with_reducible apply e_call1); kernel_rfl; exact rfl) | ((with_reducible apply e_call2); kernel_rfl; exact rfl; exact rfl)); exact fun w μc hw hse => htrim w) | ((with_reducible show G _ _ _ _ (Oper.mk _ (Op.call (Call.mk (Callee.value (Operand.func 35)) _ _)) _ _ _ _ :: _) _ _ _); (with_reducible apply g_enter_s); exact rfl; exact rfl; exact rfl; (first | ((with_reducible apply e_call0); kernel_rfl) | ((with_reducible apply e_call1); kernel_rfl; exact rfl) | ((with_reducible apply e_call2); kernel_rfl; exact rfl; exact rfl)); exact fun w μc hw hse => of_spec _ w μc hw) | ((with_reducible show G _ _ _ _ (Oper.mk _ (Op.call (Call.mk (Callee.value (Operand.func 47)) _ _)) _ _ _ _ :: _) _ _ _); (with_reducible apply g_enter_s); exact rfl; exact rfl; exact rfl; (first | ((with_reducible apply e_call0); kernel_rfl) | ((with_reducible apply e_call1); kernel_rfl; exact rfl) | ((with_reducible apply e_call2); kernel_rfl; exact rfl; exact rfl)); exact fun w μc hw hse => none_spec w μc hw) | ((with_reducible show G _ _ _ _ (Oper.mk _ (Op.call (Call.mk (Callee.value (Operand.func 55)) _ _)) _ _ _ _ :: _) _ _ _); (with_reducible apply g_enter_s); exact rfl; exact rfl; exact rfl; (first | ((with_reducible apply e_call0); kernel_rfl) | ((with_reducible apply e_call1); kernel_rfl; exact rfl) | ((with_reducible apply e_call2); kernel_rfl; exact rfl; exact rfl)); exact fun w μc hw hse => hasPrefix_spec t _ htl (by decide) w μc hw) | ((with_reducible show G _ _ _ _ (Oper.mk _ (Op.call (Call.mk (Callee.value (Operand.func 56)) _ _)) _ _ _ _ :: _) _ _ _); (with_reducible apply g_enter_s); exact rfl; exact rfl; exact rfl; (first | ((with_reducible apply e_call0); kernel_rfl) | ((with_reducible apply e_call1); kernel_rfl; exact rfl) | ((with_reducible apply e_call2); kernel_rfl; exact rfl; exact rfl)); exact fun w μc hw hse => hcnt w μc hw) | ((with_reducible show G _ _ _ _ (Oper.mk _ (Op.call (Call.mk (Callee.value (Operand.func 56)) _ _)) _ _ _ _ :: _) _ _ _); (with_reducible apply g_enter_s); exact rfl; exact rfl; exact rfl; (first | ((with_reducible apply e_call0); kernel_rfl) | ((with_reducible apply e_call1); kernel_rfl; exact rfl) | ((with_reducible apply e_call2); kernel_rfl; exact rfl; exact rfl)); exact fun w μc hw hse => count_spec t 10 (.inl rfl) htl w μc hw) | ((with_reducible apply gc_if); exact rfl) | (with_reducible (first | apply pif_t | apply pif_f | apply pif_not)) | ((with_reducible apply pif_decT); (first | omega | with_reducible assumption | with_reducible rfl)) | ((with_reducible apply pif_decF); (first | omega | with_reducible assumption | with_reducible exact ne_self_f _)) | (((with_reducible apply pif_tt); exact rfl)) | (((with_reducible apply pif_ff); exact rfl)) | (with_reducible (first | refine pif_dec (fun hp => ?_) (fun hp => ?_) | refine pif_b (fun hp => ?_) (fun hp => ?_))) | ((with_reducible apply g_ar); exact rfl; omega) | ((with_reducible apply g_v); exact rfl; (first | ((with_reducible apply v_sindex 0); exact rfl; exact rfl; exact rfl; (first | exact rfl | omega); omega) | ((with_reducible apply v_str_lo 1); exact rfl; exact rfl; exact rfl; exact rfl; omega) | ((with_reducible apply v_sindex_n); exact rfl; exact rfl; exact rfl; omega) | ((with_reducible apply v_aggeql); exact rfl; exact rfl; exact rfl; kernel_rfl; kernel_rfl; kernel_rfl; kernel_rfl) | ((with_reducible apply v_slice_arr); exact rfl; exact rfl; exact rfl))) | ((with_reducible apply g_nw); exact rfl; exact rfl; exact rfl; intro b) | ((with_reducible apply g_st); exact rfl; exact rfl; (repeat first | with_reducible exact ones_nil | ((with_reducible apply ones_cons); (first | exact rfl | assumption))); (repeat first | with_reducible apply upb_hd | with_reducible apply upb_tl); exact rfl; (repeat first | with_reducible exact pc_nil | with_reducible apply pc_cons)) | ((with_reducible apply gq_block_other); exact rfl) | ((with_reducible apply g_if); exact rfl; (fail_if_success (with_reducible show NLit true)); (fail_if_success (with_reducible show NLit false)); exact nLit _))
      all_goals first | rw [if_pos (by omega)] | rw [if_neg (by omega)]
      all_goals first | rw [if_pos (by omega)] | rw [if_neg (by omega)]
      all_goals first
        | (rw [numOr_t (by assumption)]; exact ret_v1 rfl (rv_agg 0 rfl rfl rfl rfl rfl (by repeat first | exact lc_nil | refine lc_cons rfl ?_)) rfl)
        | (rw [numOr_f (by assumption)]; exact ret_v1 rfl (rv_agg 0 rfl rfl rfl rfl rfl (by repeat first | exact lc_nil | refine lc_cons rfl ?_)) rfl)
end Go.Proofs.YtlhmgadmolojmaaDoor
