/- How large what element makes can be; that a pattern is its own pattern; the contracts of plain and Params (as much of them as CoverTwice needs). -/
import Derived.Test.YtcjglalhchhcpaaCov15
namespace Go.Proofs.Ytcjglalhchhcpaa
open Go.RowKit Go.Vcg

theorem sizesT_cons (t : T) (l : List T) : sizesT (t :: l) = t.size + sizesT l := by simp [sizesT]
theorem sizesT_nil : sizesT [] = 0 := rfl
theorem sizesT_append (a b : List T) : sizesT (a ++ b) = sizesT a + sizesT b := by simp [sizesT]
theorem size_mk' (o a n m : Int) (s : ByteArray) (ks : List T) : (T.mk o a n m s ks).size = 1 + sizesT ks := T.size_eq _
theorem size_pos (t : T) : 1 ≤ t.size := by have := T.size_eq t; omega
theorem size_zero : T.zero.size = 1 := by simp [T.zero, T.size_eq, T.kids]
theorem sizes_map (h : Nat → T) : ∀ (ks : List T) (off : Nat), (∀ i k, ks[i]? = some k → (h (off + i)).size ≤ 2 * k.size) → sizesT ((List.range' off ks.length).map h) ≤ 2 * sizesT ks
  | [], off, _ => by simp [sizesT]
  | k :: ks, off, hh => by
    rw [List.length_cons, List.range'_succ, List.map_cons, sizesT_cons, sizesT_cons]
    have h0 := hh 0 k rfl
    have h1 := sizes_map h ks (off + 1) (fun i k hk => by have := hh (i + 1) k (by simpa using hk); rwa [show off + 1 + i = off + (i + 1) by omega])
    rw [Nat.add_zero] at h0
    omega
theorem byDefault_size (t : T) (deep : Int) : (byDefaultF t deep).1.size ≤ 2 * t.size := by
  have hp := size_pos t
  unfold byDefaultF
  split
  · simp only [errT, size_zero]; omega
  · split
    · rename_i a b hk
      split
      · show (T.mk 63 t.at' 0 0 empty [a, b]).size ≤ _
        rw [size_mk', T.size_eq t, hk]
        have : (List.map T.size [a, b]).sum = sizesT [a, b] := rfl
        omega
      · simp only [errT, size_zero]; omega
    · simp only [errT, size_zero]; omega
theorem short_size (t : T) (deep : Int) : (shortF t deep).1.size ≤ 2 * t.size := by
  have hp := size_pos t
  unfold shortF
  split
  · rename_i k hk
    have hs : t.size = 1 + sizesT [k] := by rw [T.size_eq t, hk]; rfl
    have hk1 := size_pos k
    simp only [sizesT_cons, sizesT_nil] at hs
    split
    · simp only [errT, size_zero]; omega
    · split
      · simp only [errT, size_zero]; omega
      · simp only [size_mk', sizesT_cons, sizesT_nil]; omega
  · rename_i k d hk
    have hs : t.size = 1 + sizesT [k, d] := by rw [T.size_eq t, hk]; rfl
    have hk1 := size_pos k
    have hd1 := size_pos d
    simp only [sizesT_cons, sizesT_nil] at hs
    split
    · simp only [errT, size_zero]; omega
    · split
      · simp only [errT, size_zero]; omega
      · simp only [size_mk', sizesT_cons, sizesT_nil]; omega
  · simp only [errT, size_zero]; omega
theorem last_size (ks : List T) (i : Nat) (deep : Int) (kid : T → TE) (t : T) (hi : ks[i]? = some t) (h : ∀ k, (kid k).1.size ≤ 2 * k.size) : (lastF ks i deep kid).1.size ≤ 2 * t.size := by
  have hp := size_pos t
  unfold lastF
  split
  · simp only [errT, size_zero]; omega
  · rw [hi]
    simp only
    split
    · simp only [errT, size_zero]; omega
    · split
      · rename_i k hk
        have hs : t.size = 1 + sizesT [k] := by rw [T.size_eq t, hk]; rfl
        have := h k
        simp only [sizesT_cons, sizesT_nil] at hs
        split
        · simp only [errT, size_zero]; omega
        · simp only [size_mk', sizesT_cons, sizesT_nil]; omega
      · simp only [errT, size_zero]; omega
theorem item_size (el : T → Int → Bool → TE) (hel : ∀ t d m, (el t d m).1.size ≤ 2 * t.size) (ks : List T) (i : Nat) (deep : Int) (t : T) (hi : ks[i]? = some t) : (itemF el ks i deep).1.size ≤ 2 * t.size := by
  unfold itemF
  rw [hi]
  simp only
  split
  · exact last_size ks i deep _ t hi (fun k => hel k _ _)
  · split
    · show t.size ≤ _; omega
    · exact hel _ _ _
theorem prop_size (el : T → Int → Bool → TE) (hel : ∀ t d m, (el t d m).1.size ≤ 2 * t.size) (ks : List T) (i : Nat) (deep : Int) (t : T) (hi : ks[i]? = some t) : (propF el ks i deep).1.size ≤ 2 * t.size := by
  have hp := size_pos t
  unfold propF
  rw [hi]
  simp only
  split
  · refine last_size ks i deep _ t hi (fun k => ?_)
    have := size_pos k
    unfold restF
    split
    · simp only [errT, size_zero]; omega
    · split
      · show k.size ≤ _; omega
      · simp only [errT, size_zero]; omega
  · split
    · simp only [errT, size_zero]; omega
    · split
      · exact short_size t deep
      · split
        · simp only [errT, size_zero]; omega
        · split
          · rename_i a b hk
            have hs : t.size = 1 + sizesT [a, b] := by rw [T.size_eq t, hk]; rfl
            have := hel b (deep + 1) true
            simp only [sizesT_cons, sizesT_nil] at hs
            split
            · simp only [errT, size_zero]; omega
            · simp only [size_mk', sizesT_cons, sizesT_nil]; omega
          · simp only [errT, size_zero]; omega
theorem el_size : ∀ (N : Nat) (t : T) (deep : Int) (may : Bool), (elF N t deep may).1.size ≤ 2 * t.size
  | 0, t, deep, may => by
    have hp := size_pos t
    unfold elF
    simp only [errT, size_zero]; omega
  | N + 1, t, deep, may => by
    have hp := size_pos t
    have ih := el_size N
    unfold elF
    split
    · simp only [errT, size_zero]; omega
    · split
      · show t.size ≤ _; omega
      · split
        · exact byDefault_size t deep
        · split
          · simp only
            split
            · simp only [errT, size_zero]; omega
            · simp only [size_mk']
              have := sizes_map (fun i => (if t.op = 37 then itemF (elF N) t.kids i (deep + 1) else propF (elF N) t.kids i (deep + 1)).1) t.kids 0 (fun i k hk => by
                rw [Nat.zero_add]
                split
                · exact item_size _ ih _ _ _ _ hk
                · exact prop_size _ ih _ _ _ _ hk)
              rw [← List.range_eq_range'] at this
              have hs : t.size = 1 + sizesT t.kids := T.size_eq t
              omega
          · simp only [errT, size_zero]; omega

/-- an error comes with a zero node; what is no error is a pattern -/
theorem el_form (N : Nat) (t : T) (deep : Int) : ((elF N t deep false).2 ≠ 0 → (elF N t deep false).1 = T.zero) ∧ (N ≠ 0 → (elF N t deep false).2 = 0 → patternF (elF N t deep false).1 = true) := by
  cases N with
  | zero => exact ⟨fun _ => rfl, fun h => absurd rfl h⟩
  | succ N =>
    unfold elF
    split
    · exact ⟨fun _ => rfl, fun _ h => by simp [errT] at h⟩
    · split
      · rename_i h; exact ⟨fun _ => by simp at *, fun _ _ => h⟩
      · split
        · rename_i h; simp at h
        · split
          · simp only
            split
            · rename_i i hi
              refine ⟨fun _ => rfl, fun _ h => ?_⟩
              have := List.find?_some hi
              simp [errT] at h this
              exact absurd h this
            · refine ⟨fun h => absurd rfl h, fun _ _ => ?_⟩
              show (targetF _ || decide ((if t.op = 37 then (60 : Int) else 61) = 60) || decide ((if t.op = 37 then (60 : Int) else 61) = 61)) = true
              by_cases h : t.op = 37 <;> simp [h]
          · exact ⟨fun _ => rfl, fun _ h => by simp [errT] at h⟩
theorem el_again {N : Nat} {t : T} (h : patternF t = true) (hN : N ≠ 0) : elF N t 1 false = (t, 0) := by
  cases N with
  | zero => exact absurd rfl hN
  | succ N => unfold elF; rw [if_neg (by omega), if_pos h]

attribute [local irreducible] G GC GQ GA GAop Calls IntKind.wrap Int.decLt Int.decLe
def PlainOK (t : T) : Prop := ∀ (w : World) (μ : Mem) (kv : Value), MOk μ w → KR μ t.kids kv → t.size ≤ 1000000 →
  Calls Try.prog 18 #[.agg (encT t kv).toArray] w fun e w' => ∃ v μ', e = .returned v ∧ Grow w w' μ μ' ∧ BoolOr True μ' v
theorem plain_step (t : T) (ih : ∀ k, k ∈ t.kids → PlainOK k) : PlainOK t := by
  intro w μ kv hμ hk hsz
  refine call_intro Try.func18 rfl Try.ntmps18 (by simp) hμ ?_
  have hkv := hk.one
  have hws := within_size t
  have hwl := len_sizesT (withinT t)
  repeat' (first | (with_reducible (first | apply gc_seq | apply gc_region | apply g_nil | apply gq_then | apply gc_block | apply gc_exit | apply gc_ret | apply gc_skip | apply gq_then_exit | apply gq_then_ret | apply gq_block_same | apply gq_block_normal | apply gq_block_ret)) | ((with_reducible apply g_p); exact rfl) | ((with_reducible show G _ _ _ _ (Oper.mk _ (Op.call (Call.mk (Callee.value (Operand.func 15)) _ _)) _ _ _ _ :: _) _ _ _); (with_reducible apply g_enter_m); exact rfl; exact rfl; exact rfl; (first | ((with_reducible apply e_call1); kernel_rfl; exact rfl)); (exact fun w hw => within_spec w μ hw t kv hk); intro v μ1 hle1 hk1; obtain ⟨A, c, rfl, hcap, hget⟩ := hk1.form) | ((with_reducible apply gc_if); exact rfl) | (with_reducible (first | apply pif_t | apply pif_f | apply pif_not)) | ((with_reducible apply pif_decT); (first | omega | with_reducible assumption | with_reducible rfl)) | ((with_reducible apply pif_decF); (first | omega | with_reducible assumption | with_reducible exact ne_self_f _)) | (((with_reducible apply pif_tt); exact rfl)) | (((with_reducible apply pif_ff); exact rfl)) | (with_reducible (first | refine pif_dec (fun hp => ?_) (fun hp => ?_) | refine pif_b (fun hp => ?_) (fun hp => ?_))) | ((with_reducible apply g_ar); exact rfl; omega) | ((with_reducible apply g_ld); exact rfl; exact rfl; (repeat first | with_reducible exact inb_hd | with_reducible apply inb_tl); exact rfl) | ((with_reducible apply g_v); exact rfl; (first | ((with_reducible apply v_field_n); exact rfl; exact rfl) | ((with_reducible apply v_index_n); exact rfl; exact rfl; exact rfl; exact rfl; omega) | ((with_reducible apply v_aggeql); exact rfl; exact rfl; exact rfl; kernel_rfl; kernel_rfl; kernel_rfl; kernel_rfl) | ((with_reducible apply v_len_row 0); exact rfl; exact rfl; exact rfl) | ((with_reducible apply v_len_row 1); exact rfl; exact rfl; exact rfl) | ((with_reducible apply v_len_row 2); exact rfl; exact rfl; exact rfl) | ((with_reducible apply v_len_row 3); exact rfl; exact rfl; exact rfl))) | ((with_reducible apply g_nw); exact rfl; exact rfl; exact rfl; intro b) | ((with_reducible apply g_st); exact rfl; exact rfl; (repeat first | with_reducible exact ones_nil | ((with_reducible apply ones_cons); (first | exact rfl | assumption))); (repeat first | with_reducible apply upb_hd | with_reducible apply upb_tl); exact rfl; (repeat first | with_reducible exact pc_nil | with_reducible apply pc_cons)) | ((with_reducible apply gq_block_other); exact rfl) | ((with_reducible apply g_if); exact rfl; (fail_if_success (with_reducible show NLit true)); (fail_if_success (with_reducible show NLit false)); exact nLit _))
  all_goals first | exact ret_m1 rfl (rv_tmp rfl) (fun μ' _ _ => ⟨_, rfl, fun _ => trivial⟩) | skip
  refine gc_loop (ι := Nat × Mem) (fun i => i.1 ≤ (withinT t).length ∧ MLe μ1 i.2) (fun i => (withinT t).length - i.1) (fun i => i.2) (fun i => [(19, .int .i64 i.1), (18, .int .i64 (withinT t).length), (17, .slice A (withinT t).length c)]) (fun i => []) (0, μ1) ⟨by simp, MLe.refl _⟩ (fun a w hs => hs.sub (by repeat first | exact subS_nil | refine subS_cons rfl ?_) (by repeat first | exact List.Sublist.refl _ | exact List.nil_sublist _ | refine List.Sublist.cons_cons _ ?_ | refine List.Sublist.cons _ ?_)) ?_
  rintro ⟨i, μ2⟩ ⟨hi, hle2⟩
  dsimp only at hi hle2 ⊢
  by_cases hlt : i < (withinT t).length
  · have hki : (withinT t)[i]? = some (withinT t)[i] := List.getElem?_eq_getElem hlt
    generalize (withinT t)[i] = k at hki
    obtain ⟨ad, u, rfl, hm, hone, hku⟩ := hget i k hki
    have hkm := within_mem (List.mem_of_getElem? hki)
    have hksz : k.size ≤ 1000000 := by
      obtain ⟨j, hj⟩ := List.mem_iff_getElem?.1 hkm
      have := T.size_kid hj
      omega
    have hm' := hm.mono hle2
    repeat' (first | (with_reducible (first | apply gc_seq | apply gc_region | apply g_nil | apply gq_then | apply gc_block | apply gc_exit | apply gc_ret | apply gc_skip | apply gq_then_exit | apply gq_then_ret | apply gq_block_same | apply gq_block_normal | apply gq_block_ret)) | ((with_reducible apply g_p); exact rfl) | ((with_reducible apply g_enter_m); exact rfl; exact rfl; exact rfl; (first | ((with_reducible apply e_call1); kernel_rfl; exact rfl)); (exact fun w hw => ih k hkm w μ2 u hw (hku.mono hle2) hksz); rintro v2 μ3 hle3 ⟨b, rfl, _⟩) | ((with_reducible apply gc_if); exact rfl) | (with_reducible (first | apply pif_t | apply pif_f | apply pif_not)) | ((with_reducible apply pif_decT); (first | omega | with_reducible assumption | with_reducible rfl)) | ((with_reducible apply pif_decF); (first | omega | with_reducible assumption | with_reducible exact ne_self_f _)) | (((with_reducible apply pif_tt); exact rfl)) | (((with_reducible apply pif_ff); exact rfl)) | (with_reducible (first | refine pif_dec (fun hp => ?_) (fun hp => ?_) | refine pif_b (fun hp => ?_) (fun hp => ?_))) | ((with_reducible apply g_ar); exact rfl; omega) | ((with_reducible apply g_ld); exact rfl; exact rfl; (repeat first | with_reducible exact inb_hd | with_reducible apply inb_tl); exact rfl) | ((with_reducible apply g_v); exact rfl; (first | (first | ((with_reducible apply v_load_shs); exact rfl; exact rfl; exact rfl; exact hm'; exact rfl) | ((with_reducible apply v_ld_sh); exact rfl; exact rfl; exact rfl; exact hm'; exact rfl)) | ((with_reducible apply v_field_n); exact rfl; exact rfl) | ((with_reducible apply v_index_n); exact rfl; exact rfl; exact rfl; exact rfl; omega) | ((with_reducible apply v_aggeql); exact rfl; exact rfl; exact rfl; kernel_rfl; kernel_rfl; kernel_rfl; kernel_rfl) | ((with_reducible apply v_len_row 0); exact rfl; exact rfl; exact rfl) | ((with_reducible apply v_len_row 1); exact rfl; exact rfl; exact rfl) | ((with_reducible apply v_len_row 2); exact rfl; exact rfl; exact rfl) | ((with_reducible apply v_len_row 3); exact rfl; exact rfl; exact rfl))) | ((with_reducible apply g_nw); exact rfl; exact rfl; exact rfl; intro b) | ((with_reducible apply g_st); exact rfl; exact rfl; (repeat first | with_reducible exact ones_nil | ((with_reducible apply ones_cons); (first | exact rfl | assumption))); (repeat first | with_reducible apply upb_hd | with_reducible apply upb_tl); exact rfl; (repeat first | with_reducible exact pc_nil | with_reducible apply pc_cons)) | ((with_reducible apply gq_block_other); exact rfl) | ((with_reducible apply g_if); exact rfl; (fail_if_success (with_reducible show NLit true)); (fail_if_success (with_reducible show NLit false)); exact nLit _))
    · exact gq_back (i + 1, μ3) ⟨by dsimp only; omega, hle2.trans hle3⟩ (by dsimp only; omega) rfl (by repeat first | exact subS_nil | refine subS_cons rfl ?_) (by repeat first | exact List.Sublist.refl _ | exact List.nil_sublist _ | refine List.Sublist.cons_cons _ ?_ | refine List.Sublist.cons _ ?_)
    · exact ret_m1 rfl (rv_tmp rfl) (fun μ' _ _ => ⟨_, rfl, fun _ => trivial⟩)
  · repeat' (first | (with_reducible (first | apply gc_seq | apply gc_region | apply g_nil | apply gq_then | apply gc_block | apply gc_exit | apply gc_ret | apply gc_skip | apply gq_then_exit | apply gq_then_ret | apply gq_block_same | apply gq_block_normal | apply gq_block_ret)) | ((with_reducible apply g_p); exact rfl) | ((with_reducible apply gc_if); exact rfl) | (with_reducible (first | apply pif_t | apply pif_f | apply pif_not)) | ((with_reducible apply pif_decT); (first | omega | with_reducible assumption | with_reducible rfl)) | ((with_reducible apply pif_decF); (first | omega | with_reducible assumption | with_reducible exact ne_self_f _)) | (((with_reducible apply pif_tt); exact rfl)) | (((with_reducible apply pif_ff); exact rfl)) | (with_reducible (first | refine pif_dec (fun hp => ?_) (fun hp => ?_) | refine pif_b (fun hp => ?_) (fun hp => ?_))) | ((with_reducible apply g_ar); exact rfl; omega) | ((with_reducible apply g_ld); exact rfl; exact rfl; (repeat first | with_reducible exact inb_hd | with_reducible apply inb_tl); exact rfl) | ((with_reducible apply g_v); exact rfl; (first | ((with_reducible apply v_field_n); exact rfl; exact rfl) | ((with_reducible apply v_index_n); exact rfl; exact rfl; exact rfl; exact rfl; omega) | ((with_reducible apply v_aggeql); exact rfl; exact rfl; exact rfl; kernel_rfl; kernel_rfl; kernel_rfl; kernel_rfl) | ((with_reducible apply v_len_row 0); exact rfl; exact rfl; exact rfl) | ((with_reducible apply v_len_row 1); exact rfl; exact rfl; exact rfl) | ((with_reducible apply v_len_row 2); exact rfl; exact rfl; exact rfl) | ((with_reducible apply v_len_row 3); exact rfl; exact rfl; exact rfl))) | ((with_reducible apply g_nw); exact rfl; exact rfl; exact rfl; intro b) | ((with_reducible apply g_st); exact rfl; exact rfl; (repeat first | with_reducible exact ones_nil | ((with_reducible apply ones_cons); (first | exact rfl | assumption))); (repeat first | with_reducible apply upb_hd | with_reducible apply upb_tl); exact rfl; (repeat first | with_reducible exact pc_nil | with_reducible apply pc_cons)) | ((with_reducible apply gq_block_other); exact rfl) | ((with_reducible apply g_if); exact rfl; (fail_if_success (with_reducible show NLit true)); (fail_if_success (with_reducible show NLit false)); exact nLit _))
    exact ret_m1 rfl (rv_tmp rfl) (fun μ' _ _ => ⟨_, rfl, fun _ => trivial⟩)
theorem plain_spec (t : T) : PlainOK t := T.ind plain_step t
end Go.Proofs.Ytcjglalhchhcpaa
