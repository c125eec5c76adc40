/- The lexer of package token: next, Next: their contracts. -/
import Derived.Test.YtnodfbjbcmkkhaaDoorTk9
set_option maxRecDepth 20000
namespace Go.Vcg
open Go.RowKit
section
variable {P : Program} {μ : Mem} {l : Slots} {L : List Bk} {w : World}
theorem ret_v3 {fn : Func} {n : Nat} {r1 r2 r3 : ResultVar} {v1 v1' v2 v2' v3 v3' : Value} {μ0 : Mem} (hr : fn.results = #[r1, r2, r3]) (h1 : RV P μ l L r1 v1') (h2 : RV P μ l L r2 v2') (h3 : RV P μ l L r3 v3') (e1 : v1' = v1) (e2 : v2' = v2) (e3 : v3' = v3) :
    GQ ⟨w, μ0, [], n⟩ (bodyPost P fn (fun e w' => e = .returned (.tuple #[v1, v2, v3]) ∧ Below w.heap.size w w')) .ret μ l L :=
  ret_vn (rs := [r1, r2, r3]) (vs := [v1', v2', v3']) hr (rvs_cons h1 (rvs_cons h2 (rvs_cons h3 rvs_nil))) rfl (by rw [e1, e2, e3])
end
end Go.Vcg
namespace Go.Proofs.YtnodfbjbcmkkhaaDoor
open Go.RowKit Go.Vcg
theorem qK_err {q : UInt8} : ∀ {xs : List UInt8} {k : Nat} {e : Int}, qK q k xs = .error e → e = 8 ∨ e = 21 ∨ e = 22
  | [], k, e, h => by simp [qK] at h; exact .inl h.symm
  | b :: r, k + 1, e, h => by
    rw [qK] at h
    unfold skipE at h
    split at h
    · cases h
    · rename_i e' hr
      cases h
      exact qK_err hr
  | b :: r, 0, e, h => by
    rw [qK] at h
    split at h
    · cases h
    · split at h
      · cases h; exact .inr (.inr rfl)
      · split at h
        · unfold consE at h
          split at h
          · cases h
          · rename_i e' hr
            cases h
            exact qK_err hr
        · split at h
          · rename_i e' hr
            cases h
            rcases escL_err hr with h | h
            · exact .inl h
            · exact .inr (.inl h)
          · unfold consE at h
            split at h
            · cases h
            · rename_i e' hr
              cases h
              exact qK_err hr
theorem pK_err : ∀ {xs : List UInt8} {k : Nat} {e : Int}, pK k xs = .error e → e = 8 ∨ e = 21
  | [], k, e, h => by simp [pK] at h; exact .inl h.symm
  | b :: r, k + 1, e, h => by
    rw [pK] at h
    unfold skipE at h
    split at h
    · cases h
    · rename_i e' hr
      cases h
      exact pK_err hr
  | b :: r, 0, e, h => by
    rw [pK] at h
    split at h
    · cases h
    · split at h
      · unfold consE at h
        split at h
        · cases h
        · rename_i e' hr
          cases h
          exact pK_err hr
      · split at h
        · rename_i e' hr
          cases h
          exact escL_err hr
        · unfold consE at h
          split at h
          · cases h
          · rename_i e' hr
            cases h
            exact pK_err hr
theorem oneL_err {xs : List UInt8} {tail : Bool} {e : Int} (h : oneL xs tail = .error e) : e ≠ 0 := by
  unfold oneL at h
  split at h
  · cases h
  · split at h
    · cases h
    · split at h
      · split at h
        · rename_i e' hn
          cases h
          unfold numL at hn
          split at hn
          · cases hn; omega
          · split at hn
            · cases hn; omega
            · cases hn
        · cases h
      · split at h
        · split at h
          · rename_i e' hn
            cases h
            have := qK_err hn
            omega
          · cases h
        · split at h
          · split at h
            · rename_i e' hn
              cases h
              have := pK_err hn
              omega
            · cases h
          · split at h
            · cases h; omega
            · cases h
def nextTok (k : Nat) (xs : List UInt8) (tail : Bool) : Tok := if (gapK 0 false xs).2.2 = true then match oneL (xs.drop (gapK 0 false xs).1) tail with
    | .ok t => { tokT (k + (gapK 0 false xs).1) t with line := (gapK 0 false xs).2.1 }
    | .error _ => zeroTok
  else zeroTok
def nextErr (xs : List UInt8) (tail : Bool) : Int := if (gapK 0 false xs).2.2 = true then errR (oneL (xs.drop (gapK 0 false xs).1) tail) else 8
theorem gapK_le : ∀ (xs : List UInt8) (k : Nat) (ln : Bool), k ≤ xs.length → (gapK k ln xs).1 ≤ xs.length
  | [], k, ln, _ => by cases k <;> simp [gapK]
  | b :: r, k + 1, ln, h => by
    rw [gapK]
    have := gapK_le r k ln (by simpa using h)
    simp only [shift1, List.length_cons]; omega
  | b :: r, 0, ln, _ => by
    rw [gapK]
    split
    · have := gapK_le r 0 (ln || on8 endI b) (by omega)
      simp only [shift1, List.length_cons]; omega
    · split
      · have := gapK_le r (headN nendI r) ln (headN_le _ _)
        simp only [shift1, List.length_cons]; omega
      · split
        · split
          · simp
          · rename_i h3
            have hroom := Lib.index_room (r.drop 1) [42, 47] (by omega)
            have := gapK_le r ((Lib.index (r.drop 1) [42, 47]).toNat + 3) (ln || ((r.drop 1).take (Lib.index (r.drop 1) [42, 47]).toNat).any (on8 endI)) (by
              simp only [List.length_drop, List.length_cons, List.length_nil] at hroom
              omega)
            simp only [shift1, List.length_cons]; omega
        · simp
attribute [local irreducible] G GC GQ GA GAop Calls IntKind.wrap Int.decLt Int.decLe
theorem next_spec (s : ByteArray) (hs : s.size ≤ 65536) (k : Nat) (hk : k ≤ s.size) (tail : Bool) (w : World) (μ : Mem) (hμ : MOk μ w) (hM : MaxOk μ) :
    Calls Tryd.prog 22 #[.string s, .int .i64 k, .bool tail] w fun e w' => e = .returned (.tuple #[tokV (nextTok k ((bl s).drop k) tail), .int .i64 ((k + (gapK 0 false ((bl s).drop k)).1 : Nat) : Int), .int .i64 (nextErr ((bl s).drop k) tail)]) ∧ Below w.heap.size w w' := by
  refine call_intro Tryd.func22 rfl Tryd.ntmps22 (by simp) hμ ?_
  have hgap := gap_spec s hs k hk
  have hle := gapK_le ((bl s).drop k) 0 false (by omega)
  rw [List.length_drop, bl_len] at hle
  have hT : ∀ g, gapK 0 false ((bl s).drop k) = g → nextTok k ((bl s).drop k) tail = (if g.2.2 = true then match oneL (((bl s).drop k).drop g.1) tail with
    | .ok t => { tokT (k + g.1) t with line := g.2.1 }
    | .error _ => zeroTok
  else zeroTok) := fun g h => by rw [← h]; rfl
  have hE : ∀ g, gapK 0 false ((bl s).drop k) = g → nextErr ((bl s).drop k) tail = if g.2.2 = true then errR (oneL (((bl s).drop k).drop g.1) tail) else 8 := fun g h => by rw [← h]; rfl
  generalize hg : gapK 0 false ((bl s).drop k) = g at hgap hle ⊢
  rw [hT g hg, hE g hg]
  clear hT hE
  obtain ⟨m, ln, ok⟩ := g
  simp only at hle ⊢
  have hone := one_spec s hs (k + m) (by omega) tail
  rw [List.drop_drop]
  cases ok with
  | false =>
    rw [if_neg (by simp), if_neg (by simp)]
    repeat' (first | (with_reducible (first | apply gc_seq | apply gc_region | apply g_nil | apply gq_then | apply gc_block | apply gc_exit | apply gc_ret | apply gc_skip | apply gq_then_exit | apply gq_then_ret | apply gq_block_same | apply gq_block_normal | apply gq_block_ret)) | ((with_reducible apply g_p); exact rfl) | ((with_reducible show G _ _ _ _ (Oper.mk _ (Op.call (Call.mk (Callee.value (Operand.func 27)) _ _)) _ _ _ _ :: _) _ _ _); (with_reducible apply g_enter_s); exact rfl; exact rfl; exact rfl; (first | ((with_reducible apply e_call2); kernel_rfl; exact rfl; exact rfl) | ((with_reducible apply e_call3); kernel_rfl; exact rfl; exact rfl; exact rfl)); exact fun w μc hw hse => hgap w μc hw (hM.mono hse.le)) | ((with_reducible show G _ _ _ _ (Oper.mk _ (Op.call (Call.mk (Callee.value (Operand.func 28)) _ _)) _ _ _ _ :: _) _ _ _); (with_reducible apply g_enter_s); exact rfl; exact rfl; exact rfl; (first | ((with_reducible apply e_call2); kernel_rfl; exact rfl; exact rfl) | ((with_reducible apply e_call3); kernel_rfl; exact rfl; exact rfl; exact rfl)); exact fun w μc hw hse => hone w μc hw (hM.mono hse.le)) | ((with_reducible apply gc_if); exact rfl) | (with_reducible (first | apply pif_t | apply pif_f | apply pif_not)) | ((with_reducible apply pif_decT); (first | omega | with_reducible assumption | with_reducible rfl)) | ((with_reducible apply pif_decF); (first | omega | with_reducible assumption | with_reducible exact ne_self_f _)) | (((with_reducible apply pif_tt); exact rfl)) | (((with_reducible apply pif_ff); exact rfl)) | (with_reducible (first | refine pif_dec (fun hp => ?_) (fun hp => ?_) | refine pif_b (fun hp => ?_) (fun hp => ?_))) | ((with_reducible apply g_ld); exact rfl; exact rfl; (repeat first | with_reducible exact inb_hd | with_reducible apply inb_tl); exact rfl) | ((with_reducible apply g_v); exact rfl; (first | ((with_reducible apply v_field_n); exact rfl; exact rfl) | ((with_reducible apply v_aggeql); exact rfl; exact rfl; exact rfl; kernel_rfl; kernel_rfl; kernel_rfl; kernel_rfl) | ((with_reducible apply v_aggneq); exact rfl; exact rfl; exact rfl; kernel_rfl; kernel_rfl; kernel_rfl; kernel_rfl))) | ((with_reducible apply g_nw); exact rfl; exact rfl; exact rfl; intro b) | ((with_reducible apply g_st); exact rfl; exact rfl; (repeat first | with_reducible exact ones_nil | ((with_reducible apply ones_cons); (first | exact rfl | assumption))); (repeat first | with_reducible apply upb_hd | with_reducible apply upb_tl); exact rfl; (repeat first | with_reducible exact pc_nil | with_reducible apply pc_cons)) | ((with_reducible apply gq_block_other); exact rfl) | ((with_reducible apply g_if); exact rfl; (fail_if_success (with_reducible show NLit true)); (fail_if_success (with_reducible show NLit false)); exact nLit _))
    exact ret_v3 rfl (rv_agg 0 rfl rfl rfl rfl rfl (by repeat first | exact lc_nil | refine lc_cons rfl ?_)) (rv_tmp rfl) (rv_tmp rfl) rfl rfl rfl
  | true =>
    rw [if_pos rfl, if_pos rfl]
    generalize hr : oneL ((bl s).drop (k + m)) tail = r at hone
    rcases r with e | t
    · have hne : ¬ errR (Except.error e : Except Int T1) = 0 := oneL_err hr
      repeat' (first | (with_reducible (first | apply gc_seq | apply gc_region | apply g_nil | apply gq_then | apply gc_block | apply gc_exit | apply gc_ret | apply gc_skip | apply gq_then_exit | apply gq_then_ret | apply gq_block_same | apply gq_block_normal | apply gq_block_ret)) | ((with_reducible apply g_p); exact rfl) | ((with_reducible show G _ _ _ _ (Oper.mk _ (Op.call (Call.mk (Callee.value (Operand.func 27)) _ _)) _ _ _ _ :: _) _ _ _); (with_reducible apply g_enter_s); exact rfl; exact rfl; exact rfl; (first | ((with_reducible apply e_call2); kernel_rfl; exact rfl; exact rfl) | ((with_reducible apply e_call3); kernel_rfl; exact rfl; exact rfl; exact rfl)); exact fun w μc hw hse => hgap w μc hw (hM.mono hse.le)) | ((with_reducible show G _ _ _ _ (Oper.mk _ (Op.call (Call.mk (Callee.value (Operand.func 28)) _ _)) _ _ _ _ :: _) _ _ _); (with_reducible apply g_enter_s); exact rfl; exact rfl; exact rfl; (first | ((with_reducible apply e_call2); kernel_rfl; exact rfl; exact rfl) | ((with_reducible apply e_call3); kernel_rfl; exact rfl; exact rfl; exact rfl)); exact fun w μc hw hse => hone w μc hw (hM.mono hse.le)) | ((with_reducible apply gc_if); exact rfl) | (with_reducible (first | apply pif_t | apply pif_f | apply pif_not)) | ((with_reducible apply pif_decT); (first | omega | with_reducible assumption | with_reducible rfl)) | ((with_reducible apply pif_decF); (first | omega | with_reducible assumption | with_reducible exact ne_self_f _)) | (((with_reducible apply pif_tt); exact rfl)) | (((with_reducible apply pif_ff); exact rfl)) | (with_reducible (first | refine pif_dec (fun hp => ?_) (fun hp => ?_) | refine pif_b (fun hp => ?_) (fun hp => ?_))) | ((with_reducible apply g_ld); exact rfl; exact rfl; (repeat first | with_reducible exact inb_hd | with_reducible apply inb_tl); exact rfl) | ((with_reducible apply g_v); exact rfl; (first | ((with_reducible apply v_field_n); exact rfl; exact rfl) | ((with_reducible apply v_aggeql); exact rfl; exact rfl; exact rfl; kernel_rfl; kernel_rfl; kernel_rfl; kernel_rfl) | ((with_reducible apply v_aggneq); exact rfl; exact rfl; exact rfl; kernel_rfl; kernel_rfl; kernel_rfl; kernel_rfl))) | ((with_reducible apply g_nw); exact rfl; exact rfl; exact rfl; intro b) | ((with_reducible apply g_st); exact rfl; exact rfl; (repeat first | with_reducible exact ones_nil | ((with_reducible apply ones_cons); (first | exact rfl | assumption))); (repeat first | with_reducible apply upb_hd | with_reducible apply upb_tl); exact rfl; (repeat first | with_reducible exact pc_nil | with_reducible apply pc_cons)) | ((with_reducible apply gq_block_other); exact rfl) | ((with_reducible apply g_if); exact rfl; (fail_if_success (with_reducible show NLit true)); (fail_if_success (with_reducible show NLit false)); exact nLit _))
      exact ret_v3 rfl (rv_agg 1 rfl rfl rfl rfl rfl (by repeat first | exact lc_nil | refine lc_cons rfl ?_)) (rv_tmp rfl) (rv_tmp rfl) rfl rfl rfl
    · repeat' (first | (with_reducible (first | apply gc_seq | apply gc_region | apply g_nil | apply gq_then | apply gc_block | apply gc_exit | apply gc_ret | apply gc_skip | apply gq_then_exit | apply gq_then_ret | apply gq_block_same | apply gq_block_normal | apply gq_block_ret)) | ((with_reducible apply g_p); exact rfl) | ((with_reducible show G _ _ _ _ (Oper.mk _ (Op.call (Call.mk (Callee.value (Operand.func 27)) _ _)) _ _ _ _ :: _) _ _ _); (with_reducible apply g_enter_s); exact rfl; exact rfl; exact rfl; (first | ((with_reducible apply e_call2); kernel_rfl; exact rfl; exact rfl) | ((with_reducible apply e_call3); kernel_rfl; exact rfl; exact rfl; exact rfl)); exact fun w μc hw hse => hgap w μc hw (hM.mono hse.le)) | ((with_reducible show G _ _ _ _ (Oper.mk _ (Op.call (Call.mk (Callee.value (Operand.func 28)) _ _)) _ _ _ _ :: _) _ _ _); (with_reducible apply g_enter_s); exact rfl; exact rfl; exact rfl; (first | ((with_reducible apply e_call2); kernel_rfl; exact rfl; exact rfl) | ((with_reducible apply e_call3); kernel_rfl; exact rfl; exact rfl; exact rfl)); exact fun w μc hw hse => hone w μc hw (hM.mono hse.le)) | ((with_reducible apply gc_if); exact rfl) | (with_reducible (first | apply pif_t | apply pif_f | apply pif_not)) | ((with_reducible apply pif_decT); (first | omega | with_reducible assumption | with_reducible rfl)) | ((with_reducible apply pif_decF); (first | omega | with_reducible assumption | with_reducible exact ne_self_f _)) | (((with_reducible apply pif_tt); exact rfl)) | (((with_reducible apply pif_ff); exact rfl)) | (with_reducible (first | refine pif_dec (fun hp => ?_) (fun hp => ?_) | refine pif_b (fun hp => ?_) (fun hp => ?_))) | ((with_reducible apply g_ld); exact rfl; exact rfl; (repeat first | with_reducible exact inb_hd | with_reducible apply inb_tl); exact rfl) | ((with_reducible apply g_v); exact rfl; (first | ((with_reducible apply v_field_n); exact rfl; exact rfl) | ((with_reducible apply v_aggeql); exact rfl; exact rfl; exact rfl; kernel_rfl; kernel_rfl; kernel_rfl; kernel_rfl) | ((with_reducible apply v_aggneq); exact rfl; exact rfl; exact rfl; kernel_rfl; kernel_rfl; kernel_rfl; kernel_rfl))) | ((with_reducible apply g_nw); exact rfl; exact rfl; exact rfl; intro b) | ((with_reducible apply g_st); exact rfl; exact rfl; (repeat first | with_reducible exact ones_nil | ((with_reducible apply ones_cons); (first | exact rfl | assumption))); (repeat first | with_reducible apply upb_hd | with_reducible apply upb_tl); exact rfl; (repeat first | with_reducible exact pc_nil | with_reducible apply pc_cons)) | ((with_reducible apply gq_block_other); exact rfl) | ((with_reducible apply g_if); exact rfl; (fail_if_success (with_reducible show NLit true)); (fail_if_success (with_reducible show NLit false)); exact nLit _))
      exact ret_v3 rfl (rv_agg 1 rfl rfl rfl rfl rfl (by repeat first | exact lc_nil | refine lc_cons rfl ?_)) (rv_tmp rfl) (rv_tmp rfl) rfl rfl rfl
theorem Next_spec (s : ByteArray) (hs : s.size ≤ 65536) (k : Nat) (hk : k ≤ s.size) (tail : Bool) (w : World) (μ : Mem) (hμ : MOk μ w) (hM : MaxOk μ) :
    Calls Tryd.prog 14 #[.string s, .int .i64 k, .bool tail] w fun e w' => e = .returned (.tuple #[tokV (nextTok k ((bl s).drop k) tail), .int .i64 (nextErr ((bl s).drop k) tail)]) ∧ Below w.heap.size w w' := by
  refine call_intro Tryd.func14 rfl Tryd.ntmps14 (by simp) hμ ?_
  have hn := next_spec s hs k hk tail
  repeat' (first | (with_reducible (first | apply gc_seq | apply gc_region | apply g_nil | apply gq_then | apply gc_block | apply gc_exit | apply gc_ret | apply gc_skip | apply gq_then_exit | apply gq_then_ret | apply gq_block_same | apply gq_block_normal | apply gq_block_ret)) | ((with_reducible apply g_p); exact rfl) | ((with_reducible show G _ _ _ _ (Oper.mk _ (Op.call (Call.mk (Callee.value (Operand.func 22)) _ _)) _ _ _ _ :: _) _ _ _); (with_reducible apply g_enter_s); exact rfl; exact rfl; exact rfl; (first | ((with_reducible apply e_call3); kernel_rfl; exact rfl; exact rfl; exact rfl)); exact fun w μc hw hse => hn w μc hw (hM.mono hse.le)) | ((with_reducible apply gc_if); exact rfl) | (with_reducible (first | apply pif_t | apply pif_f | apply pif_not)) | ((with_reducible apply pif_decT); (first | omega | with_reducible assumption | with_reducible rfl)) | ((with_reducible apply pif_decF); (first | omega | with_reducible assumption | with_reducible exact ne_self_f _)) | (((with_reducible apply pif_tt); exact rfl)) | (((with_reducible apply pif_ff); exact rfl)) | (with_reducible (first | refine pif_dec (fun hp => ?_) (fun hp => ?_) | refine pif_b (fun hp => ?_) (fun hp => ?_))) | ((with_reducible apply g_ld); exact rfl; exact rfl; (repeat first | with_reducible exact inb_hd | with_reducible apply inb_tl); exact rfl) | ((with_reducible apply g_v); exact rfl; (first | ((with_reducible apply v_len_row 0); exact rfl; exact rfl; exact rfl) | ((with_reducible apply v_len_row 1); exact rfl; exact rfl; exact rfl) | ((with_reducible apply v_len_row 2); exact rfl; exact rfl; exact rfl) | ((with_reducible apply v_len_row 3); exact rfl; exact rfl; exact rfl))) | ((with_reducible apply g_nw); exact rfl; exact rfl; exact rfl; intro b) | ((with_reducible apply g_st); exact rfl; exact rfl; (repeat first | with_reducible exact ones_nil | ((with_reducible apply ones_cons); (first | exact rfl | assumption))); (repeat first | with_reducible apply upb_hd | with_reducible apply upb_tl); exact rfl; (repeat first | with_reducible exact pc_nil | with_reducible apply pc_cons)) | ((with_reducible apply gq_block_other); exact rfl) | ((with_reducible apply g_if); exact rfl; (fail_if_success (with_reducible show NLit true)); (fail_if_success (with_reducible show NLit false)); exact nLit _))
  exact ret_v2 rfl (rv_agg 1 rfl rfl rfl rfl rfl (by repeat first | exact lc_nil | refine lc_cons rfl ?_)) (rv_tmp rfl) rfl rfl
end Go.Proofs.YtnodfbjbcmkkhaaDoor
