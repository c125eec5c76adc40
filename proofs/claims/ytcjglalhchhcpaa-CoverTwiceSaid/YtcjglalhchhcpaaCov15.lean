/- The reference's comparison of a tree with itself; chains of array literals. -/
import Derived.Test.YtcjglalhchhcpaaCov13
namespace Go.Vcg
open Go.RowKit
section
variable {P : Program} {μ : Mem} {l : Slots} {L : List Bk} {ds : Option Nat} {ty : TypeId} {pos : String} {af : Array Edge} {gd : Option (Nat × Bool)}
theorem v_and {p q : Operand} {t t2 : TypeId} {k : IntKind} {x y : Int} (hx0 : ev l p = some (.int k x)) (hx1 : ev l q = some (.int k y)) : Val P μ l L ⟨ds, .binOp .and t p q t2, ty, pos, af, gd⟩ (.int k (k.wrap (BitVec.ofInt k.bits x &&& BitVec.ofInt k.bits y).toNat)) :=
  fun a w hs => by have e0 := hs.eval hx0; have e1 := hs.eval hx1; generalize a.eval = ρ at e0 e1; simp [execOp, e0, e1, eqGuard, binOp, Op.intBits]
theorem and511 (x : Int) : ∃ m : Nat, m ≤ 511 ∧ IntKind.wrap .i64 (BitVec.ofInt (IntKind.bits .i64) x &&& BitVec.ofInt (IntKind.bits .i64) 511).toNat = (m : Int) := by
  refine ⟨(BitVec.ofInt 64 x &&& BitVec.ofInt 64 511).toNat, ?_, ?_⟩
  · rw [BitVec.toNat_and]
    exact Nat.and_le_right
  · have h : (BitVec.ofInt 64 x &&& BitVec.ofInt 64 511).toNat ≤ 511 := by
      rw [BitVec.toNat_and]
      exact Nat.and_le_right
    show IntKind.wrap .i64 ((BitVec.ofInt 64 x &&& BitVec.ofInt 64 511).toNat : Nat) = _
    generalize (BitVec.ofInt 64 x &&& BitVec.ofInt 64 511).toNat = m at h
    simp only [IntKind.wrap]
    simp [IntKind.signed, IntKind.bits]
    omega
end
end Go.Vcg
namespace Go.Proofs.Ytcjglalhchhcpaa
open Go.RowKit Go.Vcg
attribute [local irreducible] G GC GQ GA GAop Calls IntKind.wrap Int.decLt Int.decLe

def SameOK (t : T) : Prop := ∀ (w : World) (μ : Mem) (ka kb : Value), MOk μ w → KR μ t.kids ka → KR μ t.kids kb → t.size ≤ 1000000 →
  Calls Try.prog 13 #[.agg (encT t ka).toArray, .agg (encT t kb).toArray] w fun e w' => e = .returned (.bool true) ∧ Below w.heap.size w w'
theorem same_step (t : T) (ih : ∀ k, k ∈ t.kids → SameOK k) : SameOK t := by
  intro w μ ka kb hμ hka hkb hsz
  refine call_intro Try.func13 rfl Try.ntmps13 (by simp) hμ ?_
  obtain ⟨A, c, rfl, hcap, hget⟩ := hka.form
  obtain ⟨A2, c2, rfl, hcap2, hget2⟩ := hkb.form
  have hkl := len_sizesT t.kids
  have hks : t.size = 1 + sizesT t.kids := T.size_eq t
  repeat' (first | (with_reducible (first | apply gc_seq | apply gc_region | apply g_nil | apply gq_then | apply gc_block | apply gc_exit | apply gc_ret | apply gc_skip | apply gq_then_exit | apply gq_then_ret | apply gq_block_same | apply gq_block_normal | apply gq_block_ret)) | ((with_reducible apply g_p); exact rfl) | ((with_reducible apply gc_if); exact rfl) | (with_reducible (first | apply pif_t | apply pif_f | apply pif_not)) | ((with_reducible apply pif_decT); (first | omega | with_reducible assumption | with_reducible rfl)) | ((with_reducible apply pif_decF); (first | omega | with_reducible assumption | with_reducible exact ne_self_f _)) | (((with_reducible apply pif_tt); exact rfl)) | (((with_reducible apply pif_ff); exact rfl)) | (with_reducible (first | refine pif_dec (fun hp => ?_) (fun hp => ?_) | refine pif_b (fun hp => ?_) (fun hp => ?_))) | ((with_reducible apply g_ar); exact rfl; omega) | ((with_reducible apply g_ld); exact rfl; exact rfl; (repeat first | with_reducible exact inb_hd | with_reducible apply inb_tl); exact rfl) | ((with_reducible apply g_v); exact rfl; (first | ((with_reducible apply v_field_n); exact rfl; exact rfl) | ((with_reducible apply v_aggneq); exact rfl; exact rfl; exact rfl; kernel_rfl; kernel_rfl; kernel_rfl; kernel_rfl) | ((with_reducible apply v_len_row 0); exact rfl; exact rfl; exact rfl) | ((with_reducible apply v_len_row 1); exact rfl; exact rfl; exact rfl) | ((with_reducible apply v_len_row 2); exact rfl; exact rfl; exact rfl) | ((with_reducible apply v_len_row 3); exact rfl; exact rfl; exact rfl))) | ((with_reducible apply g_nw); exact rfl; exact rfl; exact rfl; intro b) | ((with_reducible apply gq_block_other); exact rfl) | ((with_reducible apply g_if); exact rfl; (fail_if_success (with_reducible show NLit true)); (fail_if_success (with_reducible show NLit false)); exact nLit _))
  rename_i b1
  refine gc_loop (ι := Nat) (fun i => i ≤ t.kids.length) (fun i => t.kids.length - i) (fun _ => μ) (fun i => [(5, .int .i64 i), (3, .pointer (some ⟨b, 0, none⟩)), (2, .pointer (some ⟨b1, 0, none⟩))]) (fun i => [.inl ⟨b, 27, 6, _⟩, .inl ⟨b1, 27, 6, _⟩]) 0 (by simp) (fun a w hs => hs.sub (by repeat first | exact subS_nil | refine subS_cons rfl ?_) (by repeat first | exact List.Sublist.refl _ | exact List.nil_sublist _ | refine List.Sublist.cons_cons _ ?_ | refine List.Sublist.cons _ ?_)) ?_
  intro i hi
  by_cases hlt : i < t.kids.length
  · have hki : t.kids[i]? = some t.kids[i] := List.getElem?_eq_getElem hlt
    generalize t.kids[i] = k at hki
    obtain ⟨ad, u, rfl, hm, ho, hku⟩ := hget i k hki
    obtain ⟨ad2, u2, rfl, hm2, ho2, hku2⟩ := hget2 i k hki
    have hkm := List.mem_of_getElem? hki
    have hksz : k.size ≤ 1000000 := by have := T.size_kid hki; omega
    repeat' (first | (with_reducible (first | apply gc_seq | apply gc_region | apply g_nil | apply gq_then | apply gc_block | apply gc_exit | apply gc_ret | apply gc_skip | apply gq_then_exit | apply gq_then_ret | apply gq_block_same | apply gq_block_normal | apply gq_block_ret)) | ((with_reducible apply g_p); exact rfl) | ((with_reducible apply gc_if); exact rfl) | (with_reducible (first | apply pif_t | apply pif_f | apply pif_not)) | ((with_reducible apply pif_decT); (first | omega | with_reducible assumption | with_reducible rfl)) | ((with_reducible apply pif_decF); (first | omega | with_reducible assumption | with_reducible exact ne_self_f _)) | (((with_reducible apply pif_tt); exact rfl)) | (((with_reducible apply pif_ff); exact rfl)) | (with_reducible (first | refine pif_dec (fun hp => ?_) (fun hp => ?_) | refine pif_b (fun hp => ?_) (fun hp => ?_))) | ((with_reducible apply g_ar); exact rfl; omega) | ((with_reducible apply g_ld); exact rfl; exact rfl; (repeat first | with_reducible exact inb_hd | with_reducible apply inb_tl); exact rfl) | ((with_reducible apply g_v); exact rfl; (first | ((with_reducible apply v_field_n); exact rfl; exact rfl) | ((with_reducible apply v_aggneq); exact rfl; exact rfl; exact rfl; kernel_rfl; kernel_rfl; kernel_rfl; kernel_rfl) | ((with_reducible apply v_len_row 0); exact rfl; exact rfl; exact rfl) | ((with_reducible apply v_len_row 1); exact rfl; exact rfl; exact rfl) | ((with_reducible apply v_len_row 2); exact rfl; exact rfl; exact rfl) | ((with_reducible apply v_len_row 3); exact rfl; exact rfl; exact rfl))) | ((with_reducible apply g_nw); exact rfl; exact rfl; exact rfl; intro b) | ((with_reducible apply gq_block_other); exact rfl) | ((with_reducible apply g_if); exact rfl; (fail_if_success (with_reducible show NLit true)); (fail_if_success (with_reducible show NLit false)); exact nLit _))
    refine gc_draw 12 _ (by kernel_rfl) rfl (List.Sublist.cons_cons _ (List.Sublist.cons_cons _ (List.nil_sublist _))) ?_
    all_goals (first | ((with_reducible apply ga_p 0); exact rfl; kernel_rfl; (exact fun _ _ _ h => h)) | ((with_reducible apply ga_v 0); exact rfl; kernel_rfl; (exact fun _ _ _ h => h); (first | ((with_reducible apply v_field_n); exact rfl; exact rfl))) | ((with_reducible apply ga_all1 0); kernel_rfl; (with_reducible apply gaop_val); exact rfl; exact rfl; exact rfl; exact rfl; (first | ((with_reducible apply v_field_n); exact rfl; exact rfl))))
    all_goals (first | ((with_reducible apply ga_p 1); exact rfl; kernel_rfl; (exact fun _ _ _ h => h)) | ((with_reducible apply ga_v 1); exact rfl; kernel_rfl; (exact fun _ _ _ h => h); (first | (first | ((with_reducible apply v_load_shs); exact rfl; exact rfl; exact rfl; exact hm; exact rfl) | ((with_reducible apply v_ld_sh); exact rfl; exact rfl; exact rfl; exact hm; exact rfl)) | (first | ((with_reducible apply v_load_shs); exact rfl; exact rfl; exact rfl; exact hm2; exact rfl) | ((with_reducible apply v_ld_sh); exact rfl; exact rfl; exact rfl; exact hm2; exact rfl)) | ((with_reducible apply v_ld); exact rfl; (repeat first | with_reducible exact inb_hd | with_reducible apply inb_tl); exact rfl))) | ((with_reducible apply ga_all1 1); kernel_rfl; (with_reducible apply gaop_val); exact rfl; exact rfl; exact rfl; exact rfl; (first | (first | ((with_reducible apply v_load_shs); exact rfl; exact rfl; exact rfl; exact hm; exact rfl) | ((with_reducible apply v_ld_sh); exact rfl; exact rfl; exact rfl; exact hm; exact rfl)) | (first | ((with_reducible apply v_load_shs); exact rfl; exact rfl; exact rfl; exact hm2; exact rfl) | ((with_reducible apply v_ld_sh); exact rfl; exact rfl; exact rfl; exact hm2; exact rfl)) | ((with_reducible apply v_ld); exact rfl; (repeat first | with_reducible exact inb_hd | with_reducible apply inb_tl); exact rfl))))
    all_goals (first | ((with_reducible apply ga_p 2); exact rfl; kernel_rfl; (exact fun _ _ _ h => h)) | ((with_reducible apply ga_all1 2); kernel_rfl; (with_reducible apply gaop_val); exact rfl; exact rfl; exact rfl; exact rfl; (with_reducible apply pv_sound); exact rfl))
    all_goals (first | ((with_reducible apply ga_p 3); exact rfl; kernel_rfl; (exact fun _ _ _ h => h)) | ((with_reducible apply ga_v 3); exact rfl; kernel_rfl; (exact fun _ _ _ h => h); (first | ((with_reducible apply v_index_n); exact rfl; exact rfl; exact rfl; exact rfl; omega))) | ((with_reducible apply ga_all1 3); kernel_rfl; (with_reducible apply gaop_val); exact rfl; exact rfl; exact rfl; exact rfl; (first | ((with_reducible apply v_index_n); exact rfl; exact rfl; exact rfl; exact rfl; omega))))
    all_goals (first | ((with_reducible apply ga_p 4); exact rfl; kernel_rfl; (exact fun _ _ _ h => h)) | ((with_reducible apply ga_v 4); exact rfl; kernel_rfl; (exact fun _ _ _ h => h); (first | (first | ((with_reducible apply v_load_shs); exact rfl; exact rfl; exact rfl; exact hm; exact rfl) | ((with_reducible apply v_ld_sh); exact rfl; exact rfl; exact rfl; exact hm; exact rfl)) | (first | ((with_reducible apply v_load_shs); exact rfl; exact rfl; exact rfl; exact hm2; exact rfl) | ((with_reducible apply v_ld_sh); exact rfl; exact rfl; exact rfl; exact hm2; exact rfl)) | ((with_reducible apply v_ld); exact rfl; (repeat first | with_reducible exact inb_hd | with_reducible apply inb_tl); exact rfl))) | ((with_reducible apply ga_all1 4); kernel_rfl; (with_reducible apply gaop_val); exact rfl; exact rfl; exact rfl; exact rfl; (first | (first | ((with_reducible apply v_load_shs); exact rfl; exact rfl; exact rfl; exact hm; exact rfl) | ((with_reducible apply v_ld_sh); exact rfl; exact rfl; exact rfl; exact hm; exact rfl)) | (first | ((with_reducible apply v_load_shs); exact rfl; exact rfl; exact rfl; exact hm2; exact rfl) | ((with_reducible apply v_ld_sh); exact rfl; exact rfl; exact rfl; exact hm2; exact rfl)) | ((with_reducible apply v_ld); exact rfl; (repeat first | with_reducible exact inb_hd | with_reducible apply inb_tl); exact rfl))))
    all_goals (first | ((with_reducible apply ga_p 5); exact rfl; kernel_rfl; (exact fun _ _ _ h => h)) | ((with_reducible apply ga_v 5); exact rfl; kernel_rfl; (exact fun _ _ _ h => h); (first | ((with_reducible apply v_field_n); exact rfl; exact rfl))) | ((with_reducible apply ga_all1 5); kernel_rfl; (with_reducible apply gaop_val); exact rfl; exact rfl; exact rfl; exact rfl; (first | ((with_reducible apply v_field_n); exact rfl; exact rfl))))
    all_goals (first | ((with_reducible apply ga_p 6); exact rfl; kernel_rfl; (exact fun _ _ _ h => h)) | ((with_reducible apply ga_v 6); exact rfl; kernel_rfl; (exact fun _ _ _ h => h); (first | (first | ((with_reducible apply v_load_shs); exact rfl; exact rfl; exact rfl; exact hm; exact rfl) | ((with_reducible apply v_ld_sh); exact rfl; exact rfl; exact rfl; exact hm; exact rfl)) | (first | ((with_reducible apply v_load_shs); exact rfl; exact rfl; exact rfl; exact hm2; exact rfl) | ((with_reducible apply v_ld_sh); exact rfl; exact rfl; exact rfl; exact hm2; exact rfl)) | ((with_reducible apply v_ld); exact rfl; (repeat first | with_reducible exact inb_hd | with_reducible apply inb_tl); exact rfl))) | ((with_reducible apply ga_all1 6); kernel_rfl; (with_reducible apply gaop_val); exact rfl; exact rfl; exact rfl; exact rfl; (first | (first | ((with_reducible apply v_load_shs); exact rfl; exact rfl; exact rfl; exact hm; exact rfl) | ((with_reducible apply v_ld_sh); exact rfl; exact rfl; exact rfl; exact hm; exact rfl)) | (first | ((with_reducible apply v_load_shs); exact rfl; exact rfl; exact rfl; exact hm2; exact rfl) | ((with_reducible apply v_ld_sh); exact rfl; exact rfl; exact rfl; exact hm2; exact rfl)) | ((with_reducible apply v_ld); exact rfl; (repeat first | with_reducible exact inb_hd | with_reducible apply inb_tl); exact rfl))))
    all_goals (first | ((with_reducible apply ga_p 7); exact rfl; kernel_rfl; (exact fun _ _ _ h => h)) | ((with_reducible apply ga_all1 7); kernel_rfl; (with_reducible apply gaop_val); exact rfl; exact rfl; exact rfl; exact rfl; (with_reducible apply pv_sound); exact rfl))
    all_goals (first | ((with_reducible apply ga_p 8); exact rfl; kernel_rfl; (exact fun _ _ _ h => h)) | ((with_reducible apply ga_v 8); exact rfl; kernel_rfl; (exact fun _ _ _ h => h); (first | ((with_reducible apply v_index_n); exact rfl; exact rfl; exact rfl; exact rfl; omega))) | ((with_reducible apply ga_all1 8); kernel_rfl; (with_reducible apply gaop_val); exact rfl; exact rfl; exact rfl; exact rfl; (first | ((with_reducible apply v_index_n); exact rfl; exact rfl; exact rfl; exact rfl; omega))))
    all_goals (first | ((with_reducible apply ga_p 9); exact rfl; kernel_rfl; (exact fun _ _ _ h => h)) | ((with_reducible apply ga_v 9); exact rfl; kernel_rfl; (exact fun _ _ _ h => h); (first | (first | ((with_reducible apply v_load_shs); exact rfl; exact rfl; exact rfl; exact hm; exact rfl) | ((with_reducible apply v_ld_sh); exact rfl; exact rfl; exact rfl; exact hm; exact rfl)) | (first | ((with_reducible apply v_load_shs); exact rfl; exact rfl; exact rfl; exact hm2; exact rfl) | ((with_reducible apply v_ld_sh); exact rfl; exact rfl; exact rfl; exact hm2; exact rfl)) | ((with_reducible apply v_ld); exact rfl; (repeat first | with_reducible exact inb_hd | with_reducible apply inb_tl); exact rfl))) | ((with_reducible apply ga_all1 9); kernel_rfl; (with_reducible apply gaop_val); exact rfl; exact rfl; exact rfl; exact rfl; (first | (first | ((with_reducible apply v_load_shs); exact rfl; exact rfl; exact rfl; exact hm; exact rfl) | ((with_reducible apply v_ld_sh); exact rfl; exact rfl; exact rfl; exact hm; exact rfl)) | (first | ((with_reducible apply v_load_shs); exact rfl; exact rfl; exact rfl; exact hm2; exact rfl) | ((with_reducible apply v_ld_sh); exact rfl; exact rfl; exact rfl; exact hm2; exact rfl)) | ((with_reducible apply v_ld); exact rfl; (repeat first | with_reducible exact inb_hd | with_reducible apply inb_tl); exact rfl))))
    all_goals (first | ((with_reducible apply ga_all1 10); kernel_rfl; (with_reducible apply gaop_g); exact rfl; (first | ((with_reducible apply g_enter_s); exact rfl; exact rfl; exact rfl; (first | ((with_reducible apply e_call2); kernel_rfl; exact rfl; exact rfl)); exact fun w μc hw hse => ih k hkm w μc u u2 hw (hku.mono hse.le) (hku2.mono hse.le) hksz)); (with_reducible apply g_ga_nil); (first | exact MLe.refl _ | assumption | exact MLe.trans ‹_› ‹_›); (repeat first | exact List.Sublist.refl _ | exact List.nil_sublist _ | refine List.Sublist.cons_cons _ ?_ | refine List.Sublist.cons _ ?_)))
    all_goals (first | ((with_reducible apply ga_p 11); exact rfl; kernel_rfl; (exact fun _ _ _ h => h)) | ((with_reducible apply ga_all1 11); kernel_rfl; (with_reducible apply gaop_val); exact rfl; exact rfl; exact rfl; exact rfl; (with_reducible apply pv_sound); exact rfl))
    all_goals ((with_reducible apply ga_done); kernel_rfl)
    repeat' (first | (with_reducible (first | apply gc_seq | apply gc_region | apply g_nil | apply gq_then | apply gc_block | apply gc_exit | apply gc_ret | apply gc_skip | apply gq_then_exit | apply gq_then_ret | apply gq_block_same | apply gq_block_normal | apply gq_block_ret)) | ((with_reducible apply g_p); exact rfl) | ((with_reducible apply gc_if); exact rfl) | (with_reducible (first | apply pif_t | apply pif_f | apply pif_not)) | ((with_reducible apply pif_decT); (first | omega | with_reducible assumption | with_reducible rfl)) | ((with_reducible apply pif_decF); (first | omega | with_reducible assumption | with_reducible exact ne_self_f _)) | (((with_reducible apply pif_tt); exact rfl)) | (((with_reducible apply pif_ff); exact rfl)) | (with_reducible (first | refine pif_dec (fun hp => ?_) (fun hp => ?_) | refine pif_b (fun hp => ?_) (fun hp => ?_))) | ((with_reducible apply g_ar); exact rfl; omega) | ((with_reducible apply g_ld); exact rfl; exact rfl; (repeat first | with_reducible exact inb_hd | with_reducible apply inb_tl); exact rfl) | ((with_reducible apply g_v); exact rfl; (first | ((with_reducible apply v_field_n); exact rfl; exact rfl) | ((with_reducible apply v_aggneq); exact rfl; exact rfl; exact rfl; kernel_rfl; kernel_rfl; kernel_rfl; kernel_rfl) | ((with_reducible apply v_len_row 0); exact rfl; exact rfl; exact rfl) | ((with_reducible apply v_len_row 1); exact rfl; exact rfl; exact rfl) | ((with_reducible apply v_len_row 2); exact rfl; exact rfl; exact rfl) | ((with_reducible apply v_len_row 3); exact rfl; exact rfl; exact rfl))) | ((with_reducible apply g_nw); exact rfl; exact rfl; exact rfl; intro b) | ((with_reducible apply gq_block_other); exact rfl) | ((with_reducible apply g_if); exact rfl; (fail_if_success (with_reducible show NLit true)); (fail_if_success (with_reducible show NLit false)); exact nLit _))
    exact gq_back (i + 1) (by omega) (by omega) rfl (by repeat first | exact subS_nil | refine subS_cons rfl ?_) (by repeat first | exact List.Sublist.refl _ | exact List.nil_sublist _ | refine List.Sublist.cons_cons _ ?_ | refine List.Sublist.cons _ ?_)
  · repeat' (first | (with_reducible (first | apply gc_seq | apply gc_region | apply g_nil | apply gq_then | apply gc_block | apply gc_exit | apply gc_ret | apply gc_skip | apply gq_then_exit | apply gq_then_ret | apply gq_block_same | apply gq_block_normal | apply gq_block_ret)) | ((with_reducible apply g_p); exact rfl) | ((with_reducible apply gc_if); exact rfl) | (with_reducible (first | apply pif_t | apply pif_f | apply pif_not)) | ((with_reducible apply pif_decT); (first | omega | with_reducible assumption | with_reducible rfl)) | ((with_reducible apply pif_decF); (first | omega | with_reducible assumption | with_reducible exact ne_self_f _)) | (((with_reducible apply pif_tt); exact rfl)) | (((with_reducible apply pif_ff); exact rfl)) | (with_reducible (first | refine pif_dec (fun hp => ?_) (fun hp => ?_) | refine pif_b (fun hp => ?_) (fun hp => ?_))) | ((with_reducible apply g_ar); exact rfl; omega) | ((with_reducible apply g_ld); exact rfl; exact rfl; (repeat first | with_reducible exact inb_hd | with_reducible apply inb_tl); exact rfl) | ((with_reducible apply g_v); exact rfl; (first | ((with_reducible apply v_field_n); exact rfl; exact rfl) | ((with_reducible apply v_aggneq); exact rfl; exact rfl; exact rfl; kernel_rfl; kernel_rfl; kernel_rfl; kernel_rfl) | ((with_reducible apply v_len_row 0); exact rfl; exact rfl; exact rfl) | ((with_reducible apply v_len_row 1); exact rfl; exact rfl; exact rfl) | ((with_reducible apply v_len_row 2); exact rfl; exact rfl; exact rfl) | ((with_reducible apply v_len_row 3); exact rfl; exact rfl; exact rfl))) | ((with_reducible apply g_nw); exact rfl; exact rfl; exact rfl; intro b) | ((with_reducible apply gq_block_other); exact rfl) | ((with_reducible apply g_if); exact rfl; (fail_if_success (with_reducible show NLit true)); (fail_if_success (with_reducible show NLit false)); exact nLit _))
    exact ret_s rfl rfl rfl
theorem same_spec (t : T) : SameOK t := T.ind same_step t

def chT : Nat → T
  | 0 => exA
  | k + 1 => T.mk 37 0 0 0 empty [chT k]
def chP : Nat → T
  | 0 => exA
  | k + 1 => T.mk 60 0 0 0 empty [chP k]
theorem chT_size (k : Nat) : (chT k).size = k + 1 := by
  induction k with
  | zero => simp [chT, exA, T.size_eq, T.kids]
  | succ k ih => rw [T.size_eq]; simp [chT, T.kids, ih]; omega
theorem chP_size (k : Nat) : (chP k).size = k + 1 := by
  induction k with
  | zero => simp [chP, exA, T.size_eq, T.kids]
  | succ k ih => rw [T.size_eq]; simp [chP, T.kids, ih]; omega
theorem chP_names (k : Nat) : namesF (chP k) = [⟨#[97]⟩] := by
  induction k with
  | zero => exact namesF_name rfl
  | succ k ih =>
    rw [names_all (.inl rfl)]
    simp [chP, T.kids, ih]
theorem chT_op (k : Nat) : (chT k).op = 34 ∨ (chT k).op = 37 := by cases k <;> simp [chT, exA, T.op]
theorem chT_el (k : Nat) : ∀ (N : Nat) (deep : Int) (may : Bool), k < N → elF N (chT k) deep may = if deep + k > 200 then errT 10 else (chP k, 0) := by
  induction k with
  | zero =>
    intro N deep may hN
    obtain ⟨N, rfl⟩ : ∃ M, N = M + 1 := ⟨N - 1, by omega⟩
    unfold elF
    by_cases h : deep > 200
    · rw [if_pos h, if_pos (by omega)]
    · rw [if_neg h, if_pos (show patternF (chT 0) = true from rfl), if_neg (by omega)]
      rfl
  | succ k ih =>
    intro N deep may hN
    obtain ⟨N, rfl⟩ : ∃ M, N = M + 1 := ⟨N - 1, by omega⟩
    unfold elF
    by_cases h : deep > 200
    · rw [if_pos h, if_pos (by omega)]
    · rw [if_neg h, if_neg (by simp [patternF, targetF, chT, T.op]), if_neg (by simp [chT, T.op]), if_pos (by simp [chT, T.op])]
      have hi : ∀ i, i < 1 → itemF (elF N) (chT (k + 1)).kids i (deep + 1) = if deep + 1 + k > 200 then errT 10 else (chP k, 0) := by
        intro i hi
        have : i = 0 := by omega
        subst this
        have e : itemF (elF N) (chT (k + 1)).kids 0 (deep + 1) = if (chT k).op = 41 then lastF [chT k] 0 (deep + 1) (fun k => elF N k (deep + 1 + 1) false) else if (chT k).op = 40 then (chT k, 0) else elF N (chT k) (deep + 1) true := rfl
        rw [e]
        rw [if_neg (show ¬ (chT k).op = 41 by have := chT_op k; omega), if_neg (show ¬ (chT k).op = 40 by have := chT_op k; omega)]
        exact ih N (deep + 1) true (by omega)
      have h37 : (chT (k + 1)).op = 37 := rfl
      have hl : (chT (k + 1)).kids.length = 1 := rfl
      simp only [h37, if_true, hl]
      by_cases h2 : deep + 1 + k > 200
      · have h0 := hi 0 (by omega)
        rw [if_pos h2] at h0
        rw [eachF_some (i := 0) (by omega) (fun j hj => by omega) (by rw [h0]; simp [errT])]
        simp only [h0]
        rw [if_pos (by omega)]
        rfl
      · have h0 := hi 0 (by omega)
        rw [if_neg h2] at h0
        rw [eachF_none (fun j hj => by rw [hi j hj, if_neg h2])]
        rw [if_neg (by omega)]
        simp [chP, chT, T.at']
        exact congrArg Prod.fst h0
end Go.Proofs.Ytcjglalhchhcpaa
