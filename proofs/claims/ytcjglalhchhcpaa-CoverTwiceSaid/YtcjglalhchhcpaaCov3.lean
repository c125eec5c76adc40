/- The names that a pattern binds: cover's and the reference's. -/
import Derived.Test.YtcjglalhchhcpaaCov2
namespace Go.Proofs.Ytcjglalhchhcpaa
open Go.RowKit Go.Vcg
attribute [local irreducible] G GC GQ GA GAop Calls IntKind.wrap Int.decLt Int.decLe

def withinT (t : T) : List T :=
  if t.op = 60 ∨ t.op = 61 ∨ t.op = 5 then t.kids else if t.op = 63 ∨ t.op = 64 then t.kids.take 1 else if t.op = 62 then (t.kids.drop 1).take 1 else []
theorem within_mem {t k : T} (h : k ∈ withinT t) : k ∈ t.kids := by
  unfold withinT at h
  split at h
  · exact h
  · split at h
    · exact List.mem_of_mem_take h
    · split at h
      · exact List.mem_of_mem_drop (List.mem_of_mem_take h)
      · cases h
theorem sizeOf_mem {t k : T} (h : k ∈ t.kids) : SizeOf.sizeOf k < SizeOf.sizeOf t := by
  obtain ⟨i, hi⟩ := List.mem_iff_getElem?.1 h
  exact T.sizeOf_kid hi
def namesF (t : T) : List ByteArray := if t.op = 34 then [t.s] else (withinT t).attach.flatMap fun k => namesF k.1
termination_by SizeOf.sizeOf t
decreasing_by exact sizeOf_mem (within_mem k.2)
theorem namesF_name {t : T} (h : t.op = 34) : namesF t = [t.s] := by rw [namesF, if_pos h]
theorem namesF_in {t : T} (h : t.op ≠ 34) : namesF t = (withinT t).flatMap namesF := by
  rw [namesF, if_neg h]
  simp
theorem T.ind {p : T → Prop} (h : ∀ t, (∀ k, k ∈ t.kids → p k) → p t) (t : T) : p t :=
  (measure (fun t : T => SizeOf.sizeOf t)).wf.induction t fun t ih => h t fun k hk => ih k (sizeOf_mem hk)
def sizesT (l : List T) : Nat := (l.map T.size).sum
theorem sizesT_take (l : List T) (k : Nat) : sizesT (l.take k) ≤ sizesT l := by
  have : sizesT l = sizesT (l.take k) + sizesT (l.drop k) := by
    conv => lhs; rw [← List.take_append_drop k l]
    simp only [sizesT, List.map_append, List.sum_append]
  omega
theorem sizesT_drop (l : List T) (k : Nat) : sizesT (l.drop k) ≤ sizesT l := by
  have : sizesT l = sizesT (l.take k) + sizesT (l.drop k) := by
    conv => lhs; rw [← List.take_append_drop k l]
    simp only [sizesT, List.map_append, List.sum_append]
  omega
theorem len_sizesT (l : List T) : l.length ≤ sizesT l := by
  induction l with
  | nil => simp
  | cons k l ih =>
    have := T.size_eq k
    simp [sizesT] at *
    omega
theorem within_size (t : T) : sizesT (withinT t) < t.size := by
  rw [T.size_eq]
  have h0 : (t.kids.map T.size).sum = sizesT t.kids := rfl
  rw [h0]
  unfold withinT
  have h1 := sizesT_take t.kids 1
  have h2 := sizesT_drop t.kids 1
  have h3 := sizesT_take (t.kids.drop 1) 1
  have h4 : sizesT [] = 0 := rfl
  split
  · omega
  · split
    · omega
    · split <;> omega
theorem flat_names_len {l : List T} (h : ∀ k ∈ l, (namesF k).length ≤ k.size) : (l.flatMap namesF).length ≤ sizesT l := by
  induction l with
  | nil => simp [sizesT]
  | cons k l ih =>
    have h1 := h k (by simp)
    have h2 := ih (fun k hk => h k (by simp [hk]))
    simp [sizesT] at *
    omega
theorem names_len (t : T) : (namesF t).length ≤ t.size := by
  induction t using T.ind with
  | h t ih =>
    by_cases h : t.op = 34
    · rw [namesF_name h, T.size_eq]; simp
    · rw [namesF_in h]
      have := flat_names_len (l := withinT t) (fun k hk => ih k (within_mem hk))
      have := within_size t
      omega

theorem KR.take {μ : Mem} {ks : List T} {A : Option Addr} {n c : Nat} (h : KR μ ks (.slice A n c)) (k : Nat) (hk : k ≤ n) : KR μ (ks.take k) (.slice A k c) := by
  cases h with
  | mk _ A c vs hcap hcell hone hsub =>
    have e : (ks.take k).length = k := by simp; omega
    have h0 : ∀ (i : Nat) (t : T), (ks.take k)[i]? = some t → ks[i]? = some t := fun i t hi => by
      rw [List.getElem?_take] at hi; split at hi <;> simp_all
    have := KR.mk (μ := μ) (ks.take k) A c vs (by omega) (fun i t hi => hcell i t (h0 i t hi)) (fun i t hi => hone i t (h0 i t hi)) (fun i t hi => hsub i t (h0 i t hi))
    rw [e] at this
    exact this
theorem KR.drop {μ : Mem} {ks : List T} {A : Option Addr} {n c : Nat} (h : KR μ ks (.slice A n c)) (k m : Nat) (hk : k ≤ m) (hm : m ≤ n) : KR μ ((ks.drop k).take (m - k)) (.slice (if c = k then A else A.map (·.add (k * 6))) (m - k) (c - k)) := by
  refine KR.take (n := n - k) ?_ (m - k) (by omega)
  cases h with
  | mk _ A c vs hcap hcell hone hsub =>
    have e : (ks.drop k).length = ks.length - k := by simp
    have h0 : ∀ (i : Nat) (t : T), (ks.drop k)[i]? = some t → ks[k + i]? = some t := fun i t hi => by simpa using hi
    have := KR.mk (μ := μ) (ks.drop k) (if c = k then A else A.map (·.add (k * 6))) (c - k) (fun i => vs (k + i)) (by omega) (fun i t hi => ?_) (fun i t hi => hone _ t (h0 i t hi)) (fun i t hi => hsub _ t (h0 i t hi))
    · rw [e] at this
      exact this
    · obtain ⟨a, e, hc⟩ := hcell _ t (h0 i t hi)
      have : k + i < ks.length := (List.getElem?_eq_some_iff.1 (h0 i t hi)).1
      rw [if_neg (by omega), e]
      refine ⟨_, rfl, ?_⟩
      rw [add_add', ← Nat.add_mul]
      exact hc

theorem take_min (l : List T) : l.take (min 1 l.length) = l.take 1 := by cases l <;> simp
theorem within_spec (w : World) (μ : Mem) (hμ : MOk μ w) (t : T) (kv : Value) (hk : KR μ t.kids kv) :
    Calls Try.prog 15 #[.agg (encT t kv).toArray] w fun e w' => ∃ v μ', e = .returned v ∧ Grow w w' μ μ' ∧ KR μ' (withinT t) v := by
  refine call_intro Try.func15 rfl Try.ntmps15 (by simp) hμ ?_
  obtain ⟨A, c, rfl, hcap, hget⟩ := hk.form
  repeat' (first | (with_reducible (first | apply gc_seq | apply gc_region | apply g_nil | apply gq_then | apply gc_block | apply gc_exit | apply gc_ret | apply gc_skip | apply gq_then_exit | apply gq_then_ret | apply gq_block_same | apply gq_block_normal | apply gq_block_ret)) | ((with_reducible apply g_p); exact rfl) | ((with_reducible apply gc_if); exact rfl) | (with_reducible (first | apply pif_t | apply pif_f | apply pif_not)) | ((with_reducible apply pif_decT); (first | omega | with_reducible assumption | with_reducible rfl)) | ((with_reducible apply pif_decF); (first | omega | with_reducible assumption | with_reducible exact ne_self_f _)) | (((with_reducible apply pif_tt); exact rfl)) | (((with_reducible apply pif_ff); exact rfl)) | (with_reducible (first | refine pif_dec (fun hp => ?_) (fun hp => ?_) | refine pif_b (fun hp => ?_) (fun hp => ?_))) | ((with_reducible apply g_ld); exact rfl; exact rfl; (repeat first | with_reducible exact inb_hd | with_reducible apply inb_tl); exact rfl) | ((with_reducible apply g_v); exact rfl; (first | ((with_reducible apply v_min2); exact rfl; exact rfl) | ((with_reducible apply v_slice_hi (min 1 t.kids.length)); exact rfl; exact rfl; exact rfl; exact rfl; (focus (split <;> omega; done)); omega) | ((with_reducible apply v_slice_both 1 2); exact rfl; exact rfl; exact rfl; exact rfl; exact rfl; exact rfl; exact rfl; omega; omega) | ((with_reducible apply v_field_n); exact rfl; exact rfl) | ((with_reducible apply v_aggeql); exact rfl; exact rfl; exact rfl; kernel_rfl; kernel_rfl; kernel_rfl; kernel_rfl) | ((with_reducible apply v_len_row 0); exact rfl; exact rfl; exact rfl) | ((with_reducible apply v_len_row 1); exact rfl; exact rfl; exact rfl) | ((with_reducible apply v_len_row 2); exact rfl; exact rfl; exact rfl) | ((with_reducible apply v_len_row 3); exact rfl; exact rfl; exact rfl) | ((with_reducible apply v_slice_arr); exact rfl; exact rfl; exact rfl))) | ((with_reducible apply g_nw); exact rfl; exact rfl; exact rfl; intro b) | ((with_reducible apply gq_block_other); exact rfl) | ((with_reducible apply g_if); exact rfl; (fail_if_success (with_reducible show NLit true)); (fail_if_success (with_reducible show NLit false)); exact nLit _))
  all_goals refine ret_m1 rfl (rv_tmp rfl) (fun μ' hle _ => ?_)
  all_goals have hk' := hk.mono hle
  all_goals unfold withinT
  · rw [if_pos (by omega)]; exact hk'
  · rw [if_pos (by omega)]; exact hk'
  · rw [if_pos (by omega)]; exact hk'
  · rw [if_neg (by omega), if_pos (by omega)]
    have := hk'.take (min 1 t.kids.length) (Nat.min_le_right _ _)
    rwa [take_min] at this
  · rw [if_neg (by omega), if_pos (by omega)]
    have := hk'.take (min 1 t.kids.length) (Nat.min_le_right _ _)
    rwa [take_min] at this
  · rw [if_neg (by omega), if_neg (by omega), if_pos (by omega)]
    exact hk'.drop 1 2 (by omega) (by omega)
  · rw [if_neg (by omega), if_neg (by omega), if_pos (by omega), List.drop_of_length_le (by omega)]
    exact KR.nil _ _ _
  · rw [if_neg (by omega), if_neg (by omega), if_neg (by omega)]
    exact KR.nil _ _ _

theorem oneStr (l : List ByteArray) : ∀ u ∈ l.flatMap encStr, u.oneCell' = true := by
  intro u hu
  obtain ⟨x, _, hx⟩ := List.mem_flatMap.1 hu
  simp at hx; subst hx; rfl
theorem lenStr (l : List ByteArray) : (l.flatMap encStr).length = l.length := by
  have := flat_length (enc := encStr) (s := 1) (fun _ => rfl) l
  omega

def NamesOK (f : FuncId) (t : T) : Prop := ∀ (w : World) (μ : Mem) (kv : Value), MOk μ w → KR μ t.kids kv → t.size ≤ 1000000 →
  Calls Try.prog f #[.agg (encT t kv).toArray] w (RowPost w 9 1 (namesF t).length ((namesF t).flatMap encStr))

theorem names_step (t : T) (ih : ∀ k, k ∈ t.kids → NamesOK 10 k) : NamesOK 10 t := by
  intro w μ kv hμ hk hsz
  refine call_intro Try.func10 rfl Try.ntmps10 (by simp) hμ ?_
  by_cases hop : t.op = 34
  · repeat' (first | (with_reducible (first | apply gc_seq | apply gc_region | apply g_nil | apply gq_then | apply gc_block | apply gc_exit | apply gc_ret | apply gc_skip | apply gq_then_exit | apply gq_then_ret | apply gq_block_same | apply gq_block_normal | apply gq_block_ret)) | ((with_reducible apply g_p); exact rfl) | ((with_reducible apply gc_if); exact rfl) | (with_reducible (first | apply pif_t | apply pif_f | apply pif_not)) | ((with_reducible apply pif_decT); (first | omega | with_reducible assumption | with_reducible rfl)) | ((with_reducible apply pif_decF); (first | omega | with_reducible assumption | with_reducible exact ne_self_f _)) | (((with_reducible apply pif_tt); exact rfl)) | (((with_reducible apply pif_ff); exact rfl)) | (with_reducible (first | refine pif_dec (fun hp => ?_) (fun hp => ?_) | refine pif_b (fun hp => ?_) (fun hp => ?_))) | ((with_reducible apply g_ar); exact rfl; omega) | ((with_reducible apply g_ld); exact rfl; exact rfl; (repeat first | with_reducible exact inb_hd | with_reducible apply inb_tl); exact rfl) | ((with_reducible apply g_v); exact rfl; (first | ((with_reducible apply v_field_n); exact rfl; exact rfl) | ((with_reducible apply v_index_n); exact rfl; exact rfl; exact rfl; exact rfl; omega) | ((with_reducible apply v_aggeql); exact rfl; exact rfl; exact rfl; kernel_rfl; kernel_rfl; kernel_rfl; kernel_rfl) | ((with_reducible apply v_len_row 0); exact rfl; exact rfl; exact rfl) | ((with_reducible apply v_len_row 1); exact rfl; exact rfl; exact rfl) | ((with_reducible apply v_len_row 2); exact rfl; exact rfl; exact rfl) | ((with_reducible apply v_len_row 3); exact rfl; exact rfl; exact rfl))) | ((with_reducible apply g_nw); exact rfl; exact rfl; exact rfl; intro b) | ((with_reducible apply g_bs); exact rfl; exact rfl; exact rfl; intro b) | ((with_reducible apply g_st); exact rfl; exact rfl; (repeat first | with_reducible exact ones_nil | ((with_reducible apply ones_cons); (first | exact rfl | assumption))); (repeat first | with_reducible apply upb_hd | with_reducible apply upb_tl); exact rfl; (repeat first | with_reducible exact pc_nil | with_reducible apply pc_cons)) | ((with_reducible apply gq_block_other); exact rfl) | ((with_reducible apply g_if); exact rfl; (fail_if_success (with_reducible show NLit true)); (fail_if_success (with_reducible show NLit false)); exact nLit _))
    rw [namesF_name hop]
    refine gq_sub (l' := [(2, .slice (some ⟨b, 0, none⟩) 1 1)]) (L' := [.inl ⟨b, 9, 1, idx 0 [.string t.s]⟩]) (by repeat first | exact subS_nil | refine subS_cons rfl ?_) (by repeat first | exact List.Sublist.refl _ | exact List.nil_sublist _ | refine List.Sublist.cons_cons _ ?_ | refine List.Sublist.cons _ ?_) ?_
    refine gq_blkRow 1 1 rfl (lc_cons rfl lc_nil) (by omega) ?_
    exact ret_row 0 rfl rfl rfl
  · have hws := within_size t
    have hwl := len_sizesT (withinT t)
    have hsub : ∀ i, (((withinT t).take i).flatMap namesF).length ≤ t.size := fun i => by
      have h1 := flat_names_len (l := (withinT t).take i) (fun k _ => names_len k)
      have h2 := sizesT_take (withinT t) i
      omega
    repeat' (first | (with_reducible (first | apply gc_seq | apply gc_region | apply g_nil | apply gq_then | apply gc_block | apply gc_exit | apply gc_ret | apply gc_skip | apply gq_then_exit | apply gq_then_ret | apply gq_block_same | apply gq_block_normal | apply gq_block_ret)) | ((with_reducible apply g_p); exact rfl) | ((with_reducible apply g_enter_m); exact rfl; exact rfl; exact rfl; (first | ((with_reducible apply e_call1); kernel_rfl; exact rfl)); (exact fun w hw => within_spec w μ hw t kv hk); intro v μ1 hle1 hk1; obtain ⟨A, c, rfl, hcap, hget⟩ := hk1.form) | ((with_reducible apply gc_if); exact rfl) | (with_reducible (first | apply pif_t | apply pif_f | apply pif_not)) | ((with_reducible apply pif_decT); (first | omega | with_reducible assumption | with_reducible rfl)) | ((with_reducible apply pif_decF); (first | omega | with_reducible assumption | with_reducible exact ne_self_f _)) | (((with_reducible apply pif_tt); exact rfl)) | (((with_reducible apply pif_ff); exact rfl)) | (with_reducible (first | refine pif_dec (fun hp => ?_) (fun hp => ?_) | refine pif_b (fun hp => ?_) (fun hp => ?_))) | ((with_reducible apply g_ar); exact rfl; omega) | ((with_reducible apply g_ld); exact rfl; exact rfl; (repeat first | with_reducible exact inb_hd | with_reducible apply inb_tl); exact rfl) | ((with_reducible apply g_v); exact rfl; (first | ((with_reducible apply v_field_n); exact rfl; exact rfl) | ((with_reducible apply v_index_n); exact rfl; exact rfl; exact rfl; exact rfl; omega) | ((with_reducible apply v_aggeql); exact rfl; exact rfl; exact rfl; kernel_rfl; kernel_rfl; kernel_rfl; kernel_rfl) | ((with_reducible apply v_len_row 0); exact rfl; exact rfl; exact rfl) | ((with_reducible apply v_len_row 1); exact rfl; exact rfl; exact rfl) | ((with_reducible apply v_len_row 2); exact rfl; exact rfl; exact rfl) | ((with_reducible apply v_len_row 3); exact rfl; exact rfl; exact rfl))) | ((with_reducible apply g_nw); exact rfl; exact rfl; exact rfl; intro b) | ((with_reducible apply g_bs); exact rfl; exact rfl; exact rfl; intro b) | ((with_reducible apply g_st); exact rfl; exact rfl; (repeat first | with_reducible exact ones_nil | ((with_reducible apply ones_cons); (first | exact rfl | assumption))); (repeat first | with_reducible apply upb_hd | with_reducible apply upb_tl); exact rfl; (repeat first | with_reducible exact pc_nil | with_reducible apply pc_cons)) | ((with_reducible apply gq_block_other); exact rfl) | ((with_reducible apply g_if); exact rfl; (fail_if_success (with_reducible show NLit true)); (fail_if_success (with_reducible show NLit false)); exact nLit _))
    refine gc_loop (ι := Nat × Value) (fun i => i.1 ≤ (withinT t).length) (fun i => (withinT t).length - i.1) (fun _ => μ1) (fun i => [(15, .int .i64 i.1), (14, .int .i64 (withinT t).length), (13, .slice A (withinT t).length c), (3, i.2)]) (fun i => [.inr ⟨i.2, 9, 1, (((withinT t).take i.1).flatMap namesF).length, (((withinT t).take i.1).flatMap namesF).flatMap encStr⟩]) (0, .slice none 0 0) (by simp) (fun a w hs => (hs.nilRow 9 1).sub (by repeat first | exact subS_nil | refine subS_cons rfl ?_) (by repeat first | exact List.Sublist.refl _ | exact List.nil_sublist _ | refine List.Sublist.cons_cons _ ?_ | refine List.Sublist.cons _ ?_)) ?_
    rintro ⟨i, v⟩ hi
    dsimp only at hi ⊢
    by_cases hlt : i < (withinT t).length
    · have hki : (withinT t)[i]? = some (withinT t)[i] := List.getElem?_eq_getElem hlt
      generalize (withinT t)[i] = k at hki
      obtain ⟨ad, u, rfl, hm, hone, hku⟩ := hget i k hki
      have hkm := within_mem (List.mem_of_getElem? hki)
      have hksz : k.size ≤ 1000000 := by
        obtain ⟨j, hj⟩ := List.mem_iff_getElem?.1 hkm
        have := T.size_kid hj
        omega
      have hsu := hsub (i + 1)
      have htk : ((withinT t).take (i + 1)).flatMap namesF = ((withinT t).take i).flatMap namesF ++ namesF k := by
        rw [List.take_add_one, hki]; simp
      have hall : (encT k u).all (·.oneCell') = true := by simp only [List.all_cons, List.all_nil, Bool.and_true, Bool.and_eq_true]; exact ⟨rfl, rfl, rfl, rfl, rfl, hone⟩
      have hle2 : (((withinT t).take i).flatMap namesF).length + (namesF k).length ≤ 1000000 := by rw [htk, List.length_append] at hsu; omega
      have h1 := oneStr (namesF k)
      have h2 := lenStr (namesF k)
      repeat' (first | ((with_reducible apply g_storeS_0); exact rfl; exact rfl; exact rfl; exact rfl; exact rfl; exact hall; exact rfl; (repeat first | with_reducible exact pc_nil | with_reducible apply pc_cons)) | (with_reducible (first | apply gc_seq | apply gc_region | apply g_nil | apply gq_then | apply gc_block | apply gc_exit | apply gc_ret | apply gc_skip | apply gq_then_exit | apply gq_then_ret | apply gq_block_same | apply gq_block_normal | apply gq_block_ret)) | ((with_reducible apply g_p); exact rfl) | ((with_reducible apply g_enter_row); exact rfl; exact rfl; exact rfl; (first | ((with_reducible apply e_call1); kernel_rfl; exact rfl)); (exact fun w μc hk hse => ih k hkm w μc u hk (hku.mono hse.le) hksz); intro v2; (with_reducible apply g_rowOk 0); exact rfl; rintro A2 c2 rfl hok2) | (first | ((with_reducible apply g_ap); exact rfl; exact rfl; exact rfl; (repeat first | with_reducible exact rowup_hd | with_reducible apply rowup_tl); (iterate 6 exact rfl); (first | ((with_reducible apply src_row 0); exact hok2; exact rfl; exact rfl) | ((with_reducible apply src_in); exact rfl; (repeat first | with_reducible exact inb_hd | with_reducible apply inb_tl); exact rfl)); (first | exact rfl | omega | simp); (first | assumption | (exact ones_mem (by (repeat first | with_reducible exact ones_nil | ((with_reducible apply ones_cons); (first | exact rfl | assumption))))) | simp [Value.oneCell']); omega; omega; intro v) | ((with_reducible apply g_append0); (iterate 9 exact rfl); (first | ((with_reducible apply src_row 0); exact hok2; exact rfl; exact rfl) | ((with_reducible apply src_in); exact rfl; (repeat first | with_reducible exact inb_hd | with_reducible apply inb_tl); exact rfl)); (first | exact rfl | omega | simp); (first | assumption | (exact ones_mem (by (repeat first | with_reducible exact ones_nil | ((with_reducible apply ones_cons); (first | exact rfl | assumption))))) | simp [Value.oneCell']); omega; omega; intro v)) | ((with_reducible apply gc_if); exact rfl) | (with_reducible (first | apply pif_t | apply pif_f | apply pif_not)) | ((with_reducible apply pif_decT); (first | omega | with_reducible assumption | with_reducible rfl)) | ((with_reducible apply pif_decF); (first | omega | with_reducible assumption | with_reducible exact ne_self_f _)) | (((with_reducible apply pif_tt); exact rfl)) | (((with_reducible apply pif_ff); exact rfl)) | (with_reducible (first | refine pif_dec (fun hp => ?_) (fun hp => ?_) | refine pif_b (fun hp => ?_) (fun hp => ?_))) | ((with_reducible apply g_ar); exact rfl; omega) | ((with_reducible apply g_ld); exact rfl; exact rfl; (repeat first | with_reducible exact inb_hd | with_reducible apply inb_tl); exact rfl) | ((with_reducible apply g_v); exact rfl; (first | ((with_reducible apply v_index i); exact rfl; exact rfl; exact rfl; exact rfl; (first | exact rfl | omega); omega) | (first | ((with_reducible apply v_load_shs); exact rfl; exact rfl; exact rfl; exact hm; exact rfl) | ((with_reducible apply v_ld_sh); exact rfl; exact rfl; exact rfl; exact hm; exact rfl)) | ((with_reducible apply v_field_n); exact rfl; exact rfl) | ((with_reducible apply v_index_n); exact rfl; exact rfl; exact rfl; exact rfl; omega) | ((with_reducible apply v_aggeql); exact rfl; exact rfl; exact rfl; kernel_rfl; kernel_rfl; kernel_rfl; kernel_rfl) | ((with_reducible apply v_len_row 0); exact rfl; exact rfl; exact rfl) | ((with_reducible apply v_len_row 1); exact rfl; exact rfl; exact rfl) | ((with_reducible apply v_len_row 2); exact rfl; exact rfl; exact rfl) | ((with_reducible apply v_len_row 3); exact rfl; exact rfl; exact rfl))) | ((with_reducible apply g_nw); exact rfl; exact rfl; exact rfl; intro b) | ((with_reducible apply g_bs); exact rfl; exact rfl; exact rfl; intro b) | ((with_reducible apply g_st); exact rfl; exact rfl; (repeat first | with_reducible exact ones_nil | ((with_reducible apply ones_cons); (first | exact rfl | assumption))); (repeat first | with_reducible apply upb_hd | with_reducible apply upb_tl); exact rfl; (repeat first | with_reducible exact pc_nil | with_reducible apply pc_cons)) | ((with_reducible apply gq_block_other); exact rfl) | ((with_reducible apply g_if); exact rfl; (fail_if_success (with_reducible show NLit true)); (fail_if_success (with_reducible show NLit false)); exact nLit _))
      refine gq_back (i + 1, v) (by dsimp only; omega) (by dsimp only; omega) rfl (by repeat first | exact subS_nil | refine subS_cons rfl ?_) ?_
      dsimp only
      rw [htk, List.length_append, List.flatMap_append]
      exact (by repeat first | exact List.Sublist.refl _ | exact List.nil_sublist _ | refine List.Sublist.cons_cons _ ?_ | refine List.Sublist.cons _ ?_)
    · repeat' (first | (with_reducible (first | apply gc_seq | apply gc_region | apply g_nil | apply gq_then | apply gc_block | apply gc_exit | apply gc_ret | apply gc_skip | apply gq_then_exit | apply gq_then_ret | apply gq_block_same | apply gq_block_normal | apply gq_block_ret)) | ((with_reducible apply g_p); exact rfl) | ((with_reducible apply gc_if); exact rfl) | (with_reducible (first | apply pif_t | apply pif_f | apply pif_not)) | ((with_reducible apply pif_decT); (first | omega | with_reducible assumption | with_reducible rfl)) | ((with_reducible apply pif_decF); (first | omega | with_reducible assumption | with_reducible exact ne_self_f _)) | (((with_reducible apply pif_tt); exact rfl)) | (((with_reducible apply pif_ff); exact rfl)) | (with_reducible (first | refine pif_dec (fun hp => ?_) (fun hp => ?_) | refine pif_b (fun hp => ?_) (fun hp => ?_))) | ((with_reducible apply g_ar); exact rfl; omega) | ((with_reducible apply g_ld); exact rfl; exact rfl; (repeat first | with_reducible exact inb_hd | with_reducible apply inb_tl); exact rfl) | ((with_reducible apply g_v); exact rfl; (first | ((with_reducible apply v_field_n); exact rfl; exact rfl) | ((with_reducible apply v_index_n); exact rfl; exact rfl; exact rfl; exact rfl; omega) | ((with_reducible apply v_aggeql); exact rfl; exact rfl; exact rfl; kernel_rfl; kernel_rfl; kernel_rfl; kernel_rfl) | ((with_reducible apply v_len_row 0); exact rfl; exact rfl; exact rfl) | ((with_reducible apply v_len_row 1); exact rfl; exact rfl; exact rfl) | ((with_reducible apply v_len_row 2); exact rfl; exact rfl; exact rfl) | ((with_reducible apply v_len_row 3); exact rfl; exact rfl; exact rfl))) | ((with_reducible apply g_nw); exact rfl; exact rfl; exact rfl; intro b) | ((with_reducible apply g_bs); exact rfl; exact rfl; exact rfl; intro b) | ((with_reducible apply g_st); exact rfl; exact rfl; (repeat first | with_reducible exact ones_nil | ((with_reducible apply ones_cons); (first | exact rfl | assumption))); (repeat first | with_reducible apply upb_hd | with_reducible apply upb_tl); exact rfl; (repeat first | with_reducible exact pc_nil | with_reducible apply pc_cons)) | ((with_reducible apply gq_block_other); exact rfl) | ((with_reducible apply g_if); exact rfl; (fail_if_success (with_reducible show NLit true)); (fail_if_success (with_reducible show NLit false)); exact nLit _))
      have hi' : i = (withinT t).length := by omega
      rw [namesF_in hop]
      subst hi'
      simp only [List.take_length]
      exact ret_row 0 rfl rfl rfl
theorem names_spec (t : T) : NamesOK 10 t := T.ind names_step t
end Go.Proofs.Ytcjglalhchhcpaa
