/- tree.Walk: the iterator's contract. No statement of the seat is proved here. -/
import Derived.Test.YtllilkcocfalmaaDoorRng3
import Derived.Test.YtllilkcocfalmaaDoorTree
import Derived.Test.YtllilkcocfalmaaDoorVi
set_option maxRecDepth 20000
namespace Go.Proofs.YtllilkcocfalmaaDoor
open Go.RowKit Go.Vcg
namespace T
/-- the nodes in preorder, each with its depth -/
def preT : T → Nat → List (Nat × T)
  | mk o a n m s ks, d => (d, mk o a n m s ks) :: (ks.attach.map fun ⟨k, _⟩ => preT k (d + 1)).flatten
theorem preT_eq (t : T) (d : Nat) : preT t d = (d, t) :: (t.kids.map fun k => preT k (d + 1)).flatten := by
  cases t with
  | mk o a n m s ks =>
    rw [preT]
    simp [kids]
theorem preT_len : ∀ (n : Nat) (t : T), t.size ≤ n → ∀ d, (preT t d).length = t.size
  | 0, t, h, d => by rw [size_eq] at h; omega
  | n + 1, t, h, d => by
    rw [preT_eq, size_eq, List.length_cons, List.length_flatten, List.map_map, Nat.add_comm]
    congr 2
    refine List.map_congr_left fun k hk => ?_
    obtain ⟨i, hi⟩ := List.mem_iff_getElem?.1 hk
    have := size_kid hi
    exact preT_len n k (by omega) (d + 1)
def dmax (l : List Nat) : Nat := l.foldr max 0
def depth : T → Nat | mk _ _ _ _ _ ks => 1 + dmax (ks.attach.map fun ⟨k, _⟩ => k.depth)
theorem depth_eq (t : T) : t.depth = 1 + dmax (t.kids.map depth) := by
  cases t with
  | mk o a n m s ks => rw [depth]; simp [kids]
theorem dmax_mem {l : List Nat} {x : Nat} (h : x ∈ l) : x ≤ dmax l := by
  induction l with
  | nil => cases h
  | cons y l ih =>
    show x ≤ max y (dmax l)
    rcases List.mem_cons.1 h with rfl | h
    · omega
    · have := ih h
      omega
theorem dmax_le {l : List Nat} {n : Nat} (h : ∀ x ∈ l, x ≤ n) : dmax l ≤ n := by
  induction l with
  | nil => exact Nat.zero_le _
  | cons y l ih =>
    show max y (dmax l) ≤ n
    have h1 := h y (List.mem_cons_self ..)
    have h2 := ih fun x hx => h x (List.mem_cons_of_mem _ hx)
    omega
theorem depth_size : ∀ (n : Nat) (t : T), t.size ≤ n → t.depth ≤ t.size
  | 0, t, h => by rw [size_eq] at h; omega
  | n + 1, t, h => by
    rw [depth_eq]
    have : dmax (t.kids.map depth) ≤ (t.kids.map size).sum := dmax_le fun x hx => by
      obtain ⟨k, hk, rfl⟩ := List.mem_map.1 hx
      obtain ⟨i, hi⟩ := List.mem_iff_getElem?.1 hk
      have h1 := size_kid hi
      have h2 := depth_size n k (by omega)
      have := sum_mem (List.mem_map.2 ⟨k, hk, rfl⟩ : k.size ∈ t.kids.map size)
      omega
    rw [size_eq]
    omega
/-- the greatest depth in a row of nodes, reckoned from 1 -/
def mx (m : Nat) (xs : List (Nat × T)) : Nat := xs.foldl (fun m x => max m (x.1 + 1)) m
theorem mx_flat {d : Nat} : ∀ (ks : List T) (m : Nat), (∀ k ∈ ks, ∀ m, mx m (preT k d) = max m (d + k.depth)) → mx m (ks.map fun k => preT k d).flatten = ks.foldl (fun m k => max m (d + k.depth)) m
  | [], m, _ => rfl
  | k :: r, m, h => by
    have h1 := h k (List.mem_cons_self ..) m
    have h2 := mx_flat r (max m (d + k.depth)) fun k' hk' => h k' (List.mem_cons_of_mem _ hk')
    unfold mx at h1 h2 ⊢
    rw [List.map_cons, List.flatten_cons, List.foldl_append, h1, h2]
    rfl
theorem fold_dmax {d : Nat} : ∀ (ks : List T) (m : Nat), d ≤ m → ks.foldl (fun m k => max m (d + k.depth)) m = max m (d + dmax (ks.map depth))
  | [], m, h => by simp [dmax]; omega
  | k :: r, m, h => by
    have h2 := fold_dmax (d := d) r (max m (d + k.depth)) (by omega)
    rw [List.foldl_cons, h2]
    show _ = max m (d + max k.depth (dmax (r.map depth)))
    omega
theorem mx_pre : ∀ (n : Nat) (t : T), t.size ≤ n → ∀ (d m : Nat), mx m (preT t d) = max m (d + t.depth)
  | 0, t, h, _, _ => by rw [size_eq] at h; omega
  | n + 1, t, h, d, m => by
    rw [preT_eq, depth_eq]
    have h1 := mx_flat (d := d + 1) t.kids (max m (d + 1)) fun k hk m => by
      obtain ⟨i, hi⟩ := List.mem_iff_getElem?.1 hk
      have := size_kid hi
      exact mx_pre n k (by omega) (d + 1) m
    rw [fold_dmax _ _ (by omega)] at h1
    show mx (max m (d + 1)) _ = _
    rw [h1]
    omega
end T
theorem T.len_size (t : T) : t.kids.length < t.size := by
  rw [T.size_eq]
  have : ∀ l : List T, l.length ≤ (l.map T.size).sum := fun l => by
    induction l with
    | nil => simp
    | cons a r ih =>
      have : 1 ≤ a.size := by rw [T.size_eq]; omega
      simp; omega
  have := this t.kids
  omega
abbrev It := Nat × T × Value
def encI (x : It) : List Value := [.int .i64 x.1, .agg (encT x.2.1 x.2.2).toArray]
def OkK (μ : Mem) (x : It) : Prop := KR μ x.2.1.kids x.2.2 ∧ x.1 ≤ 1000000 ∧ x.2.1.size ≤ 100000
def fI (x : It) : Nat × T := (x.1, x.2.1)
/-- the item that comes next in a row of nodes -/
def OkI (μ : Mem) (LF : List (Nat × T)) (pre : List It) (x : It) : Prop := OkK μ x ∧ (pre ++ [x]).map fI <+: LF
attribute [local irreducible] G GC GQ GA GAop GI Calls IntKind.wrap Int.decLt Int.decLe
theorem sum_take : ∀ (l : List Nat) (i : Nat) (h : i < l.length), (l.take i).sum + l[i] ≤ l.sum
  | [], i, h => absurd h (by simp)
  | x :: r, 0, h => by simp
  | x :: r, i + 1, h => by
    have := sum_take r i (by simpa using h)
    simp only [List.take_succ_cons, List.sum_cons, List.getElem_cons_succ]
    omega
theorem pre_len {ks : List T} {d : Nat} {xs : List It} (h : xs.map fI = (ks.map fun k => T.preT k d).flatten) : xs.length = (ks.map T.size).sum := by
  have h1 := congrArg List.length h
  rw [List.length_map, List.length_flatten, List.map_map] at h1
  rw [h1]
  congr 1
  exact List.map_congr_left fun k _ => T.preT_len _ k (Nat.le_refl _) d
theorem pfx {α : Type} {ks : List T} {f : T → List α} {i : Nat} (h : i < ks.length) {q : List α} (hq : q <+: f ks[i]) : ((ks.take i).map f).flatten ++ q <+: (ks.map f).flatten := by
  obtain ⟨r, hr⟩ := hq
  have h1 : ks.take i ++ ks[i] :: ks.drop (i + 1) = ks := by rw [List.getElem_cons_drop, List.take_append_drop]
  have h2 := congrArg (fun l => (l.map f).flatten) h1
  simp only [List.map_append, List.map_cons, List.flatten_append, List.flatten_cons] at h2
  refine ⟨r ++ ((ks.drop (i + 1)).map f).flatten, ?_⟩
  rw [← h2, ← hr]
  simp only [List.append_assoc]
theorem mcells_box {b t n : Nat} {cs : List Value} {μ : Mem} (h : Bk.sh (.inl ⟨b, t, n, idx 0 cs⟩) μ) : MCells μ ⟨b, 0, none⟩ cs :=
  Blk.cells (k := 0) h (fun j v hj => lk_idx_of cs 0 j v hj)
theorem walk_spec {μ : Mem} {LF : List (Nat × T)} {N lr : Nat} {J Jx : List It → World → Prop} (hJ : JAb J) (hJx : JAb Jx) (hY : YHyp Tryd.prog lr encI (OkI μ LF) μ N J Jx) : ∀ (n : Nat), n ≤ 100000 → ∀ (t : T) (u : Value) (d : Nat) (pre : List It) (w : World), t.size ≤ n → d + n ≤ 1000000 → MOk μ w → KR μ t.kids u → J pre w → pre.length + t.size ≤ N → pre.map fI ++ T.preT t d <+: LF →
    Calls Tryd.prog 23 #[.agg (encT t u).toArray, .int .i64 d, .func (.yield lr) #[] #[]] w fun e w' =>
      (e = .returned (.bool true) ∧ MOk μ w' ∧ ∃ xs, xs.map fI = T.preT t d ∧ (∀ x ∈ xs, OkK μ x) ∧ J (pre ++ xs) w') ∨ (e = .returned (.bool false) ∧ ∃ q, q.map fI <+: T.preT t d ∧ (∀ x ∈ q, OkK μ x) ∧ Jx (pre ++ q) w') := by
  intro n
  induction n with
  | zero => intro _ t u d pre w hn; rw [T.size_eq] at hn; omega
  | succ n ih =>
    intro hnb t u d pre w hn hdn hμ hk hJ0 hlen hpf
    obtain ⟨A, c, rfl, hlc, hkid⟩ := hk.form
    have hsz1 := T.size_eq t
    have hkl := T.len_size t
    refine call_intro (args := [.agg (encT t (.slice A t.kids.length c)).toArray, .int .i64 d, .func (.yield lr) #[] #[]]) Tryd.func23 rfl Tryd.ntmps23 (by simp) hμ ?_
    repeat' (first | ((with_reducible show GC _ _ (Code.region 1 _ _) _ _ _ _); (refine gc_region_i ?_)) | (with_reducible (first | apply gc_seq | apply gc_region | apply g_nil | apply gq_then | apply gc_block | apply gc_exit | apply gc_ret | apply gc_skip | apply gq_then_exit | apply gq_then_ret | apply gq_block_same | apply gq_block_normal | apply gq_block_ret)) | ((with_reducible apply g_p); exact rfl) | ((with_reducible apply gc_if); exact rfl) | (with_reducible (first | apply pif_t | apply pif_f | apply pif_not)) | ((with_reducible apply pif_decT); (first | omega | with_reducible assumption | with_reducible rfl)) | ((with_reducible apply pif_decF); (first | omega | with_reducible assumption | with_reducible exact ne_self_f _)) | (((with_reducible apply pif_tt); exact rfl)) | (((with_reducible apply pif_ff); exact rfl)) | (with_reducible (first | refine pif_dec (fun hp => ?_) (fun hp => ?_) | refine pif_b (fun hp => ?_) (fun hp => ?_))) | ((with_reducible apply g_ar); exact rfl; omega) | ((with_reducible apply g_ld); exact rfl; exact rfl; (repeat first | with_reducible exact inb_hd | with_reducible apply inb_tl); exact rfl) | ((with_reducible apply g_v); exact rfl; (first | ((with_reducible apply v_field_n); exact rfl; exact rfl) | ((with_reducible apply v_index_n); exact rfl; exact rfl; exact rfl; exact rfl; omega) | ((with_reducible apply arB_sound); exact rfl; omega) | ((with_reducible apply v_len_row 0); exact rfl; exact rfl; exact rfl) | ((with_reducible apply v_len_row 1); exact rfl; exact rfl; exact rfl) | ((with_reducible apply v_len_row 2); exact rfl; exact rfl; exact rfl) | ((with_reducible apply v_len_row 3); exact rfl; exact rfl; exact rfl))) | ((with_reducible apply g_nw); exact rfl; exact rfl; exact rfl; intro b) | ((with_reducible apply g_st); exact rfl; exact rfl; (repeat first | with_reducible exact ones_nil | ((with_reducible apply ones_cons); (first | exact rfl | assumption))); (repeat first | with_reducible apply upb_hd | with_reducible apply upb_tl); exact rfl; (repeat first | with_reducible exact pc_nil | with_reducible apply pc_cons)) | ((with_reducible apply gq_block_other); exact rfl) | ((with_reducible apply g_if); exact rfl; (fail_if_success (with_reducible show NLit true)); (fail_if_success (with_reducible show NLit false)); exact nLit _))
    refine gi_step wideF_wide (fun _ _ h => by rcases h with ⟨h, _⟩ | ⟨h, _⟩ <;> cases h) rfl ?_
    repeat' (first | ((with_reducible apply g_gi_nil)) | (with_reducible (first | apply gc_seq | apply gc_region | apply g_nil | apply gq_then | apply gc_block | apply gc_exit | apply gc_ret | apply gc_skip | apply gq_then_exit | apply gq_then_ret | apply gq_block_same | apply gq_block_normal | apply gq_block_ret)) | ((with_reducible apply g_p); exact rfl) | ((with_reducible apply gc_if); exact rfl) | (with_reducible (first | apply pif_t | apply pif_f | apply pif_not)) | ((with_reducible apply pif_decT); (first | omega | with_reducible assumption | with_reducible rfl)) | ((with_reducible apply pif_decF); (first | omega | with_reducible assumption | with_reducible exact ne_self_f _)) | (((with_reducible apply pif_tt); exact rfl)) | (((with_reducible apply pif_ff); exact rfl)) | (with_reducible (first | refine pif_dec (fun hp => ?_) (fun hp => ?_) | refine pif_b (fun hp => ?_) (fun hp => ?_))) | ((with_reducible apply g_ar); exact rfl; omega) | ((with_reducible apply g_ld); exact rfl; exact rfl; (repeat first | with_reducible exact inb_hd | with_reducible apply inb_tl); exact rfl) | ((with_reducible apply g_v); exact rfl; (first | ((with_reducible apply v_field_n); exact rfl; exact rfl) | ((with_reducible apply v_index_n); exact rfl; exact rfl; exact rfl; exact rfl; omega) | ((with_reducible apply arB_sound); exact rfl; omega) | ((with_reducible apply v_len_row 0); exact rfl; exact rfl; exact rfl) | ((with_reducible apply v_len_row 1); exact rfl; exact rfl; exact rfl) | ((with_reducible apply v_len_row 2); exact rfl; exact rfl; exact rfl) | ((with_reducible apply v_len_row 3); exact rfl; exact rfl; exact rfl))) | ((with_reducible apply g_nw); exact rfl; exact rfl; exact rfl; intro b) | ((with_reducible apply g_st); exact rfl; exact rfl; (repeat first | with_reducible exact ones_nil | ((with_reducible apply ones_cons); (first | exact rfl | assumption))); (repeat first | with_reducible apply upb_hd | with_reducible apply upb_tl); exact rfl; (repeat first | with_reducible exact pc_nil | with_reducible apply pc_cons)) | ((with_reducible apply gq_block_other); exact rfl) | ((with_reducible apply g_if); exact rfl; (fail_if_success (with_reducible show NLit true)); (fail_if_success (with_reducible show NLit false)); exact nLit _))
    refine gi_step wideF_wide (fun _ _ h => by rcases h with ⟨h, _⟩ | ⟨h, _⟩ <;> cases h) rfl ?_
    repeat' (first | ((with_reducible apply g_gi_nil)) | (with_reducible (first | apply gc_seq | apply gc_region | apply g_nil | apply gq_then | apply gc_block | apply gc_exit | apply gc_ret | apply gc_skip | apply gq_then_exit | apply gq_then_ret | apply gq_block_same | apply gq_block_normal | apply gq_block_ret)) | ((with_reducible apply g_p); exact rfl) | ((with_reducible apply gc_if); exact rfl) | (with_reducible (first | apply pif_t | apply pif_f | apply pif_not)) | ((with_reducible apply pif_decT); (first | omega | with_reducible assumption | with_reducible rfl)) | ((with_reducible apply pif_decF); (first | omega | with_reducible assumption | with_reducible exact ne_self_f _)) | (((with_reducible apply pif_tt); exact rfl)) | (((with_reducible apply pif_ff); exact rfl)) | (with_reducible (first | refine pif_dec (fun hp => ?_) (fun hp => ?_) | refine pif_b (fun hp => ?_) (fun hp => ?_))) | ((with_reducible apply g_ar); exact rfl; omega) | ((with_reducible apply g_ld); exact rfl; exact rfl; (repeat first | with_reducible exact inb_hd | with_reducible apply inb_tl); exact rfl) | ((with_reducible apply g_v); exact rfl; (first | ((with_reducible apply v_field_n); exact rfl; exact rfl) | ((with_reducible apply v_index_n); exact rfl; exact rfl; exact rfl; exact rfl; omega) | ((with_reducible apply arB_sound); exact rfl; omega) | ((with_reducible apply v_len_row 0); exact rfl; exact rfl; exact rfl) | ((with_reducible apply v_len_row 1); exact rfl; exact rfl; exact rfl) | ((with_reducible apply v_len_row 2); exact rfl; exact rfl; exact rfl) | ((with_reducible apply v_len_row 3); exact rfl; exact rfl; exact rfl))) | ((with_reducible apply g_nw); exact rfl; exact rfl; exact rfl; intro b) | ((with_reducible apply g_st); exact rfl; exact rfl; (repeat first | with_reducible exact ones_nil | ((with_reducible apply ones_cons); (first | exact rfl | assumption))); (repeat first | with_reducible apply upb_hd | with_reducible apply upb_tl); exact rfl; (repeat first | with_reducible exact pc_nil | with_reducible apply pc_cons)) | ((with_reducible apply gq_block_other); exact rfl) | ((with_reducible apply g_if); exact rfl; (fail_if_success (with_reducible show NLit true)); (fail_if_success (with_reducible show NLit false)); exact nLit _))
    refine gi_step wideF_wide (fun _ _ h => by rcases h with ⟨h, _⟩ | ⟨h, _⟩ <;> cases h) rfl ?_
    repeat' (first | ((with_reducible apply g_gi_nil)) | (with_reducible (first | apply gc_seq | apply gc_region | apply g_nil | apply gq_then | apply gc_block | apply gc_exit | apply gc_ret | apply gc_skip | apply gq_then_exit | apply gq_then_ret | apply gq_block_same | apply gq_block_normal | apply gq_block_ret)) | ((with_reducible apply g_p); exact rfl) | ((with_reducible apply gc_if); exact rfl) | (with_reducible (first | apply pif_t | apply pif_f | apply pif_not)) | ((with_reducible apply pif_decT); (first | omega | with_reducible assumption | with_reducible rfl)) | ((with_reducible apply pif_decF); (first | omega | with_reducible assumption | with_reducible exact ne_self_f _)) | (((with_reducible apply pif_tt); exact rfl)) | (((with_reducible apply pif_ff); exact rfl)) | (with_reducible (first | refine pif_dec (fun hp => ?_) (fun hp => ?_) | refine pif_b (fun hp => ?_) (fun hp => ?_))) | ((with_reducible apply g_ar); exact rfl; omega) | ((with_reducible apply g_ld); exact rfl; exact rfl; (repeat first | with_reducible exact inb_hd | with_reducible apply inb_tl); exact rfl) | ((with_reducible apply g_v); exact rfl; (first | ((with_reducible apply v_field_n); exact rfl; exact rfl) | ((with_reducible apply v_index_n); exact rfl; exact rfl; exact rfl; exact rfl; omega) | ((with_reducible apply arB_sound); exact rfl; omega) | ((with_reducible apply v_len_row 0); exact rfl; exact rfl; exact rfl) | ((with_reducible apply v_len_row 1); exact rfl; exact rfl; exact rfl) | ((with_reducible apply v_len_row 2); exact rfl; exact rfl; exact rfl) | ((with_reducible apply v_len_row 3); exact rfl; exact rfl; exact rfl))) | ((with_reducible apply g_nw); exact rfl; exact rfl; exact rfl; intro b) | ((with_reducible apply g_st); exact rfl; exact rfl; (repeat first | with_reducible exact ones_nil | ((with_reducible apply ones_cons); (first | exact rfl | assumption))); (repeat first | with_reducible apply upb_hd | with_reducible apply upb_tl); exact rfl; (repeat first | with_reducible exact pc_nil | with_reducible apply pc_cons)) | ((with_reducible apply gq_block_other); exact rfl) | ((with_reducible apply g_if); exact rfl; (fail_if_success (with_reducible show NLit true)); (fail_if_success (with_reducible show NLit false)); exact nLit _))
    refine gi_yieldH hY (d, t, .slice A t.kids.length c) pre ⟨⟨hk, by show d ≤ 1000000; omega, by show t.size ≤ 100000; omega⟩, by
      rw [T.preT_eq] at hpf
      rw [List.map_append]
      exact (List.prefix_append_right_inj _ |>.2 (List.cons_prefix_cons.2 ⟨rfl, List.nil_prefix⟩)).trans hpf⟩ hJ0 (by omega) rfl rfl rfl rfl (fun a w h => run_callYield rfl rfl rfl a w h) ?_ ?_
    · intro w1 μ1 hle1 hsh1 hJ1 hm1
      obtain ⟨hb1, -⟩ := List.forall_mem_cons.1 hsh1
      have hbm := mcells_box hb1
      refine gi_step wideF_wide (fun _ _ h => by rcases h with ⟨h, _⟩ | ⟨h, _⟩ <;> cases h) rfl ?_
      repeat' (first | ((with_reducible apply g_gi_nil)) | (with_reducible (first | apply gc_seq | apply gc_region | apply g_nil | apply gq_then | apply gc_block | apply gc_exit | apply gc_ret | apply gc_skip | apply gq_then_exit | apply gq_then_ret | apply gq_block_same | apply gq_block_normal | apply gq_block_ret)) | ((with_reducible apply g_p); exact rfl) | ((with_reducible apply gc_if); exact rfl) | (with_reducible (first | apply pif_t | apply pif_f | apply pif_not)) | ((with_reducible apply pif_decT); (first | omega | with_reducible assumption | with_reducible rfl)) | ((with_reducible apply pif_decF); (first | omega | with_reducible assumption | with_reducible exact ne_self_f _)) | (((with_reducible apply pif_tt); exact rfl)) | (((with_reducible apply pif_ff); exact rfl)) | (with_reducible (first | refine pif_dec (fun hp => ?_) (fun hp => ?_) | refine pif_b (fun hp => ?_) (fun hp => ?_))) | ((with_reducible apply g_ar); exact rfl; omega) | ((with_reducible apply g_ld); exact rfl; exact rfl; (repeat first | with_reducible exact inb_hd | with_reducible apply inb_tl); exact rfl) | ((with_reducible apply g_v); exact rfl; (first | ((with_reducible apply v_field_n); exact rfl; exact rfl) | ((with_reducible apply v_index_n); exact rfl; exact rfl; exact rfl; exact rfl; omega) | ((with_reducible apply arB_sound); exact rfl; omega) | ((with_reducible apply v_len_row 0); exact rfl; exact rfl; exact rfl) | ((with_reducible apply v_len_row 1); exact rfl; exact rfl; exact rfl) | ((with_reducible apply v_len_row 2); exact rfl; exact rfl; exact rfl) | ((with_reducible apply v_len_row 3); exact rfl; exact rfl; exact rfl))) | ((with_reducible apply g_nw); exact rfl; exact rfl; exact rfl; intro b) | ((with_reducible apply g_st); exact rfl; exact rfl; (repeat first | with_reducible exact ones_nil | ((with_reducible apply ones_cons); (first | exact rfl | assumption))); (repeat first | with_reducible apply upb_hd | with_reducible apply upb_tl); exact rfl; (repeat first | with_reducible exact pc_nil | with_reducible apply pc_cons)) | ((with_reducible apply gq_block_other); exact rfl) | ((with_reducible apply g_if); exact rfl; (fail_if_success (with_reducible show NLit true)); (fail_if_success (with_reducible show NLit false)); exact nLit _))
      refine gi_nil ?_
      repeat' (first | (with_reducible (first | apply gc_seq | apply gc_region | apply g_nil | apply gq_then | apply gc_block | apply gc_exit | apply gc_ret | apply gc_skip | apply gq_then_exit | apply gq_then_ret | apply gq_block_same | apply gq_block_normal | apply gq_block_ret)) | ((with_reducible apply g_p); exact rfl) | ((with_reducible apply gc_if); exact rfl) | (with_reducible (first | apply pif_t | apply pif_f | apply pif_not)) | ((with_reducible apply pif_decT); (first | omega | with_reducible assumption | with_reducible rfl)) | ((with_reducible apply pif_decF); (first | omega | with_reducible assumption | with_reducible exact ne_self_f _)) | (((with_reducible apply pif_tt); exact rfl)) | (((with_reducible apply pif_ff); exact rfl)) | (with_reducible (first | refine pif_dec (fun hp => ?_) (fun hp => ?_) | refine pif_b (fun hp => ?_) (fun hp => ?_))) | ((with_reducible apply g_ar); exact rfl; omega) | ((with_reducible apply g_ld); exact rfl; exact rfl; (repeat first | with_reducible exact inb_hd | with_reducible apply inb_tl); exact rfl) | ((with_reducible apply g_v); exact rfl; (first | ((with_reducible apply v_load_sh); exact rfl; exact rfl; exact hbm 5 _ rfl) | ((with_reducible apply v_field_n); exact rfl; exact rfl) | ((with_reducible apply v_index_n); exact rfl; exact rfl; exact rfl; exact rfl; omega) | ((with_reducible apply arB_sound); exact rfl; omega) | ((with_reducible apply v_len_row 0); exact rfl; exact rfl; exact rfl) | ((with_reducible apply v_len_row 1); exact rfl; exact rfl; exact rfl) | ((with_reducible apply v_len_row 2); exact rfl; exact rfl; exact rfl) | ((with_reducible apply v_len_row 3); exact rfl; exact rfl; exact rfl))) | ((with_reducible apply g_nw); exact rfl; exact rfl; exact rfl; intro b) | ((with_reducible apply g_st); exact rfl; exact rfl; (repeat first | with_reducible exact ones_nil | ((with_reducible apply ones_cons); (first | exact rfl | assumption))); (repeat first | with_reducible apply upb_hd | with_reducible apply upb_tl); exact rfl; (repeat first | with_reducible exact pc_nil | with_reducible apply pc_cons)) | ((with_reducible apply gq_block_other); exact rfl) | ((with_reducible apply g_if); exact rfl; (fail_if_success (with_reducible show NLit true)); (fail_if_success (with_reducible show NLit false)); exact nLit _))
      refine gc_restart hle1 fun w2 hb2 hm2 => ?_
      have hJ2 := hJ _ _ _ hJ1 hb2
      refine gc_loopW (ι := Nat × List It) (fun i w => i.1 ≤ t.kids.length ∧ i.2.map fI = ((t.kids.take i.1).map fun k => T.preT k (d + 1)).flatten ∧ (∀ x ∈ i.2, OkK μ x) ∧ J (pre ++ [(d, t, .slice A t.kids.length c)] ++ i.2) w) (fun i => t.kids.length - i.1) (fun i => [(17, .int .i64 i.1), (15, .slice A t.kids.length c), (16, .int .i64 t.kids.length), (1, .int .i64 d), (2, .func (.yield lr) #[] #[])]) (0, []) ⟨by simp, by simp, by simp, by simpa using hJ2⟩ (by repeat first | exact subS_nil | refine subS_cons rfl ?_) (fun i w w' h hb => ⟨h.1, h.2.1, h.2.2.1, hJ _ _ _ h.2.2.2 hb⟩) ?_
      rintro ⟨i, xs⟩ w3 ⟨hil, hxs, hxk, hJ3⟩ hm3
      dsimp only at hil hxs hxk hJ3 ⊢
      by_cases hlt : i < t.kids.length
      · obtain ⟨ad, x, rfl, hm, ho, hkx⟩ := hkid i _ (List.getElem?_eq_getElem hlt)
        have hsz := T.size_kid (List.getElem?_eq_getElem hlt)
        have e1 : ((d : Int) + 1) = ((d + 1 : Nat) : Int) := by omega
        have hxl := pre_len hxs
        have hst := sum_take (t.kids.map T.size) i (by simpa using hlt)
        rw [List.getElem_map, ← List.map_take] at hst
        have hcall : ∀ w4, MOk μ w4 → Below w3.heap.size w3 w4 → Calls Tryd.prog 23 #[.agg (encT t.kids[i] x).toArray, .int .i64 ((d : Int) + 1), .func (.yield lr) #[] #[]] w4 _ := fun w4 hw4 hb4 => by
          rw [e1]
          exact ih (by omega) t.kids[i] x (d + 1) (pre ++ [(d, t, .slice (some ad) t.kids.length c)] ++ xs) w4 (by omega) (by omega) hw4 hkx (hJ _ _ _ hJ3 hb4) (by simp only [List.length_append, List.length_cons, List.length_nil]; omega) (by
            rw [T.preT_eq] at hpf
            rw [List.map_append, List.map_append, hxs, List.append_assoc, List.append_assoc]
            exact (List.prefix_append_right_inj _ |>.2 (List.cons_prefix_cons.2 ⟨rfl, pfx hlt (List.prefix_refl _)⟩)).trans hpf)
        have htk : t.kids.take (i + 1) = t.kids.take i ++ [t.kids[i]] := List.take_succ_eq_append_getElem hlt
        repeat' (first | (with_reducible (first | apply gc_seq | apply gc_region | apply g_nil | apply gq_then | apply gc_block | apply gc_exit | apply gc_ret | apply gc_skip | apply gq_then_exit | apply gq_then_ret | apply gq_block_same | apply gq_block_normal | apply gq_block_ret)) | ((with_reducible apply g_p); exact rfl) | ((with_reducible apply g_enter_wb); exact rfl; exact rfl; exact rfl; ((with_reducible apply e_call3); kernel_rfl; exact rfl; exact rfl; exact rfl); exact hcall; all_goals (first | (rintro w5 hm5 ⟨xs2, hx1, hx2, hJ5⟩) | (rintro w5 ⟨q, hq1, hq2, hJ5⟩))) | ((with_reducible apply gc_if); exact rfl) | (with_reducible (first | apply pif_t | apply pif_f | apply pif_not)) | ((with_reducible apply pif_decT); (first | omega | with_reducible assumption | with_reducible rfl)) | ((with_reducible apply pif_decF); (first | omega | with_reducible assumption | with_reducible exact ne_self_f _)) | (((with_reducible apply pif_tt); exact rfl)) | (((with_reducible apply pif_ff); exact rfl)) | (with_reducible (first | refine pif_dec (fun hp => ?_) (fun hp => ?_) | refine pif_b (fun hp => ?_) (fun hp => ?_))) | ((with_reducible apply g_ar); exact rfl; omega) | ((with_reducible apply g_ld); exact rfl; exact rfl; (repeat first | with_reducible exact inb_hd | with_reducible apply inb_tl); exact rfl) | ((with_reducible apply g_v); exact rfl; (first | ((with_reducible apply v_index i); exact rfl; exact rfl; exact rfl; exact rfl; (first | exact rfl | omega); omega) | (first | ((with_reducible apply v_load_shs); exact rfl; exact rfl; exact rfl; exact hm; exact rfl) | ((with_reducible apply v_ld_sh); exact rfl; exact rfl; exact rfl; exact hm; exact rfl)) | ((with_reducible apply v_field_n); exact rfl; exact rfl) | ((with_reducible apply v_index_n); exact rfl; exact rfl; exact rfl; exact rfl; omega) | ((with_reducible apply arB_sound); exact rfl; omega) | ((with_reducible apply v_len_row 0); exact rfl; exact rfl; exact rfl) | ((with_reducible apply v_len_row 1); exact rfl; exact rfl; exact rfl) | ((with_reducible apply v_len_row 2); exact rfl; exact rfl; exact rfl) | ((with_reducible apply v_len_row 3); exact rfl; exact rfl; exact rfl))) | ((with_reducible apply g_nw); exact rfl; exact rfl; exact rfl; intro b) | ((with_reducible apply g_st); exact rfl; exact rfl; (repeat first | with_reducible exact ones_nil | ((with_reducible apply ones_cons); (first | exact rfl | assumption))); (repeat first | with_reducible apply upb_hd | with_reducible apply upb_tl); exact rfl; (repeat first | with_reducible exact pc_nil | with_reducible apply pc_cons)) | ((with_reducible apply gq_block_other); exact rfl) | ((with_reducible apply g_if); exact rfl; (fail_if_success (with_reducible show NLit true)); (fail_if_success (with_reducible show NLit false)); exact nLit _))
        · skip
          refine gq_backW (i + 1, xs ++ xs2) (fun w6 hb6 => ⟨by dsimp only; omega, ?_, ?_, ?_⟩) (by dsimp only; omega) (by repeat first | exact subS_nil | refine subS_cons rfl ?_)
          · dsimp only
            rw [htk, List.map_append, List.map_append, hxs, hx1, List.flatten_append]
            simp only [List.map_cons, List.map_nil, List.flatten_cons, List.flatten_nil, List.append_nil]
          · intro y hy
            rcases List.mem_append.1 hy with hy | hy
            · exact hxk y hy
            · exact hx2 y hy
          · have := hJ _ _ _ hJ5 hb6
            simpa [List.append_assoc] using this
        · refine ret_w rfl (rv_tmp rfl) (fun w2 hm2 hb2 => .inr ⟨rfl, [(d, t, .slice (some ad) t.kids.length c)] ++ xs ++ q, ?_, ?_, by have := hJx _ _ _ hJ5 hb2; simpa [List.append_assoc] using this⟩)
          · rw [T.preT_eq, List.map_append, List.map_append, hxs]
            exact List.cons_prefix_cons.2 ⟨rfl, pfx hlt hq1⟩
          · intro y hy
            rcases List.mem_append.1 hy with hy | hy
            · rcases List.mem_append.1 hy with hy | hy
              · rw [List.mem_singleton.1 hy]
                exact ⟨hk, by show d ≤ 1000000; omega, by show t.size ≤ 100000; omega⟩
              · exact hxk y hy
            · exact hq2 y hy
      · have hi : i = t.kids.length := by omega
        subst hi
        repeat' (first | (with_reducible (first | apply gc_seq | apply gc_region | apply g_nil | apply gq_then | apply gc_block | apply gc_exit | apply gc_ret | apply gc_skip | apply gq_then_exit | apply gq_then_ret | apply gq_block_same | apply gq_block_normal | apply gq_block_ret)) | ((with_reducible apply g_p); exact rfl) | ((with_reducible apply gc_if); exact rfl) | (with_reducible (first | apply pif_t | apply pif_f | apply pif_not)) | ((with_reducible apply pif_decT); (first | omega | with_reducible assumption | with_reducible rfl)) | ((with_reducible apply pif_decF); (first | omega | with_reducible assumption | with_reducible exact ne_self_f _)) | (((with_reducible apply pif_tt); exact rfl)) | (((with_reducible apply pif_ff); exact rfl)) | (with_reducible (first | refine pif_dec (fun hp => ?_) (fun hp => ?_) | refine pif_b (fun hp => ?_) (fun hp => ?_))) | ((with_reducible apply g_ar); exact rfl; omega) | ((with_reducible apply g_ld); exact rfl; exact rfl; (repeat first | with_reducible exact inb_hd | with_reducible apply inb_tl); exact rfl) | ((with_reducible apply g_v); exact rfl; (first | ((with_reducible apply v_field_n); exact rfl; exact rfl) | ((with_reducible apply v_index_n); exact rfl; exact rfl; exact rfl; exact rfl; omega) | ((with_reducible apply arB_sound); exact rfl; omega) | ((with_reducible apply v_len_row 0); exact rfl; exact rfl; exact rfl) | ((with_reducible apply v_len_row 1); exact rfl; exact rfl; exact rfl) | ((with_reducible apply v_len_row 2); exact rfl; exact rfl; exact rfl) | ((with_reducible apply v_len_row 3); exact rfl; exact rfl; exact rfl))) | ((with_reducible apply g_nw); exact rfl; exact rfl; exact rfl; intro b) | ((with_reducible apply g_st); exact rfl; exact rfl; (repeat first | with_reducible exact ones_nil | ((with_reducible apply ones_cons); (first | exact rfl | assumption))); (repeat first | with_reducible apply upb_hd | with_reducible apply upb_tl); exact rfl; (repeat first | with_reducible exact pc_nil | with_reducible apply pc_cons)) | ((with_reducible apply gq_block_other); exact rfl) | ((with_reducible apply g_if); exact rfl; (fail_if_success (with_reducible show NLit true)); (fail_if_success (with_reducible show NLit false)); exact nLit _))
        refine ret_w rfl (rv_tmp rfl) (fun w2 hm2 hb2 => .inl ⟨rfl, hm2, (d, t, .slice A t.kids.length c) :: xs, by rw [T.preT_eq, List.map_cons, hxs, List.take_length]; rfl, ?_, by have := hJ _ _ _ hJ3 hb2; simpa [List.append_assoc] using this⟩)
        intro y hy
        rcases List.mem_cons.1 hy with rfl | hy
        · exact ⟨hk, by show d ≤ 1000000; omega, by show t.size ≤ 100000; omega⟩
        · exact hxk y hy
    · intro w1 hJ1
      refine gi_step wideF_wide (fun _ _ h => by rcases h with ⟨h, _⟩ | ⟨h, _⟩ <;> cases h) rfl ?_
      repeat' (first | ((with_reducible apply g_gi_nil)) | (with_reducible (first | apply gc_seq | apply gc_region | apply g_nil | apply gq_then | apply gc_block | apply gc_exit | apply gc_ret | apply gc_skip | apply gq_then_exit | apply gq_then_ret | apply gq_block_same | apply gq_block_normal | apply gq_block_ret)) | ((with_reducible apply g_p); exact rfl) | ((with_reducible apply gc_if); exact rfl) | (with_reducible (first | apply pif_t | apply pif_f | apply pif_not)) | ((with_reducible apply pif_decT); (first | omega | with_reducible assumption | with_reducible rfl)) | ((with_reducible apply pif_decF); (first | omega | with_reducible assumption | with_reducible exact ne_self_f _)) | (((with_reducible apply pif_tt); exact rfl)) | (((with_reducible apply pif_ff); exact rfl)) | (with_reducible (first | refine pif_dec (fun hp => ?_) (fun hp => ?_) | refine pif_b (fun hp => ?_) (fun hp => ?_))) | ((with_reducible apply g_ar); exact rfl; omega) | ((with_reducible apply g_ld); exact rfl; exact rfl; (repeat first | with_reducible exact inb_hd | with_reducible apply inb_tl); exact rfl) | ((with_reducible apply g_v); exact rfl; (first | ((with_reducible apply v_field_n); exact rfl; exact rfl) | ((with_reducible apply v_index_n); exact rfl; exact rfl; exact rfl; exact rfl; omega) | ((with_reducible apply arB_sound); exact rfl; omega) | ((with_reducible apply v_len_row 0); exact rfl; exact rfl; exact rfl) | ((with_reducible apply v_len_row 1); exact rfl; exact rfl; exact rfl) | ((with_reducible apply v_len_row 2); exact rfl; exact rfl; exact rfl) | ((with_reducible apply v_len_row 3); exact rfl; exact rfl; exact rfl))) | ((with_reducible apply g_nw); exact rfl; exact rfl; exact rfl; intro b) | ((with_reducible apply g_st); exact rfl; exact rfl; (repeat first | with_reducible exact ones_nil | ((with_reducible apply ones_cons); (first | exact rfl | assumption))); (repeat first | with_reducible apply upb_hd | with_reducible apply upb_tl); exact rfl; (repeat first | with_reducible exact pc_nil | with_reducible apply pc_cons)) | ((with_reducible apply gq_block_other); exact rfl) | ((with_reducible apply g_if); exact rfl; (fail_if_success (with_reducible show NLit true)); (fail_if_success (with_reducible show NLit false)); exact nLit _))
      refine gi_nil ?_
      repeat' (first | (with_reducible (first | apply gc_seq | apply gc_region | apply g_nil | apply gq_then | apply gc_block | apply gc_exit | apply gc_ret | apply gc_skip | apply gq_then_exit | apply gq_then_ret | apply gq_block_same | apply gq_block_normal | apply gq_block_ret)) | ((with_reducible apply g_p); exact rfl) | ((with_reducible apply gc_if); exact rfl) | (with_reducible (first | apply pif_t | apply pif_f | apply pif_not)) | ((with_reducible apply pif_decT); (first | omega | with_reducible assumption | with_reducible rfl)) | ((with_reducible apply pif_decF); (first | omega | with_reducible assumption | with_reducible exact ne_self_f _)) | (((with_reducible apply pif_tt); exact rfl)) | (((with_reducible apply pif_ff); exact rfl)) | (with_reducible (first | refine pif_dec (fun hp => ?_) (fun hp => ?_) | refine pif_b (fun hp => ?_) (fun hp => ?_))) | ((with_reducible apply g_ar); exact rfl; omega) | ((with_reducible apply g_ld); exact rfl; exact rfl; (repeat first | with_reducible exact inb_hd | with_reducible apply inb_tl); exact rfl) | ((with_reducible apply g_v); exact rfl; (first | ((with_reducible apply v_field_n); exact rfl; exact rfl) | ((with_reducible apply v_index_n); exact rfl; exact rfl; exact rfl; exact rfl; omega) | ((with_reducible apply arB_sound); exact rfl; omega) | ((with_reducible apply v_len_row 0); exact rfl; exact rfl; exact rfl) | ((with_reducible apply v_len_row 1); exact rfl; exact rfl; exact rfl) | ((with_reducible apply v_len_row 2); exact rfl; exact rfl; exact rfl) | ((with_reducible apply v_len_row 3); exact rfl; exact rfl; exact rfl))) | ((with_reducible apply g_nw); exact rfl; exact rfl; exact rfl; intro b) | ((with_reducible apply g_st); exact rfl; exact rfl; (repeat first | with_reducible exact ones_nil | ((with_reducible apply ones_cons); (first | exact rfl | assumption))); (repeat first | with_reducible apply upb_hd | with_reducible apply upb_tl); exact rfl; (repeat first | with_reducible exact pc_nil | with_reducible apply pc_cons)) | ((with_reducible apply gq_block_other); exact rfl) | ((with_reducible apply g_if); exact rfl; (fail_if_success (with_reducible show NLit true)); (fail_if_success (with_reducible show NLit false)); exact nLit _))
      exact ret_w rfl (rv_tmp rfl) (fun w2 hm2 hb2 => .inr ⟨rfl, [(d, t, .slice A t.kids.length c)], by rw [T.preT_eq]; simp [fI], by simp [OkK, hk]; omega, hJx _ _ _ hJ1 hb2⟩)
end Go.Proofs.YtllilkcocfalmaaDoor
