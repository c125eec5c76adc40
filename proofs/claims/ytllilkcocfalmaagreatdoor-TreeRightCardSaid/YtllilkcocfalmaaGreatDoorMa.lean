/- The law's Few: a tree of at most 1501 nodes. tree.Walk: the iterator's contract. tree.Walk, Size and Depth. The reference's Size, Depth and Exact. Closed runs of package tree's Name; what the machine may take as known. Size and Depth as the machine calls them; the law's example of the specification. The law's example of the specification: a closed run. No statement of the seat is proved here. -/
import Derived.Test.YtllilkcocfalmaaGreatDoorPtr
import Derived.Test.YtllilkcocfalmaaGreatDoorTree
import Derived.Test.YtllilkcocfalmaaGreatDoorVi
import Derived.Test.YtllilkcocfalmaaGreatDoorSt
import Derived.Test.YtllilkcocfalmaaGreatDoorRng3
import Derived.Test.YtllilkcocfalmaaGreatDoorVk
import Derived.Test.YtllilkcocfalmaaGreatDoorVs
import Derived.Test.YtllilkcocfalmaaGreatDoorRl
import Derived.KernelRfl
import Derived.Test.YtllilkcocfalmaaGreatDoorRn
import Derived.Test.YtllilkcocfalmaaGreatDoorRead
import Derived.Test.YtllilkcocfalmaaGreatDoorShelf
set_option maxRecDepth 20000
namespace Go.Proofs.YtllilkcocfalmaaGreatDoor
open Go.RowKit Go.Vcg
attribute [local irreducible] G GC GQ GA GAop Calls IntKind.wrap Int.decLt Int.decLe
theorem encTV_len (p : T × Value) : (encTV p).length = 6 := rfl
def sizes (ps : List (T × Value)) : Nat := (ps.map fun p => p.1.size).sum
def Kids (μ : Mem) (ps : List (T × Value)) : Prop := ∀ p ∈ ps, KR μ p.1.kids p.2
theorem Kids.mono {μ μ' : Mem} {ps : List (T × Value)} (h : Kids μ ps) (hle : MLe μ μ') : Kids μ' ps := fun p hp => (h p hp).mono hle
theorem Kids.one {μ : Mem} {ps : List (T × Value)} (h : Kids μ ps) : ∀ u ∈ ps.flatMap encTV, u.oneCell' = true := by
  intro u hu
  obtain ⟨p, hp, hu⟩ := List.mem_flatMap.1 hu
  simp at hu
  rcases hu with rfl | rfl | rfl | rfl | rfl | rfl
  all_goals first | rfl | exact (h p hp).one
theorem KR.of_pairs {μ : Mem} {A : Option Addr} {n c : Nat} {ps : List (T × Value)} (h : Sl encTV 6 μ A n ps) (hc : n ≤ c) (hk : Kids μ ps) : KR μ (ps.map (·.1)) (.slice A n c) := by
  have hn := h.1
  subst hn
  have : KR μ (ps.map (·.1)) (.slice A (ps.map (·.1)).length c) := by
    refine .mk _ A c (fun i => match ps[i]? with | some p => p.2 | none => undef) (by simpa using hc) (fun i t hi => ?_) (fun i t hi => ?_) (fun i t hi => ?_)
    all_goals
      rw [List.getElem?_map] at hi
      cases hp : ps[i]? with
      | none => simp [hp] at hi
      | some p =>
        simp [hp] at hi
        subst hi
        first
          | (obtain ⟨a, e, ha⟩ := h.2 (by have := (List.getElem?_eq_some_iff.1 hp).1; omega); exact ⟨a, e, ha i p hp⟩)
          | exact (hk p (List.mem_of_getElem? hp)).one
          | exact hk p (List.mem_of_getElem? hp)
  simpa using this
theorem sizes_append (a b : List (T × Value)) : sizes (a ++ b) = sizes a + sizes b := by simp [sizes]
theorem size_mk (o a n m : Int) (s : ByteArray) (ps : List (T × Value)) : (T.mk o a n m s (ps.map (·.1))).size = 1 + sizes ps := by
  rw [T.size_eq]
  simp only [T.kids, List.map_map]
  rfl
def In64 (x : Int) : Prop := -9223372036854775808 ≤ x ∧ x ≤ 9223372036854775807
/-- all numbers are ints -/
inductive Ri : T → Prop
  | mk {t : T} (h1 : In64 t.op) (h3 : In64 t.n) (h4 : In64 t.m) (hk : ∀ k ∈ t.kids, Ri k) : Ri t
/-- .. and all strings are at most 200 bytes long -/
inductive Sh : T → Prop
  | mk {t : T} (h : t.s.size ≤ 200) (h1 : In64 t.op) (h3 : In64 t.n) (h4 : In64 t.m) (hk : ∀ k ∈ t.kids, Sh k) : Sh t
theorem Ri.kid {t k : T} (h : Ri t) (hk : k ∈ t.kids) : Ri k := by
  cases h with
  | mk _ _ _ h => exact h k hk
theorem size_cut (s : ByteArray) : (s.extract 0 (min s.size 200)).size ≤ 200 := by
  rw [ByteArray.size_extract]
  omega
theorem sh_mk {t : T} {ps : List (T × Value)} (h : Ri t → ∀ p ∈ ps, Sh p.1) : Ri t → Sh (T.mk t.op t.at' t.n t.m (t.s.extract 0 (min t.s.size 200)) (ps.map (·.1))) := fun hr => by
  have hp := h hr
  cases hr with
  | mk h1 h3 h4 _ =>
    refine .mk (size_cut t.s) h1 h3 h4 fun k hk => ?_
    obtain ⟨p, hpm, rfl⟩ := List.mem_map.1 hk
    exact hp p hpm
def CutPost (t0 : T) (k : Nat) (μ : Mem) (v : Value) (k' : Int) : Prop := ∃ (t : T) (j : Nat), k' = (j : Int) ∧ TV μ t v ∧ t.size + j ≤ k + 1 ∧ (Ri t0 → Sh t)
theorem cut_spec : ∀ (deep : Nat), deep ≤ 260 → ∀ (t : T) (v : Value) (w : World) (μ : Mem) (B k : Nat), MOk μ w → TV μ t v → μ B = none → IntAt B 3 k w → k ≤ 1500 →
    Calls Tryz.prog 19 #[v, .int .i64 deep, .pointer (some ⟨B, 0, none⟩)] w fun e w' => ∃ v μ' k', e = .returned v ∧ GrowB B w w' μ μ' ∧ IntAt B 3 k' w' ∧ CutPost t k μ' v k' := by
  intro deep
  induction deep using Nat.strongRecOn with
  | _ deep ih =>
    intro hd t v w μ B k hμ ht hB hi hk
    obtain ⟨u, rfl, hkr⟩ := ht
    obtain ⟨A, c, rfl, hlc, hkid⟩ := hkr.form
    refine call_introB (args := [.agg (encT t (.slice A t.kids.length c)).toArray, .int .i64 (deep : Int), .pointer (some ⟨B, 0, none⟩)]) Tryz.func19 rfl Tryz.ntmps19 (by simp) hμ hi hB ?_
    repeat' (first | (refine KK ?_) | (refine NB fun b => ?_) | ((refine KB ?_ ?_ <;> intro hp)) | (refine KG ?_) | fail)
    rename_i bn
    refine gc_loop (ι := Nat × Nat × Value × Mem × List (T × Value)) (fun i => i.1 ≤ t.kids.length ∧ i.2.2.2.2.length = i.1 ∧ MLe μ i.2.2.2.1 ∧ Kids i.2.2.2.1 i.2.2.2.2 ∧ sizes i.2.2.2.2 + i.2.1 ≤ k ∧ i.1 + i.2.1 ≤ k ∧ (Ri t → ∀ p ∈ i.2.2.2.2, Sh p.1)) (fun i => t.kids.length - i.1) (fun i => i.2.2.2.1) (fun i => [(8, .int .i64 i.1), (7, i.2.2.1), (6, .pointer (some ⟨b, 0, none⟩)), (3, .pointer (some ⟨bn, 0, none⟩)), (1, .int .i64 deep), (2, .pointer (some ⟨B, 0, none⟩))]) (fun i => [.inr ⟨i.2.2.1, 24, 6, i.1, i.2.2.2.2.flatMap encTV⟩, .inl ⟨b, 24, 6, idx 0 [.int .i64 0, .int .i64 0, .int .i64 0, .int .i64 0, .string ⟨#[]⟩, .slice none 0 0]⟩, .inl ⟨bn, 24, 6, idx 0 (encT t (.slice A t.kids.length c))⟩, .inl ⟨B, 3, 1, [(0, .int .i64 i.2.1)]⟩]) (0, k, .slice none 0 0, μ, []) ⟨by simp, rfl, MLe.refl _, fun p hp => (by cases hp), by simp [sizes], by simp, fun _ p hp => (by cases hp)⟩ (fun a w hs => (hs.nilRow 24 6).sub (by repeat first | exact subS_nil | refine subS_cons rfl ?_) (by repeat first | exact List.Sublist.refl _ | exact List.nil_sublist _ | refine List.Sublist.cons_cons _ ?_ | refine List.Sublist.cons _ ?_)) ?_
    rintro ⟨i, kk, v, μ1, ps⟩ ⟨hil, hpl, hle, hkids, hsz, hik, hsh⟩
    dsimp only at hil hpl hle hkids hsz hik hsh ⊢
    refine gc_rowOk 0 rfl ?_
    rintro A1 c1 rfl hok
    by_cases hlt : i < t.kids.length
    · obtain ⟨ad, x, rfl, hm0, ho, hkx⟩ := hkid i _ (List.getElem?_eq_getElem hlt)
      have hm := hm0.mono hle
      by_cases hpos : 0 < deep
      · have e : ((deep : Int) - 1) = ((deep - 1 : Nat) : Int) := by omega
        repeat' (first | (refine KO ?_) | ((with_reducible apply g_enter_b 3); exact rfl; exact rfl; exact rfl; ((with_reducible apply e_call3); kernel_rfl; exact rfl; exact rfl; exact rfl); exact rfl; exact rfl; (intro w2 hw2 hi2 hB2; (have hc2 := ih (deep - 1) (by omega) (by omega) _ _ w2 _ B (kk - 1) hw2 ⟨x, rfl, hkx.mono hle⟩ hB2 (by (have e2 : ((kk - 1 : Nat) : Int) = (kk : Int) - 1 := by omega); rw [e2]; exact hi2) (by omega)); rw [← e] at hc2; exact hc2); (rintro v2 μ2 k2 hle2 ⟨t2, j, rfl, ⟨u2, rfl, hk2⟩, hsz2, hsh2⟩; (have ho2 := hk2.one); dsimp only [updB])) | (first | ((with_reducible apply g_ap); exact rfl; exact rfl; exact rfl; (repeat first | with_reducible exact rowup_hd | with_reducible apply rowup_tl); (iterate 6 exact rfl); (first | ((with_reducible apply src_in); exact rfl; (repeat first | with_reducible exact inb_hd | with_reducible apply inb_tl); exact rfl)); (first | exact rfl | omega | simp); (first | assumption | (exact ones_mem (by (repeat first | with_reducible exact ones_nil | ((with_reducible apply ones_cons); (first | exact rfl | assumption))))) | simp [Value.oneCell']); omega; omega; intro v) | ((with_reducible apply g_append0); (iterate 9 exact rfl); (first | ((with_reducible apply src_in); exact rfl; (repeat first | with_reducible exact inb_hd | with_reducible apply inb_tl); exact rfl)); (first | exact rfl | omega | simp); (first | assumption | (exact ones_mem (by (repeat first | with_reducible exact ones_nil | ((with_reducible apply ones_cons); (first | exact rfl | assumption))))) | simp [Value.oneCell']); omega; omega; intro v)) | ((with_reducible apply g_v); exact rfl; (first | (exact U1 i) | (exact U4 hm))) | (refine KI ?_) | (refine NB fun b => ?_) | ((refine KB ?_ ?_ <;> intro hp)) | (refine KG ?_) | fail)
        · have hs1 := T.size_eq t2
          refine gq_back (i + 1, j, v, μ2, ps ++ [(t2, u2)]) ⟨by dsimp only; omega, by simp [hpl], hle.trans hle2, ?_, ?_, by dsimp only; omega, fun hr p hp => (List.mem_append.1 hp).elim (fun h => hsh hr p h) (fun h => by rw [List.mem_singleton.1 h]; exact hsh2 (hr.kid (List.getElem_mem hlt)))⟩ (by dsimp only; omega) rfl (by repeat first | exact subS_nil | refine subS_cons rfl ?_) ?_
          · intro p hp
            rcases List.mem_append.1 hp with hp | hp
            · exact (hkids p hp).mono hle2
            · simp at hp; subst hp; exact hk2
          · dsimp only
            have : sizes [(t2, u2)] = t2.size := by simp [sizes]
            rw [sizes_append]
            omega
          · dsimp only
            rw [List.flatMap_append]
            exact (by repeat first | exact List.Sublist.refl _ | exact List.nil_sublist _ | refine List.Sublist.cons_cons _ ?_ | refine List.Sublist.cons _ ?_)
        · repeat' (first | (refine KO ?_) | ((with_reducible apply g_v); exact rfl; (first | ((with_reducible apply v_str_hi (min t.s.size 200)); exact rfl; exact rfl; exact rfl; (focus (split <;> omega)); omega))) | (refine KI ?_) | (refine NB fun b => ?_) | ((refine KB ?_ ?_ <;> intro hp)) | (refine KG ?_) | fail)
          refine ret_b 3 rfl (rv_agg 1 rfl rfl rfl rfl rfl (by repeat first | exact lc_nil | refine lc_cons rfl ?_)) rfl rfl (fun μ' hle' hL => ⟨T.mk t.op t.at' t.n t.m (t.s.extract 0 (min t.s.size 200)) (ps.map (·.1)), kk, rfl, ⟨.slice A1 i c1, rfl, ?_⟩, ?_, sh_mk hsh⟩)
          · exact KR.of_pairs (sl_of_row (enc := encTV) (xs := ps) (hL 0 _ rfl (by decide)) hpl (by simp) rfl) hok.cap (hkids.mono hle')
          · rw [size_mk]
            omega
      · repeat' (first | (refine KO ?_) | ((with_reducible apply g_v); exact rfl; (first | ((with_reducible apply v_str_hi (min t.s.size 200)); exact rfl; exact rfl; exact rfl; (focus (split <;> omega)); omega))) | (refine KI ?_) | (refine NB fun b => ?_) | ((refine KB ?_ ?_ <;> intro hp)) | (refine KG ?_) | fail)
        refine ret_b 3 rfl (rv_agg 1 rfl rfl rfl rfl rfl (by repeat first | exact lc_nil | refine lc_cons rfl ?_)) rfl rfl (fun μ' hle' hL => ⟨T.mk t.op t.at' t.n t.m (t.s.extract 0 (min t.s.size 200)) (ps.map (·.1)), kk, rfl, ⟨.slice A1 i c1, rfl, ?_⟩, ?_, sh_mk hsh⟩)
        · exact KR.of_pairs (sl_of_row (enc := encTV) (xs := ps) (hL 0 _ rfl (by decide)) hpl (by simp) rfl) hok.cap (hkids.mono hle')
        · rw [size_mk]
          omega
    · repeat' (first | (refine KO ?_) | ((with_reducible apply g_v); exact rfl; (first | ((with_reducible apply v_str_hi (min t.s.size 200)); exact rfl; exact rfl; exact rfl; (focus (split <;> omega)); omega))) | (refine KI ?_) | (refine NB fun b => ?_) | ((refine KB ?_ ?_ <;> intro hp)) | (refine KG ?_) | fail)
      refine ret_b 3 rfl (rv_agg 1 rfl rfl rfl rfl rfl (by repeat first | exact lc_nil | refine lc_cons rfl ?_)) rfl rfl (fun μ' hle' hL => ⟨T.mk t.op t.at' t.n t.m (t.s.extract 0 (min t.s.size 200)) (ps.map (·.1)), kk, rfl, ⟨.slice A1 i c1, rfl, ?_⟩, ?_, sh_mk hsh⟩)
      · exact KR.of_pairs (sl_of_row (enc := encTV) (xs := ps) (hL 0 _ rfl (by decide)) hpl (by simp) rfl) hok.cap (hkids.mono hle')
      · rw [size_mk]
        omega
def FewPost (μ : Mem) (v : Value) : Prop := ∃ t : T, TV μ t v ∧ t.size ≤ 1501
def FewPostS (t0 : T) (μ : Mem) (v : Value) : Prop := ∃ t : T, TV μ t v ∧ t.size ≤ 1501 ∧ (Ri t0 → Sh t)
theorem few_specS (t : T) (v : Value) (w : World) (μ : Mem) (hμ : MOk μ w) (ht : TV μ t v) :
    Calls Tryz.prog 6 #[v] w fun e w' => ∃ v μ', e = .returned v ∧ Grow w w' μ μ' ∧ FewPostS t μ' v := by
  obtain ⟨u, rfl, hkr⟩ := ht
  obtain ⟨A, c, rfl, hlc, hkid⟩ := hkr.form
  refine call_intro (args := [.agg (encT t (.slice A t.kids.length c)).toArray]) Tryz.func6 rfl Tryz.ntmps6 (by simp) hμ ?_
  repeat' (first | (refine KO ?_) | ((with_reducible apply g_enter_b 0); exact rfl; exact rfl; exact rfl; ((with_reducible apply e_call3); kernel_rfl; exact rfl; exact rfl; exact rfl); exact rfl; exact rfl; (intro w2 hw2 hi2 hB2; exact cut_spec 260 (by decide) _ _ w2 _ _ 1500 hw2 ⟨_, rfl, hkr⟩ hB2 hi2 (by decide)); (rintro v2 μ2 k2 hle2 ⟨t2, j, rfl, ⟨u2, rfl, hk2⟩, hsz2, hsh2⟩; (have ho2 := hk2.one); dsimp only [updB])) | (refine KI ?_) | (refine NB fun b => ?_) | ((refine KB ?_ ?_ <;> intro hp)) | (refine KG ?_) | fail)
  exact ret_m1 rfl (rv_agg 1 rfl rfl rfl rfl rfl (by repeat first | exact lc_nil | refine lc_cons rfl ?_)) (fun μ' hle' hL => ⟨t2, ⟨u2, rfl, hk2.mono hle'⟩, by omega, hsh2⟩)
theorem few_spec (t : T) (v : Value) (w : World) (μ : Mem) (hμ : MOk μ w) (ht : TV μ t v) :
    Calls Tryz.prog 6 #[v] w fun e w' => ∃ v μ', e = .returned v ∧ Grow w w' μ μ' ∧ FewPost μ' v :=
  (few_specS t v w μ hμ ht).mono fun e w' ⟨v, μ', h1, h2, t', h3, h4, _⟩ => ⟨v, μ', h1, h2, t', h3, h4⟩
end Go.Proofs.YtllilkcocfalmaaGreatDoor
set_option maxRecDepth 20000
namespace Go.Proofs.YtllilkcocfalmaaGreatDoor
open Go.RowKit Go.Vcg
namespace T
/-- the nodes in preorder, each with its depth -/
def preT : T → Nat → List (Nat × T)
  | mk o a n m s ks, d => (d, mk o a n m s ks) :: (ks.attach.map fun ⟨k, _⟩ => preT k (d + 1)).flatten
theorem preT_eq (t : T) (d : Nat) : preT t d = (d, t) :: (t.kids.map fun k => preT k (d + 1)).flatten := by
  cases t with
  | mk o a n m s ks =>
    rw [preT]
    simp [kids]
theorem preT_len : ∀ (n : Nat) (t : T), t.size ≤ n → ∀ d, (preT t d).length = t.size
  | 0, t, h, d => by rw [size_eq] at h; omega
  | n + 1, t, h, d => by
    rw [preT_eq, size_eq, List.length_cons, List.length_flatten, List.map_map, Nat.add_comm]
    congr 2
    refine List.map_congr_left fun k hk => ?_
    obtain ⟨i, hi⟩ := List.mem_iff_getElem?.1 hk
    have := size_kid hi
    exact preT_len n k (by omega) (d + 1)
def dmax (l : List Nat) : Nat := l.foldr max 0
def depth : T → Nat | mk _ _ _ _ _ ks => 1 + dmax (ks.attach.map fun ⟨k, _⟩ => k.depth)
theorem depth_eq (t : T) : t.depth = 1 + dmax (t.kids.map depth) := by
  cases t with
  | mk o a n m s ks => rw [depth]; simp [kids]
theorem dmax_mem {l : List Nat} {x : Nat} (h : x ∈ l) : x ≤ dmax l := by
  induction l with
  | nil => cases h
  | cons y l ih =>
    show x ≤ max y (dmax l)
    rcases List.mem_cons.1 h with rfl | h
    · omega
    · have := ih h
      omega
theorem dmax_le {l : List Nat} {n : Nat} (h : ∀ x ∈ l, x ≤ n) : dmax l ≤ n := by
  induction l with
  | nil => exact Nat.zero_le _
  | cons y l ih =>
    show max y (dmax l) ≤ n
    have h1 := h y (List.mem_cons_self ..)
    have h2 := ih fun x hx => h x (List.mem_cons_of_mem _ hx)
    omega
theorem depth_size : ∀ (n : Nat) (t : T), t.size ≤ n → t.depth ≤ t.size
  | 0, t, h => by rw [size_eq] at h; omega
  | n + 1, t, h => by
    rw [depth_eq]
    have : dmax (t.kids.map depth) ≤ (t.kids.map size).sum := dmax_le fun x hx => by
      obtain ⟨k, hk, rfl⟩ := List.mem_map.1 hx
      obtain ⟨i, hi⟩ := List.mem_iff_getElem?.1 hk
      have h1 := size_kid hi
      have h2 := depth_size n k (by omega)
      have := sum_mem (List.mem_map.2 ⟨k, hk, rfl⟩ : k.size ∈ t.kids.map size)
      omega
    rw [size_eq]
    omega
/-- the greatest depth in a row of nodes, reckoned from 1 -/
def mx (m : Nat) (xs : List (Nat × T)) : Nat := xs.foldl (fun m x => max m (x.1 + 1)) m
theorem mx_flat {d : Nat} : ∀ (ks : List T) (m : Nat), (∀ k ∈ ks, ∀ m, mx m (preT k d) = max m (d + k.depth)) → mx m (ks.map fun k => preT k d).flatten = ks.foldl (fun m k => max m (d + k.depth)) m
  | [], m, _ => rfl
  | k :: r, m, h => by
    have h1 := h k (List.mem_cons_self ..) m
    have h2 := mx_flat r (max m (d + k.depth)) fun k' hk' => h k' (List.mem_cons_of_mem _ hk')
    unfold mx at h1 h2 ⊢
    rw [List.map_cons, List.flatten_cons, List.foldl_append, h1, h2]
    rfl
theorem fold_dmax {d : Nat} : ∀ (ks : List T) (m : Nat), d ≤ m → ks.foldl (fun m k => max m (d + k.depth)) m = max m (d + dmax (ks.map depth))
  | [], m, h => by simp [dmax]; omega
  | k :: r, m, h => by
    have h2 := fold_dmax (d := d) r (max m (d + k.depth)) (by omega)
    rw [List.foldl_cons, h2]
    show _ = max m (d + max k.depth (dmax (r.map depth)))
    omega
theorem mx_pre : ∀ (n : Nat) (t : T), t.size ≤ n → ∀ (d m : Nat), mx m (preT t d) = max m (d + t.depth)
  | 0, t, h, _, _ => by rw [size_eq] at h; omega
  | n + 1, t, h, d, m => by
    rw [preT_eq, depth_eq]
    have h1 := mx_flat (d := d + 1) t.kids (max m (d + 1)) fun k hk m => by
      obtain ⟨i, hi⟩ := List.mem_iff_getElem?.1 hk
      have := size_kid hi
      exact mx_pre n k (by omega) (d + 1) m
    rw [fold_dmax _ _ (by omega)] at h1
    show mx (max m (d + 1)) _ = _
    rw [h1]
    omega
end T
theorem T.len_size (t : T) : t.kids.length < t.size := by
  rw [T.size_eq]
  have : ∀ l : List T, l.length ≤ (l.map T.size).sum := fun l => by
    induction l with
    | nil => simp
    | cons a r ih =>
      have : 1 ≤ a.size := by rw [T.size_eq]; omega
      simp; omega
  have := this t.kids
  omega
abbrev It := Nat × T × Value
def encI (x : It) : List Value := [.int .i64 x.1, .agg (encT x.2.1 x.2.2).toArray]
def OkK (μ : Mem) (x : It) : Prop := KR μ x.2.1.kids x.2.2 ∧ x.1 ≤ 1000000 ∧ x.2.1.size ≤ 100000
def fI (x : It) : Nat × T := (x.1, x.2.1)
/-- the item that comes next in a row of nodes -/
def OkI (μ : Mem) (LF : List (Nat × T)) (pre : List It) (x : It) : Prop := OkK μ x ∧ (pre ++ [x]).map fI <+: LF
attribute [local irreducible] G GC GQ GA GAop GI Calls IntKind.wrap Int.decLt Int.decLe
theorem sum_take : ∀ (l : List Nat) (i : Nat) (h : i < l.length), (l.take i).sum + l[i] ≤ l.sum
  | [], i, h => absurd h (by simp)
  | x :: r, 0, h => by simp
  | x :: r, i + 1, h => by
    have := sum_take r i (by simpa using h)
    simp only [List.take_succ_cons, List.sum_cons, List.getElem_cons_succ]
    omega
theorem pre_len {ks : List T} {d : Nat} {xs : List It} (h : xs.map fI = (ks.map fun k => T.preT k d).flatten) : xs.length = (ks.map T.size).sum := by
  have h1 := congrArg List.length h
  rw [List.length_map, List.length_flatten, List.map_map] at h1
  rw [h1]
  congr 1
  exact List.map_congr_left fun k _ => T.preT_len _ k (Nat.le_refl _) d
theorem pfx {α : Type} {ks : List T} {f : T → List α} {i : Nat} (h : i < ks.length) {q : List α} (hq : q <+: f ks[i]) : ((ks.take i).map f).flatten ++ q <+: (ks.map f).flatten := by
  obtain ⟨r, hr⟩ := hq
  have h1 : ks.take i ++ ks[i] :: ks.drop (i + 1) = ks := by rw [List.getElem_cons_drop, List.take_append_drop]
  have h2 := congrArg (fun l => (l.map f).flatten) h1
  simp only [List.map_append, List.map_cons, List.flatten_append, List.flatten_cons] at h2
  refine ⟨r ++ ((ks.drop (i + 1)).map f).flatten, ?_⟩
  rw [← h2, ← hr]
  simp only [List.append_assoc]
theorem mcells_box {b t n : Nat} {cs : List Value} {μ : Mem} (h : Bk.sh (.inl ⟨b, t, n, idx 0 cs⟩) μ) : MCells μ ⟨b, 0, none⟩ cs :=
  Blk.cells (k := 0) h (fun j v hj => lk_idx_of cs 0 j v hj)
theorem walk_spec {μ : Mem} {LF : List (Nat × T)} {N lr : Nat} {J Jx : List It → World → Prop} (hJ : JAb J) (hJx : JAb Jx) (hY : YHyp Tryz.prog lr encI (OkI μ LF) μ N J Jx) : ∀ (n : Nat), n ≤ 100000 → ∀ (t : T) (u : Value) (d : Nat) (pre : List It) (w : World), t.size ≤ n → d + n ≤ 1000000 → MOk μ w → KR μ t.kids u → J pre w → pre.length + t.size ≤ N → pre.map fI ++ T.preT t d <+: LF →
    Calls Tryz.prog 56 #[.agg (encT t u).toArray, .int .i64 d, .func (.yield lr) #[] #[]] w fun e w' =>
      (e = .returned (.bool true) ∧ MOk μ w' ∧ ∃ xs, xs.map fI = T.preT t d ∧ (∀ x ∈ xs, OkK μ x) ∧ J (pre ++ xs) w') ∨ (e = .returned (.bool false) ∧ ∃ q, q.map fI <+: T.preT t d ∧ (∀ x ∈ q, OkK μ x) ∧ Jx (pre ++ q) w') := by
  intro n
  induction n with
  | zero => intro _ t u d pre w hn; rw [T.size_eq] at hn; omega
  | succ n ih =>
    intro hnb t u d pre w hn hdn hμ hk hJ0 hlen hpf
    obtain ⟨A, c, rfl, hlc, hkid⟩ := hk.form
    have hsz1 := T.size_eq t
    have hkl := T.len_size t
    refine call_intro (args := [.agg (encT t (.slice A t.kids.length c)).toArray, .int .i64 d, .func (.yield lr) #[] #[]]) Tryz.func56 rfl Tryz.ntmps56 (by simp) hμ ?_
    repeat' (first | ((with_reducible show GC _ _ (Code.region 1 _ _) _ _ _ _); (refine gc_region_i ?_)) | (refine KK ?_) | (refine NB fun b => ?_) | ((refine KB ?_ ?_ <;> intro hp)) | (refine KG ?_) | fail)
    refine gi_step wideF_wide (fun _ _ h => by rcases h with ⟨h, _⟩ | ⟨h, _⟩ <;> cases h) rfl ?_
    repeat' (first | ((with_reducible apply g_gi_nil)) | (refine KK ?_) | (refine NB fun b => ?_) | ((refine KB ?_ ?_ <;> intro hp)) | (refine KG ?_) | fail)
    refine gi_step wideF_wide (fun _ _ h => by rcases h with ⟨h, _⟩ | ⟨h, _⟩ <;> cases h) rfl ?_
    repeat' (first | ((with_reducible apply g_gi_nil)) | (refine KK ?_) | (refine NB fun b => ?_) | ((refine KB ?_ ?_ <;> intro hp)) | (refine KG ?_) | fail)
    refine gi_step wideF_wide (fun _ _ h => by rcases h with ⟨h, _⟩ | ⟨h, _⟩ <;> cases h) rfl ?_
    repeat' (first | ((with_reducible apply g_gi_nil)) | (refine KK ?_) | (refine NB fun b => ?_) | ((refine KB ?_ ?_ <;> intro hp)) | (refine KG ?_) | fail)
    refine gi_yieldH hY (d, t, .slice A t.kids.length c) pre ⟨⟨hk, by show d ≤ 1000000; omega, by show t.size ≤ 100000; omega⟩, by
      rw [T.preT_eq] at hpf
      rw [List.map_append]
      exact (List.prefix_append_right_inj _ |>.2 (List.cons_prefix_cons.2 ⟨rfl, List.nil_prefix⟩)).trans hpf⟩ hJ0 (by omega) rfl rfl rfl rfl (fun a w h => run_callYield rfl rfl rfl a w h) ?_ ?_
    · intro w1 μ1 hle1 hsh1 hJ1 hm1
      obtain ⟨hb1, -⟩ := List.forall_mem_cons.1 hsh1
      have hbm := mcells_box hb1
      refine gi_step wideF_wide (fun _ _ h => by rcases h with ⟨h, _⟩ | ⟨h, _⟩ <;> cases h) rfl ?_
      repeat' (first | ((with_reducible apply g_gi_nil)) | (refine KK ?_) | (refine NB fun b => ?_) | ((refine KB ?_ ?_ <;> intro hp)) | (refine KG ?_) | fail)
      refine gi_nil ?_
      repeat' (first | (refine KO ?_) | ((with_reducible apply g_v); exact rfl; (first | ((with_reducible apply v_load_sh); exact rfl; exact rfl; exact hbm 5 _ rfl))) | (refine KI ?_) | (refine NB fun b => ?_) | ((refine KB ?_ ?_ <;> intro hp)) | (refine KG ?_) | fail)
      refine gc_restart hle1 fun w2 hb2 hm2 => ?_
      have hJ2 := hJ _ _ _ hJ1 hb2
      refine gc_loopW (ι := Nat × List It) (fun i w => i.1 ≤ t.kids.length ∧ i.2.map fI = ((t.kids.take i.1).map fun k => T.preT k (d + 1)).flatten ∧ (∀ x ∈ i.2, OkK μ x) ∧ J (pre ++ [(d, t, .slice A t.kids.length c)] ++ i.2) w) (fun i => t.kids.length - i.1) (fun i => [(17, .int .i64 i.1), (15, .slice A t.kids.length c), (16, .int .i64 t.kids.length), (1, .int .i64 d), (2, .func (.yield lr) #[] #[])]) (0, []) ⟨by simp, by simp, by simp, by simpa using hJ2⟩ (by repeat first | exact subS_nil | refine subS_cons rfl ?_) (fun i w w' h hb => ⟨h.1, h.2.1, h.2.2.1, hJ _ _ _ h.2.2.2 hb⟩) ?_
      rintro ⟨i, xs⟩ w3 ⟨hil, hxs, hxk, hJ3⟩ hm3
      dsimp only at hil hxs hxk hJ3 ⊢
      by_cases hlt : i < t.kids.length
      · obtain ⟨ad, x, rfl, hm, ho, hkx⟩ := hkid i _ (List.getElem?_eq_getElem hlt)
        have hsz := T.size_kid (List.getElem?_eq_getElem hlt)
        have e1 : ((d : Int) + 1) = ((d + 1 : Nat) : Int) := by omega
        have hxl := pre_len hxs
        have hst := sum_take (t.kids.map T.size) i (by simpa using hlt)
        rw [List.getElem_map, ← List.map_take] at hst
        have hcall : ∀ w4, MOk μ w4 → Below w3.heap.size w3 w4 → Calls Tryz.prog 56 #[.agg (encT t.kids[i] x).toArray, .int .i64 ((d : Int) + 1), .func (.yield lr) #[] #[]] w4 _ := fun w4 hw4 hb4 => by
          rw [e1]
          exact ih (by omega) t.kids[i] x (d + 1) (pre ++ [(d, t, .slice (some ad) t.kids.length c)] ++ xs) w4 (by omega) (by omega) hw4 hkx (hJ _ _ _ hJ3 hb4) (by simp only [List.length_append, List.length_cons, List.length_nil]; omega) (by
            rw [T.preT_eq] at hpf
            rw [List.map_append, List.map_append, hxs, List.append_assoc, List.append_assoc]
            exact (List.prefix_append_right_inj _ |>.2 (List.cons_prefix_cons.2 ⟨rfl, pfx hlt (List.prefix_refl _)⟩)).trans hpf)
        have htk : t.kids.take (i + 1) = t.kids.take i ++ [t.kids[i]] := List.take_succ_eq_append_getElem hlt
        repeat' (first | (refine KO ?_) | ((with_reducible apply g_enter_wb); exact rfl; exact rfl; exact rfl; ((with_reducible apply e_call3); kernel_rfl; exact rfl; exact rfl; exact rfl); exact hcall; all_goals (first | (rintro w5 hm5 ⟨xs2, hx1, hx2, hJ5⟩) | (rintro w5 ⟨q, hq1, hq2, hJ5⟩))) | ((with_reducible apply g_v); exact rfl; (first | (exact U1 i) | (exact U4 hm))) | (refine KI ?_) | (refine NB fun b => ?_) | ((refine KB ?_ ?_ <;> intro hp)) | (refine KG ?_) | fail)
        · skip
          refine gq_backW (i + 1, xs ++ xs2) (fun w6 hb6 => ⟨by dsimp only; omega, ?_, ?_, ?_⟩) (by dsimp only; omega) (by repeat first | exact subS_nil | refine subS_cons rfl ?_)
          · dsimp only
            rw [htk, List.map_append, List.map_append, hxs, hx1, List.flatten_append]
            simp only [List.map_cons, List.map_nil, List.flatten_cons, List.flatten_nil, List.append_nil]
          · intro y hy
            rcases List.mem_append.1 hy with hy | hy
            · exact hxk y hy
            · exact hx2 y hy
          · have := hJ _ _ _ hJ5 hb6
            simpa [List.append_assoc] using this
        · refine ret_w rfl (rv_tmp rfl) (fun w2 hm2 hb2 => .inr ⟨rfl, [(d, t, .slice (some ad) t.kids.length c)] ++ xs ++ q, ?_, ?_, by have := hJx _ _ _ hJ5 hb2; simpa [List.append_assoc] using this⟩)
          · rw [T.preT_eq, List.map_append, List.map_append, hxs]
            exact List.cons_prefix_cons.2 ⟨rfl, pfx hlt hq1⟩
          · intro y hy
            rcases List.mem_append.1 hy with hy | hy
            · rcases List.mem_append.1 hy with hy | hy
              · rw [List.mem_singleton.1 hy]
                exact ⟨hk, by show d ≤ 1000000; omega, by show t.size ≤ 100000; omega⟩
              · exact hxk y hy
            · exact hq2 y hy
      · have hi : i = t.kids.length := by omega
        subst hi
        repeat' (first | (refine KK ?_) | (refine NB fun b => ?_) | ((refine KB ?_ ?_ <;> intro hp)) | (refine KG ?_) | fail)
        refine ret_w rfl (rv_tmp rfl) (fun w2 hm2 hb2 => .inl ⟨rfl, hm2, (d, t, .slice A t.kids.length c) :: xs, by rw [T.preT_eq, List.map_cons, hxs, List.take_length]; rfl, ?_, by have := hJ _ _ _ hJ3 hb2; simpa [List.append_assoc] using this⟩)
        intro y hy
        rcases List.mem_cons.1 hy with rfl | hy
        · exact ⟨hk, by show d ≤ 1000000; omega, by show t.size ≤ 100000; omega⟩
        · exact hxk y hy
    · intro w1 hJ1
      refine gi_step wideF_wide (fun _ _ h => by rcases h with ⟨h, _⟩ | ⟨h, _⟩ <;> cases h) rfl ?_
      repeat' (first | ((with_reducible apply g_gi_nil)) | (refine KK ?_) | (refine NB fun b => ?_) | ((refine KB ?_ ?_ <;> intro hp)) | (refine KG ?_) | fail)
      refine gi_nil ?_
      repeat' (first | (refine KK ?_) | (refine NB fun b => ?_) | ((refine KB ?_ ?_ <;> intro hp)) | (refine KG ?_) | fail)
      exact ret_w rfl (rv_tmp rfl) (fun w2 hm2 hb2 => .inr ⟨rfl, [(d, t, .slice A t.kids.length c)], by rw [T.preT_eq]; simp [fI], by simp [OkK, hk]; omega, hJx _ _ _ hJ1 hb2⟩)
end Go.Proofs.YtllilkcocfalmaaGreatDoor
set_option maxRecDepth 20000
namespace Go.Proofs.YtllilkcocfalmaaGreatDoor
open Go.RowKit Go.Vcg
attribute [local irreducible] G GC GQ GA GAop GI GCI Calls IntKind.wrap Int.decLt Int.decLe
/-- the iterator that Walk hands back -/
theorem walk_seq {μ : Mem} {t : T} {u : Value} {b : Nat} (hk : KR μ t.kids u) (hs : t.size ≤ 100000) (hb : MCells μ ⟨b, 0, none⟩ (encT t u)) :
    SeqW Tryz.prog 55 [.pointer (some ⟨b, 0, none⟩)] encI (OkI μ (T.preT t 0)) μ t.size (fun xs => xs.map fI = T.preT t 0 ∧ ∀ x ∈ xs, OkK μ x) (fun q => q.map fI <+: T.preT t 0 ∧ ∀ x ∈ q, OkK μ x) := by
  intro lr J Jx W hμ hJ hJx hY h0
  refine call_intro (args := [.func (.yield lr) #[] #[], .pointer (some ⟨b, 0, none⟩)]) Tryz.func55 rfl Tryz.ntmps55 (by simp) hμ ?_
  have hcall : ∀ w4, MOk μ w4 → Below W.heap.size W w4 → Calls Tryz.prog 56 #[.agg (encT t u).toArray, .int .i64 0, .func (.yield lr) #[] #[]] w4 _ := fun w4 hw4 hb4 =>
    walk_spec hJ hJx hY 100000 (Nat.le_refl _) t u 0 [] w4 hs (by omega) hw4 hk (hJ _ _ _ h0 hb4) (by simp) (List.prefix_refl _)
  repeat' (first | (refine KO ?_) | ((with_reducible apply g_enter_wb); exact rfl; exact rfl; exact rfl; ((with_reducible apply e_call3); kernel_rfl; exact rfl; exact rfl; exact rfl); exact hcall; all_goals (first | (rintro w5 hm5 ⟨xs2, hx1, hx2, hJ5⟩) | (rintro w5 ⟨q, hq1, hq2, hJ5⟩))) | ((with_reducible apply g_v); exact rfl; (first | (exact U4 hb))) | (refine KI ?_) | ((refine KB ?_ ?_ <;> intro hp)) | (refine KG ?_) | fail)
  · exact ret_w0 rfl (fun w2 v hm2 hb2 => ⟨⟨v, rfl⟩, .inl ⟨xs2, ⟨hx1, hx2⟩, hJ _ _ _ hJ5 hb2⟩⟩) (.inr rfl)
  · exact ret_w0 rfl (fun w2 v hm2 hb2 => ⟨⟨v, rfl⟩, .inr ⟨q, ⟨hq1, hq2⟩, hJx _ _ _ hJ5 hb2⟩⟩) (.inr rfl)
def WalkPost (t : T) (u : Value) (μ : Mem) (v : Value) : Prop := ∃ b, v = .func (.func 55) #[] #[.pointer (some ⟨b, 0, none⟩)] ∧ MCells μ ⟨b, 0, none⟩ (encT t u)
theorem walkV_spec (t : T) (u : Value) (w : World) (μ : Mem) (hμ : MOk μ w) : Calls Tryz.prog 33 #[.agg (encT t u).toArray] w fun e w' => ∃ v μ', e = .returned v ∧ Grow w w' μ μ' ∧ WalkPost t u μ' v := by
  refine call_intro (args := [.agg (encT t u).toArray]) Tryz.func33 rfl Tryz.ntmps33 (by simp) hμ ?_
  repeat' (first | (refine KK ?_) | (refine NB fun b => ?_) | ((refine KB ?_ ?_ <;> intro hp)) | (refine KG ?_) | fail)
  exact ret_m1 rfl (rv_tmp rfl) (fun μ' hle hL => ⟨_, rfl, mcells_box (hL _ (List.mem_cons_self ..))⟩)
theorem maxM {D : Nat} {n : Nat} (h : n ≤ D) : ∀ b ∈ [D, D], n ≤ b := fun b hb => by
  simp at hb
  omega
theorem size_spec (t : T) (v : Value) (w : World) (μ : Mem) (hμ : MOk μ w) (ht : TV μ t v) (hs : t.size ≤ 100000) :
    Calls Tryz.prog 17 #[v] w fun e w' => e = .returned (.int .i64 t.size) ∧ Below w.heap.size w w' := by
  obtain ⟨u, rfl, hk⟩ := ht
  refine call_introR (args := [.agg (encT t u).toArray]) Tryz.func17 rfl Tryz.ntmps17 (by simp) hμ ?_
  repeat' (first | (refine KO ?_) | ((with_reducible apply F2 33); exact rfl; exact EN; (exact fun w hw => walkV_spec t u w _ hw); rintro v1 μ1 hle1 ⟨b1, rfl, hb1⟩) | (refine KI ?_) | (refine NB fun b => ?_) | ((refine KB ?_ ?_ <;> intro hp)) | (refine KG ?_) | fail)
  refine gc_cells_0 [(0, .int .i64 0)] (by repeat first | exact subS_nil | refine subS_cons rfl ?_) ?_
  refine gc_rangeFunc (α := It) (ι := Nat) (ps := [6, 7]) (lb := [.pointer (some ⟨b1, 0, none⟩)]) rfl (by kernel_rfl) (fun x => rfl) (by simp) (walk_seq (hk.mono hle1) hs hb1) (fun pre i => i = pre.length) (fun _ _ _ => False) (fun i => [.inl ⟨b, 3, 1, [(0, .int .i64 (i : Int))]⟩]) 0 rfl (by repeat first | exact Sel.nil _ | (refine sel_0 ?_ ?_; focus (first | exact BkLe.refl _ | (refine BkLe.cells ?_; repeat first | exact subS_nil | refine subS_cons rfl ?_))) | (refine sel_1 ?_ ?_; focus (first | exact BkLe.refl _ | (refine BkLe.cells ?_; repeat first | exact subS_nil | refine subS_cons rfl ?_))) | (refine sel_2 ?_ ?_; focus (first | exact BkLe.refl _ | (refine BkLe.cells ?_; repeat first | exact subS_nil | refine subS_cons rfl ?_))) | (refine sel_3 ?_ ?_; focus (first | exact BkLe.refl _ | (refine BkLe.cells ?_; repeat first | exact subS_nil | refine subS_cons rfl ?_))) | (refine sel_4 ?_ ?_; focus (first | exact BkLe.refl _ | (refine BkLe.cells ?_; repeat first | exact subS_nil | refine subS_cons rfl ?_))) | (refine sel_5 ?_ ?_; focus (first | exact BkLe.refl _ | (refine BkLe.cells ?_; repeat first | exact subS_nil | refine subS_cons rfl ?_))) | (refine sel_6 ?_ ?_; focus (first | exact BkLe.refl _ | (refine BkLe.cells ?_; repeat first | exact subS_nil | refine subS_cons rfl ?_))) | (refine sel_7 ?_ ?_; focus (first | exact BkLe.refl _ | (refine BkLe.cells ?_; repeat first | exact subS_nil | refine subS_cons rfl ?_))) | (refine sel_8 ?_ ?_; focus (first | exact BkLe.refl _ | (refine BkLe.cells ?_; repeat first | exact subS_nil | refine subS_cons rfl ?_)))) (κ := Unit) (fun _ _ => [(3, .pointer (some ⟨b, 0, none⟩))]) (fun _ i _ => [.inl ⟨b, 3, 1, [(0, .int .i64 (i : Int))]⟩]) ?_ ?_ ?_ ?_
  · intro lr pre x i w1 hok
    exact gci_skip (gq_aq () (by repeat first | exact subS_nil | refine subS_cons rfl ?_) (by repeat first | exact Sel.nil _ | (refine sel_0 ?_ ?_; focus (first | exact BkLe.refl _ | (refine BkLe.cells ?_; repeat first | exact subS_nil | refine subS_cons rfl ?_))) | (refine sel_1 ?_ ?_; focus (first | exact BkLe.refl _ | (refine BkLe.cells ?_; repeat first | exact subS_nil | refine subS_cons rfl ?_))) | (refine sel_2 ?_ ?_; focus (first | exact BkLe.refl _ | (refine BkLe.cells ?_; repeat first | exact subS_nil | refine subS_cons rfl ?_))) | (refine sel_3 ?_ ?_; focus (first | exact BkLe.refl _ | (refine BkLe.cells ?_; repeat first | exact subS_nil | refine subS_cons rfl ?_))) | (refine sel_4 ?_ ?_; focus (first | exact BkLe.refl _ | (refine BkLe.cells ?_; repeat first | exact subS_nil | refine subS_cons rfl ?_))) | (refine sel_5 ?_ ?_; focus (first | exact BkLe.refl _ | (refine BkLe.cells ?_; repeat first | exact subS_nil | refine subS_cons rfl ?_))) | (refine sel_6 ?_ ?_; focus (first | exact BkLe.refl _ | (refine BkLe.cells ?_; repeat first | exact subS_nil | refine subS_cons rfl ?_))) | (refine sel_7 ?_ ?_; focus (first | exact BkLe.refl _ | (refine BkLe.cells ?_; repeat first | exact subS_nil | refine subS_cons rfl ?_))) | (refine sel_8 ?_ ?_; focus (first | exact BkLe.refl _ | (refine BkLe.cells ?_; repeat first | exact subS_nil | refine subS_cons rfl ?_)))))
  · rintro lr pre x i _ w2 hok rfl hlt
    repeat' (first | ((with_reducible (first | apply gci_seq | apply gci_block | apply gci_skip | apply gci_exit | apply gci_ret | apply gqi_then))) | (((with_reducible apply gci_region); exact wideF_round _; (exact fun _ _ h => h); exact rfl)) | (((with_reducible apply gci_if); exact rfl)) | (refine KK ?_) | (refine NB fun b => ?_) | ((refine KB ?_ ?_ <;> intro hp)) | (refine KG ?_) | fail)
    refine gq_cells_0 [(0, .int .i64 ((pre.length : Int) + 1))] (by repeat first | exact subS_nil | refine subS_cons rfl ?_) ?_
    exact gq_bq (pre.length + 1) (by simp) (by (have e : ((pre.length : Int) + 1) = ((pre.length + 1 : Nat) : Int) := by omega); rw [e]; exact (by repeat first | exact List.Sublist.refl _ | exact List.nil_sublist _ | refine List.Sublist.cons_cons _ ?_ | refine List.Sublist.cons _ ?_))
  · rintro D μD xs j hD hle ⟨hxs, hxk⟩ rfl
    have hl : xs.length = t.size := by
      rw [← T.preT_len t.size t (Nat.le_refl _) 0, ← hxs, List.length_map]
    rw [hl]
    repeat' (first | (refine KK ?_) | (refine NB fun b => ?_) | ((refine KB ?_ ?_ <;> intro hp)) | (refine KG ?_) | fail)
    exact ret_R rfl (rv_tmp rfl) rfl (maxM hD)
  · rintro D μD c pre j hD hle hSp hf
    exact hf.elim
def mxI (pre : List It) : Nat := T.mx 0 (pre.map fI)
theorem mxI_snoc (pre : List It) (x : It) : mxI (pre ++ [x]) = max (mxI pre) (x.1 + 1) := by
  unfold mxI T.mx
  rw [List.map_append, List.foldl_append]
  rfl
theorem depth_spec (t : T) (v : Value) (w : World) (μ : Mem) (hμ : MOk μ w) (ht : TV μ t v) (hs : t.size ≤ 100000) :
    Calls Tryz.prog 18 #[v] w fun e w' => e = .returned (.int .i64 t.depth) ∧ Below w.heap.size w w' := by
  obtain ⟨u, rfl, hk⟩ := ht
  refine call_introR (args := [.agg (encT t u).toArray]) Tryz.func18 rfl Tryz.ntmps18 (by simp) hμ ?_
  repeat' (first | (refine KO ?_) | ((with_reducible apply F2 33); exact rfl; exact EN; (exact fun w hw => walkV_spec t u w _ hw); rintro v1 μ1 hle1 ⟨b1, rfl, hb1⟩) | (refine KI ?_) | (refine NB fun b => ?_) | ((refine KB ?_ ?_ <;> intro hp)) | (refine KG ?_) | fail)
  refine gc_cells_0 [(0, .int .i64 0)] (by repeat first | exact subS_nil | refine subS_cons rfl ?_) ?_
  refine gc_rangeFunc (α := It) (ι := Nat) (ps := [7, 8]) (lb := [.pointer (some ⟨b1, 0, none⟩)]) rfl (by kernel_rfl) (fun x => rfl) (by simp) (walk_seq (hk.mono hle1) hs hb1) (fun pre i => i = mxI pre) (fun _ _ _ => False) (fun i => [.inl ⟨b, 3, 1, [(0, .int .i64 (i : Int))]⟩]) 0 rfl (by repeat first | exact Sel.nil _ | (refine sel_0 ?_ ?_; focus (first | exact BkLe.refl _ | (refine BkLe.cells ?_; repeat first | exact subS_nil | refine subS_cons rfl ?_))) | (refine sel_1 ?_ ?_; focus (first | exact BkLe.refl _ | (refine BkLe.cells ?_; repeat first | exact subS_nil | refine subS_cons rfl ?_))) | (refine sel_2 ?_ ?_; focus (first | exact BkLe.refl _ | (refine BkLe.cells ?_; repeat first | exact subS_nil | refine subS_cons rfl ?_))) | (refine sel_3 ?_ ?_; focus (first | exact BkLe.refl _ | (refine BkLe.cells ?_; repeat first | exact subS_nil | refine subS_cons rfl ?_))) | (refine sel_4 ?_ ?_; focus (first | exact BkLe.refl _ | (refine BkLe.cells ?_; repeat first | exact subS_nil | refine subS_cons rfl ?_))) | (refine sel_5 ?_ ?_; focus (first | exact BkLe.refl _ | (refine BkLe.cells ?_; repeat first | exact subS_nil | refine subS_cons rfl ?_))) | (refine sel_6 ?_ ?_; focus (first | exact BkLe.refl _ | (refine BkLe.cells ?_; repeat first | exact subS_nil | refine subS_cons rfl ?_))) | (refine sel_7 ?_ ?_; focus (first | exact BkLe.refl _ | (refine BkLe.cells ?_; repeat first | exact subS_nil | refine subS_cons rfl ?_))) | (refine sel_8 ?_ ?_; focus (first | exact BkLe.refl _ | (refine BkLe.cells ?_; repeat first | exact subS_nil | refine subS_cons rfl ?_)))) (κ := Unit) (fun x _ => [(4, .int .i64 (x.1 : Int)), (3, .pointer (some ⟨b, 0, none⟩))]) (fun _ i _ => [.inl ⟨b, 3, 1, [(0, .int .i64 (i : Int))]⟩]) ?_ ?_ ?_ ?_
  · intro lr pre x i w1 hok
    repeat' (first | ((with_reducible (first | apply gci_seq | apply gci_block | apply gci_skip | apply gci_exit | apply gci_ret | apply gqi_then))) | (((with_reducible apply gci_region); exact wideF_round _; (exact fun _ _ h => h); exact rfl)) | (((with_reducible apply gci_if); exact rfl)) | (refine KK ?_) | (refine NB fun b => ?_) | ((refine KB ?_ ?_ <;> intro hp)) | (refine KG ?_) | fail)
    exact gq_aq () (by repeat first | exact subS_nil | refine subS_cons rfl ?_) (by repeat first | exact Sel.nil _ | (refine sel_0 ?_ ?_; focus (first | exact BkLe.refl _ | (refine BkLe.cells ?_; repeat first | exact subS_nil | refine subS_cons rfl ?_))) | (refine sel_1 ?_ ?_; focus (first | exact BkLe.refl _ | (refine BkLe.cells ?_; repeat first | exact subS_nil | refine subS_cons rfl ?_))) | (refine sel_2 ?_ ?_; focus (first | exact BkLe.refl _ | (refine BkLe.cells ?_; repeat first | exact subS_nil | refine subS_cons rfl ?_))) | (refine sel_3 ?_ ?_; focus (first | exact BkLe.refl _ | (refine BkLe.cells ?_; repeat first | exact subS_nil | refine subS_cons rfl ?_))) | (refine sel_4 ?_ ?_; focus (first | exact BkLe.refl _ | (refine BkLe.cells ?_; repeat first | exact subS_nil | refine subS_cons rfl ?_))) | (refine sel_5 ?_ ?_; focus (first | exact BkLe.refl _ | (refine BkLe.cells ?_; repeat first | exact subS_nil | refine subS_cons rfl ?_))) | (refine sel_6 ?_ ?_; focus (first | exact BkLe.refl _ | (refine BkLe.cells ?_; repeat first | exact subS_nil | refine subS_cons rfl ?_))) | (refine sel_7 ?_ ?_; focus (first | exact BkLe.refl _ | (refine BkLe.cells ?_; repeat first | exact subS_nil | refine subS_cons rfl ?_))) | (refine sel_8 ?_ ?_; focus (first | exact BkLe.refl _ | (refine BkLe.cells ?_; repeat first | exact subS_nil | refine subS_cons rfl ?_))))
  · rintro lr pre x i _ w2 hok rfl hlt
    have hx1 : x.1 ≤ 1000000 := hok.1.2.1
    repeat' (first | ((with_reducible (first | apply gci_seq | apply gci_block | apply gci_skip | apply gci_exit | apply gci_ret | apply gqi_then))) | (((with_reducible apply gci_region); exact wideF_round _; (exact fun _ _ h => h); exact rfl)) | (((with_reducible apply gci_if); exact rfl)) | (refine KK ?_) | (refine NB fun b => ?_) | ((refine KB ?_ ?_ <;> intro hp)) | (refine KG ?_) | fail)
    have e : (if (mxI pre : Int) < (x.1 : Int) + 1 then (x.1 : Int) + 1 else (mxI pre : Int)) = ((mxI (pre ++ [x]) : Nat) : Int) := by rw [mxI_snoc]; split <;> omega
    rw [e]
    refine gq_cells_0 [(0, .int .i64 ((mxI (pre ++ [x]) : Nat) : Int))] (by repeat first | exact subS_nil | refine subS_cons rfl ?_) ?_
    exact gq_bq (mxI (pre ++ [x])) rfl (by repeat first | exact List.Sublist.refl _ | exact List.nil_sublist _ | refine List.Sublist.cons_cons _ ?_ | refine List.Sublist.cons _ ?_)
  · rintro D μD xs j hD hle ⟨hxs, hxk⟩ rfl
    have hl : mxI xs = t.depth := by
      unfold mxI
      rw [hxs, T.mx_pre t.size t (Nat.le_refl _)]
      omega
    rw [hl]
    repeat' (first | (refine KK ?_) | (refine NB fun b => ?_) | ((refine KB ?_ ?_ <;> intro hp)) | (refine KG ?_) | fail)
    exact ret_R rfl (rv_tmp rfl) rfl (maxM hD)
  · rintro D μD c pre j hD hle hSp hf
    exact hf.elim
end Go.Proofs.YtllilkcocfalmaaGreatDoor
set_option maxRecDepth 20000
namespace Go.Proofs.YtllilkcocfalmaaGreatDoor
open Go.RowKit Go.Vcg
attribute [local irreducible] G GC GQ GA GAop Calls IntKind.wrap Int.decLt Int.decLe
theorem sum_snoc (ks : List T) (i : Nat) (h : i < ks.length) : ((ks.take (i + 1)).map T.size).sum = ((ks.take i).map T.size).sum + ks[i].size := by
  rw [List.take_succ_eq_append_getElem h, List.map_append, List.sum_append]
  simp only [List.map_cons, List.map_nil, List.sum_cons, List.sum_nil, Nat.add_zero]
theorem dmax_snoc (l : List Nat) (x : Nat) : T.dmax (l ++ [x]) = max (T.dmax l) x := by
  induction l with
  | nil => simp [T.dmax]
  | cons y l ih =>
    show max y (T.dmax (l ++ [x])) = max (max y (T.dmax l)) x
    rw [ih]
    omega
theorem rDepth_spec : ∀ (n : Nat), n ≤ 100000 → ∀ (t : T) (v : Value) (w : World) (μ : Mem), MOk μ w → t.size ≤ n → TV μ t v →
    Calls Tryz.prog 21 #[v] w fun e w' => e = .returned (.int .i64 t.depth) ∧ Below w.heap.size w w' := by
  intro n
  induction n with
  | zero => intro _ t v w μ hμ hn _; exact absurd hn (by rw [T.size_eq]; omega)
  | succ n ih =>
    intro hnb t v w μ hμ hn ht
    have hlen := T.len_size t
    have hd1 := T.depth_eq t
    have hd2 := T.depth_size _ t hn
    obtain ⟨u, rfl, hk⟩ := ht
    obtain ⟨A, c, rfl, hlc, hkid⟩ := hk.form
    refine call_intro (args := [.agg (encT t (.slice A t.kids.length c)).toArray]) Tryz.func21 rfl Tryz.ntmps21 (by simp) hμ ?_
    repeat' (first | (refine KK ?_) | (refine NB fun b => ?_) | ((refine KB ?_ ?_ <;> intro hp)) | (refine KG ?_) | fail)
    refine gc_loop (ι := Nat) (fun i => i ≤ t.kids.length) (fun i => t.kids.length - i) (fun _ => μ) (fun i => [(3, .int .i64 ((T.dmax ((t.kids.take i).map T.depth) : Nat) : Int)), (4, .int .i64 i), (1, .pointer (some ⟨b, 0, none⟩))]) (fun _ => [.inl ⟨b, 24, 6, idx 0 (encT t (.slice A t.kids.length c))⟩]) 0 (by simp) (fun a w hs => J6 hs) ?_
    intro i hil
    by_cases hlt : i < t.kids.length
    · obtain ⟨ad, x, rfl, hm, ho, hkx⟩ := hkid i _ (List.getElem?_eq_getElem hlt)
      have hsz := T.size_kid (List.getElem?_eq_getElem hlt)
      repeat' (first | (refine KO ?_) | ((with_reducible apply C1); exact rfl; exact EN; exact fun w μc hw hse => ih (by omega) _ _ w μc hw (by omega) ⟨x, rfl, hkx.mono hse.le⟩) | ((with_reducible apply g_v); exact rfl; (first | (exact U1 i) | (exact U4 hm))) | (refine KI ?_) | (refine NB fun b => ?_) | ((refine KB ?_ ?_ <;> intro hp)) | (refine KG ?_) | fail)
      have e : (if ((T.dmax ((t.kids.take i).map T.depth) : Nat) : Int) < (t.kids[i].depth : Int) then (t.kids[i].depth : Int) else ((T.dmax ((t.kids.take i).map T.depth) : Nat) : Int)) = ((T.dmax ((t.kids.take (i + 1)).map T.depth) : Nat) : Int) := by
        rw [List.take_succ_eq_append_getElem hlt, List.map_append, List.map_cons, List.map_nil, dmax_snoc]
        split <;> omega
      rw [e]
      refine J4 (i + 1) (by omega) (by omega)
    · have hi : i = t.kids.length := by omega
      subst hi
      rw [List.take_length]
      repeat' (first | (refine KK ?_) | (refine NB fun b => ?_) | ((refine KB ?_ ?_ <;> intro hp)) | (refine KG ?_) | fail)
      exact ret_v1 rfl (by first | exact rv_tmp rfl | exact (rv_agg 0 rfl rfl rfl rfl rfl (by repeat first | exact lc_nil | refine lc_cons rfl ?_)) | exact (rv_agg 1 rfl rfl rfl rfl rfl (by repeat first | exact lc_nil | refine lc_cons rfl ?_)) | exact (rv_agg 2 rfl rfl rfl rfl rfl (by repeat first | exact lc_nil | refine lc_cons rfl ?_)) | exact (rv_agg 3 rfl rfl rfl rfl rfl (by repeat first | exact lc_nil | refine lc_cons rfl ?_))) (by rw [hd1]; congr 1; omega)
end Go.Proofs.YtllilkcocfalmaaGreatDoor
set_option maxRecDepth 20000
namespace Go.Proofs.YtllilkcocfalmaaGreatDoor
open Go.Rex Go.RowKit Go.Vcg
set_option maxRecDepth 20000

def zz (n : Nat) : List Value := List.replicate n (.int .u8 0)
/-- the library's table of white space -/
def asp : List Value := zz 9 ++ List.replicate 5 (.int .u8 1) ++ zz 18 ++ [.int .u8 1] ++ zz 223
def T1 : List (Nat × List Value) := [(0, asp)]
def noMemo : Memo := fun _ _ => none
theorem noMemo_ok (w : World) : MemoOk Tryz.prog w noMemo := fun _ _ _ e => by cases e
theorem mixed : Tryz.prog.follows .mixedOrders = true := by kernel_rfl
theorem name_30 : runF Tryz.prog 1000 noMemo T1 400 11 [.int .i64 (.ofNat 30)] = some (.string ⟨⟨[78, 117, 109]⟩⟩) := by kernel_rfl
theorem name_34 : runF Tryz.prog 1000 noMemo T1 400 11 [.int .i64 (.ofNat 34)] = some (.string ⟨⟨[78, 97, 109, 101]⟩⟩) := by kernel_rfl
theorem name_44 : runF Tryz.prog 1000 noMemo T1 400 11 [.int .i64 (.ofNat 44)] = some (.string ⟨⟨[66, 105, 110, 97, 114, 121]⟩⟩) := by kernel_rfl
theorem name_64 : runF Tryz.prog 1000 noMemo T1 400 11 [.int .i64 (.ofNat 64)] = some (.string ⟨⟨[82, 101, 115, 116]⟩⟩) := by kernel_rfl
def nameOf (k : Nat) : Option Value := match Nat.beq k 30 with
  | true => some (.string ⟨⟨[78, 117, 109]⟩⟩)
  | false => match Nat.beq k 34 with
  | true => some (.string ⟨⟨[78, 97, 109, 101]⟩⟩)
  | false => match Nat.beq k 44 with
  | true => some (.string ⟨⟨[66, 105, 110, 97, 114, 121]⟩⟩)
  | false => match Nat.beq k 64 with
  | true => some (.string ⟨⟨[82, 101, 115, 116]⟩⟩)
  | false => none
theorem nameOf_ok {k : Nat} {v : Value} (e : nameOf k = some v) : runF Tryz.prog 1000 noMemo T1 400 11 [.int .i64 (.ofNat k)] = some v := by
  unfold nameOf at e
  split at e
  · rename_i h; rw [Nat.eq_of_beq_eq_true h, ← e]; exact name_30
  · skip
    split at e
    · rename_i h; rw [Nat.eq_of_beq_eq_true h, ← e]; exact name_34
    · skip
      split at e
      · rename_i h; rw [Nat.eq_of_beq_eq_true h, ← e]; exact name_44
      · skip
        split at e
        · rename_i h; rw [Nat.eq_of_beq_eq_true h, ← e]; exact name_64
        · skip
          cases e
def memoN : Memo := fun f vs => match Nat.beq f 11 with
  | true => match vs with
    | [.int .i64 (.ofNat k)] => nameOf k
    | _ => none
  | false => none
theorem memoN_ok {w : World} (h : TabsOk 1000 w T1) : MemoOk Tryz.prog w memoN := fun f vs v e => by
  unfold memoN at e
  split at e
  · rename_i hf
    have hf := Nat.eq_of_beq_eq_true hf
    subst hf
    split at e
    · rename_i k
      have h1 := nameOf_ok e
      refine ⟨rfl, ?_, fun w' hk => runF_sound mixed (noMemo_ok w') (by decide) (h.keep hk) h1⟩
      unfold runF at h1
      split at h1
      · split at h1
        · rename_i hfl
          split at h1
          · cases h1; exact hfl
          · cases h1
        · cases h1
      · cases h1
    · cases e
  · cases e
end Go.Proofs.YtllilkcocfalmaaGreatDoor
set_option maxRecDepth 20000
namespace Go.Proofs.YtllilkcocfalmaaGreatDoor
open Go.Rex Go.RowKit Go.Vcg Go.Shelf
set_option maxRecDepth 20000
attribute [local irreducible] capU
/-- a tree in the machine's memory, its size and its depth -/
def rdK (f : List Value → Option (T × Nat × Nat)) (cs : List Value) : Nat → Nat → Option (List T × Nat × Nat)
  | 0, _ => some ([], 0, 0)
  | k + 1, off => match takeD off 6 cs with
    | some xs => match f xs with
      | some (t, s, d) => match rdK f cs k (off + 6) with
        | some (r, s', d') => some (t :: r, s + s', cond (Nat.ble d d') d' d)
        | none => none
      | none => none
    | none => none
def rdT (h : Heap) : Nat → List Value → Option (T × Nat × Nat)
  | 0, _ => none
  | n + 1, vs => match vs with
    | [.int .i64 o, .int .i64 a, .int .i64 nn, .int .i64 m, .string s, .slice p len c] => match p with
      | none => match len with
        | 0 => some (.mk o a nn m s [], 1, 1)
        | _ + 1 => none
      | some ⟨b, off, none⟩ => match hcells h b with
        | some cs => match Nat.ble len c with
          | true => match rdK (rdT h n) cs len off with
            | some (ks, s', d') => some (.mk o a nn m s ks, Nat.succ s', Nat.succ d')
            | none => none
          | false => none
        | none => none
      | some _ => none
    | _ => none
section
variable {P : Program} {N : Nat} {w0 : World} {ρ : Env} {h : Heap} {w : World} {nx : Nat}
theorem rvs_cons_inv {v : Value} {r VS : List Value} (e : rvs ρ (v :: r) = some VS) : ∃ V R, VS = V :: R ∧ rv ρ v = some V ∧ rvs ρ r = some R := by
  unfold rvs at e
  split at e
  · rename_i V R h1 h2
    cases e
    exact ⟨V, R, rfl, h1, h2⟩
  · cases e
theorem rvs_nil_inv {VS : List Value} (e : rvs ρ [] = some VS) : VS = [] := by simp [rvs] at e; exact e
def RdOk (ρ : Env) (w : World) (f : List Value → Option (T × Nat × Nat)) : Prop := ∀ xs t s d XS, f xs = some (t, s, d) → rvs ρ xs = some XS → ∃ u, XS = encT t u ∧ KR (memOf w) t.kids u ∧ s = t.size ∧ d = t.depth
theorem rdK_sound {f : List Value → Option (T × Nat × Nat)} (hf : RdOk ρ w f) {cs CS : List Value} {B : Nat} (hcs : rvs ρ cs = some CS) (hc : ∀ (j : Nat) (V : Value), CS[j]? = some V → w.cell? ⟨B, j, none⟩ = some V) :
    ∀ (k off : Nat) (ks : List T) (s d : Nat), rdK f cs k off = some (ks, s, d) → ks.length = k ∧ s = (ks.map T.size).sum ∧ d = T.dmax (ks.map T.depth) ∧
      ∃ us : Nat → Value, ∀ i t, ks[i]? = some t → MCells (memOf w) ⟨B, off + i * 6, none⟩ (encT t (us i)) ∧ KR (memOf w) t.kids (us i)
  | 0, off, ks, s, d, e => by
    simp only [rdK, Option.some.injEq, Prod.mk.injEq] at e
    obtain ⟨rfl, rfl, rfl⟩ := e
    exact ⟨rfl, rfl, rfl, fun _ => undef, fun i t hi => by simp at hi⟩
  | k + 1, off, ks, s, d, e => by
    unfold rdK at e
    split at e
    · rename_i xs hxs
      split at e
      · rename_i t s1 d1 hf1
        split at e
        · rename_i r s2 d2 hr
          simp only [Option.some.injEq, Prod.mk.injEq] at e
          obtain ⟨rfl, rfl, rfl⟩ := e
          obtain ⟨XS, h1, h2, h3⟩ := rvs_takeD hcs hxs
          obtain ⟨u, rfl, hk, rfl, rfl⟩ := hf _ _ _ _ _ hf1 h1
          obtain ⟨g1, g2, g3, us, g4⟩ := rdK_sound hf hcs hc k (off + 6) r s2 d2 hr
          refine ⟨by simp [g1], by simp [g2], ?_, fun i => match i with | 0 => u | i + 1 => us i, fun i t' hi => ?_⟩
          · show _ = max t.depth (T.dmax (r.map T.depth))
            rw [g3]
            cases hb : Nat.ble t.depth (T.dmax (r.map T.depth)) with
            | true =>
              have := ble_t hb
              simp only [cond_true]
              omega
            | false =>
              have : ¬ t.depth ≤ T.dmax (r.map T.depth) := fun hle => by
                rw [Nat.ble_eq_true_of_le hle] at hb
                cases hb
              simp only [cond_false]
              omega
          · cases i with
            | zero =>
              simp at hi
              subst hi
              refine ⟨fun j v hj => ?_, hk⟩
              have := MCell.of_cell (hc _ _ (h3 j v hj))
              rw [show off + 0 * 6 = off by omega, add_lit]
              exact this
            | succ i =>
              have h5 := g4 i t' (by simpa using hi)
              rw [show off + (i + 1) * 6 = off + 6 + i * 6 by omega]
              exact h5
        · cases e
      · cases e
    · cases e
theorem rdT_sound (r : HeapOk ρ h w) : ∀ n, RdOk ρ w (rdT h n)
  | 0 => fun xs t s d XS e => by cases e
  | n + 1 => fun xs t s d XS e hx => by
    unfold rdT at e
    split at e
    · rename_i o a nn m ss p len c
      obtain ⟨V0, R0, rfl, q0, hy1⟩ := rvs_cons_inv hx
      obtain ⟨V1, R1, rfl, q1, hy2⟩ := rvs_cons_inv hy1
      obtain ⟨V2, R2, rfl, q2, hy3⟩ := rvs_cons_inv hy2
      obtain ⟨V3, R3, rfl, q3, hy4⟩ := rvs_cons_inv hy3
      obtain ⟨V4, R4, rfl, q4, hy5⟩ := rvs_cons_inv hy4
      obtain ⟨V5, R5, rfl, q5, hy6⟩ := rvs_cons_inv hy5
      have := rvs_nil_inv hy6
      subst this
      have e0 := rv_nil q0 rfl
      have e1 := rv_nil q1 rfl
      have e2 := rv_nil q2 rfl
      have e3 := rv_nil q3 rfl
      have e4 := rv_nil q4 rfl
      subst e0 e1 e2 e3 e4
      split at e
      · split at e
        · have e5 := rv_nil q5 rfl
          subst e5
          simp only [Option.some.injEq, Prod.mk.injEq] at e
          obtain ⟨rfl, rfl, rfl⟩ := e
          exact ⟨_, rfl, KR.nil _ _ _, by rw [T.size_eq]; rfl, by rw [T.depth_eq]; rfl⟩
        · cases e
      · rename_i b off
        split at e
        · rename_i cs hcs
          split at e
          · rename_i hlc
            have hlc := ble_t hlc
            split at e
            · rename_i ks s' d' hk
              simp only [Option.some.injEq, Prod.mk.injEq] at e
              obtain ⟨rfl, rfl, rfl⟩ := e
              obtain ⟨B, C, CS, k1, k2, k3⟩ := hcells_sound r hcs
              obtain ⟨B', C', O', p1, p2⟩ := rv_slice q5
              rw [k1] at p1
              cases p1
              obtain ⟨g1, g2, g3, us, g4⟩ := rdK_sound (rdT_sound r n) k2 k3 len off ks s' d' hk
              obtain ⟨c', rfl, hc'⟩ : ∃ c', V5 = .slice (some ⟨B, off, none⟩) len c' ∧ len ≤ c' := by
                rcases p2 with ⟨_, rfl⟩ | ⟨_, h3, rfl⟩
                · exact ⟨c, by rw [Nat.zero_add], hlc⟩
                · exact ⟨_, by rw [Nat.zero_add], by omega⟩
              refine ⟨_, rfl, ?_, by rw [T.size_eq, g2]; simp only [T.kids]; omega, by rw [T.depth_eq, g3]; simp only [T.kids]; omega⟩
              subst g1
              exact .mk ks _ c' us hc' (fun i t hi => ⟨_, rfl, by rw [add_lit]; exact (g4 i t hi).1⟩) (fun i t hi => (g4 i t hi).2.one) (fun i t hi => (g4 i t hi).2)
            · cases e
          · cases e
        · cases e
      · cases e
    · cases e
def primT (f : FuncId) (sel : Nat × Nat → Nat) : CallF := fun g vs h nx => match Nat.beq g f with
  | true => match vs with
    | [.agg ⟨xs⟩] => match rdT h 300 xs with
      | some (_, s, d) => match Nat.ble s 100000 with
        | true => some (.int .i64 (.ofNat (sel (s, d))), h, nx)
        | false => none
      | none => none
    | _ => none
  | false => none
theorem primT_ok {f : FuncId} {sel : Nat × Nat → Nat} (hc : ∀ (t : T) (v : Value) (w : World) (μ : Go.Vcg.Mem), MOk μ w → TV μ t v → t.size ≤ 100000 → Calls P f #[v] w fun e w' => e = .returned (.int .i64 ((sel (t.size, t.depth) : Nat) : Int)) ∧ Below w.heap.size w w') : CallOk P w0 N (primT f sel) := by
  intro ρ h nx g vs VS w v h2 nx2 e r hg hvs R' hR
  unfold primT at e
  split at e
  · rename_i hgf
    have hgf := Nat.eq_of_beq_eq_true hgf
    subst hgf
    split at e
    · rename_i xs
      split at e
      · rename_i t s d hrd
        split at e
        · rename_i hs
          have hs := ble_t hs
          cases e
          obtain ⟨V, R0, rfl, q0, q1⟩ := rvs_cons_inv hvs
          have := rvs_nil_inv q1
          subst this
          obtain ⟨XS, q2, rfl⟩ := rv_agg q0
          obtain ⟨u, rfl, hk, rfl, rfl⟩ := rdT_sound r.ok 300 _ _ _ _ _ hrd q2
          refine (hc t (.agg ⟨encT t u⟩) w (memOf w) (memOf_ok w) ⟨u, rfl, hk⟩ hs).mono fun e w' he => ?_
          obtain ⟨rfl, hb⟩ := he
          exact hR ρ _ w' (Ev.refl _ _ _) (rv_flat2 rfl) (r.after ⟨hb.os, hb.tape, hb.output, hb.size, fun b hb' _ => hb.block b hb'⟩)
        · cases e
      · cases e
    · cases e
  · cases e
end
theorem bExtra156 : Builder.Extra Tryz.prog Tryz.lays156_ren := {
  sizeBuilder := by kernel_rfl
  liesBuilder := by kernel_rfl
  t5 := by kernel_rfl
  a5 := Go.Vcg.run_isAgg (by kernel_rfl)
  z5 := Go.Vcg.run_sizeOf (by kernel_rfl)
  v5 := Go.Vcg.run_zeroValue (by kernel_rfl)
  infoByte := by kernel_rfl
  cellsByte := by kernel_rfl
  sizeByte := by kernel_rfl
  neB5 := by decide }
theorem lays240T : Lays.n240 Tryz.prog Tryz.lays156_ren := { Tryz.lays156 with }
def prA : CallF := orCall (memoC memoN) (orCall (primT 17 Prod.fst) (orCall (primT 18 Prod.snd) (orCall (primCC 82 56) (primJoin 25))))
theorem prA_ok {w : World} (h : TabsOk 1000 w T1) : CallOk Tryz.prog w 1000 prA :=
  orCall_ok (memoC_ok (memoN_ok h)) (orCall_ok (primT_ok size_spec) (orCall_ok (primT_ok depth_spec) (orCall_ok
    (primCC_ok (fun b w h0 h1 h2 => Any.Builder_copyCheck_fresh lays240T bExtra156.toX72 b w h0 h1 h2) (fun b w h0 => Any.Builder_copyCheck_used lays240T bExtra156.toX72 b w h0))
    (primJoin_ok fun bk o c xs sep w h1 h2 h3 h4 h5 => Any.strings_Join Tryz.lays156 bExtra156 bk o c xs sep w h1 h2 h3 h4 h5))))
end Go.Proofs.YtllilkcocfalmaaGreatDoor
set_option maxRecDepth 20000
namespace Go.Proofs.YtllilkcocfalmaaGreatDoor
open Go.Rex Go.RowKit Go.Vcg
set_option maxRecDepth 20000
theorem noQ : ∀ f ∈ ([] : List FuncId), QuietF Tryz.prog f := fun f hf => by cases hf
theorem awake_run : runP Tryz.prog 1000 [] prA T1 400 5 [] = some (.bool true) := by kernel_rfl
theorem awake_spec {w : World} (h : TabsOk 1000 w T1) : Calls Tryz.prog 5 #[] w fun e w' => e = .returned (.bool true) ∧ Below w.heap.size w w' :=
  runP_sound mixed noQ (prA_ok h) (by decide) h awake_run
end Go.Proofs.YtllilkcocfalmaaGreatDoor
