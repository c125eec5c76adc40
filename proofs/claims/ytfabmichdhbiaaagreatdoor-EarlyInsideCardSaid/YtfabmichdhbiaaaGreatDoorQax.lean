/- The laws of package early: their items, few, and the reference's Build with what holds of every node. (and what leans on it). No statement of the seat is proved here. -/
import Derived.Test.YtfabmichdhbiaaaGreatDoorQaw
import Derived.Test.YtfabmichdhbiaaaGreatDoorQac
import Derived.Test.YtfabmichdhbiaaaGreatDoorQae
import Derived.Test.YtfabmichdhbiaaaGreatDoorQal
set_option maxRecDepth 20000
set_option maxHeartbeats 2000000
namespace Go.Proofs.YtfabmichdhbiaaaGreatDoor
open Go.RowKit Go.Vcg
structure Ite where
  op : Int
  at' : Int
  n : Int
  m : Int
  s : ByteArray
  k : Int
abbrev encIte (x : Ite) : List Value := [.int .i64 x.op, .int .i64 x.at', .int .i64 x.n, .int .i64 x.m, .string x.s, .int .i64 x.k]
inductive AllI (q : Ite → Prop) : T → Prop
  | node {op at' n m : Int} {s : ByteArray} {kids : List T} (h : ∃ k, q ⟨op, at', n, m, s, k⟩) (hk : ∀ t ∈ kids, AllI q t) : AllI q (.mk op at' n m s kids)
theorem size_mkE (o a n m : Int) (s : ByteArray) (ps : List (T × Value)) (v : Value) : sizes [(T.mk o a n m s (ps.map (·.1)), v)] = 1 + sizes ps := by
  have h := T.size_eq (T.mk o a n m s (ps.map (·.1)))
  simp only [sizes, List.map_cons, List.map_nil, List.sum_cons, List.sum_nil, h, T.kids, List.map_map]
  rfl
def sumI (ts : List Ite) : Nat := (ts.map fun y => y.s.size).sum
theorem sumI_take {ts : List Ite} {k : Nat} {y : Ite} (h : ts[k]? = some y) : sumI (ts.take (k + 1)) = sumI (ts.take k) + y.s.size := by
  unfold sumI
  rw [List.take_add_one, h, List.map_append, List.sum_append]
  simp
theorem sumI_le (ts : List Ite) (k : Nat) : sumI (ts.take k) ≤ sumI ts := by
  conv => rhs; rw [← List.take_append_drop k ts]
  unfold sumI
  rw [List.map_append, List.sum_append]
  omega
def fewE (n : Nat) (ts : List Ite) : Bool := decide (n ≤ 400) && decide (sumI ts ≤ 4000)
attribute [local irreducible] G GC GQ GA GAop Calls IntKind.wrap Int.decLt Int.decLe
theorem efew_spec (w : World) (μ : Mem) (hμ : MOk μ w) (A : Option Addr) (n c : Nat) (ts : List Ite) (hc : Sl encIte 6 μ A n ts) (hmax : n ≤ 9223372036854775807) (hsz : ∀ y ∈ ts, y.s.size ≤ 140737488355328) :
    Calls Tryz.prog 5 #[.slice A n c] w fun e w' => e = .returned (.bool (fewE n ts)) ∧ Below w.heap.size w w' := by
  have hn := hc.1
  generalize hR : fewE n ts = R
  unfold fewE at hR
  refine call_intro (args := [.slice A n c]) Tryz.func5 rfl Tryz.ntmps5 (by simp) hμ ?_
  repeat' (first | refine KK ?_ | ((refine KB ?_ ?_ <;> intro hp)) | refine KG ?_ | fail)
  refine gc_loop (ι := Nat) (fun i => i ≤ n ∧ i ≤ 401 ∧ sumI (ts.take i) ≤ 4000) (fun i => n - i) (fun _ => μ) (fun i => [(4, .int .i64 (i : Int)), (3, .int .i64 ((sumI (ts.take i) : Nat) : Int)), (0, .slice A n c)]) (fun _ => []) 0 ⟨by omega, by omega, by simp [sumI]⟩ (fun a w hs => J5 hs) ?_
  rintro k ⟨hk, hk2, hsum⟩
  by_cases hlt : k < n ∧ k < 401
  · obtain ⟨hlt, hlt2⟩ := hlt
    obtain ⟨ad, y, rfl, hy, hm⟩ := hc.get hlt
    have hys := hsz y (List.mem_of_getElem? hy)
    have hst := sumI_take hy
    have hle := sumI_le ts (k + 1)
    by_cases h4 : sumI (ts.take (k + 1)) ≤ 4000
    · repeat' (first | refine KO ?_ | (refine KV (b := by first | exact U1 k | exact U4 hm | ((with_reducible apply v_add_i); exact rfl; exact rfl; omega)) (c := ?_)) | refine KI ?_ | ((refine KB ?_ ?_ <;> intro hp)) | refine KG ?_ | fail)
      all_goals try (exfalso; first | omega | contradiction)
      all_goals exact gq_backS (k + 1) ⟨by omega, by omega, h4⟩ (by omega) rfl (by refine subS_cons rfl (subS_cons ?_ (subS_cons rfl subS_nil)); rw [hst]; rfl) PS
    · have hF : false = R := by rw [← hR, decide_eq_false (show ¬sumI ts ≤ 4000 by omega), Bool.and_false]
      repeat' (first | refine KO ?_ | (refine KV (b := by first | exact U1 k | exact U4 hm | ((with_reducible apply v_add_i); exact rfl; exact rfl; omega)) (c := ?_)) | refine KI ?_ | ((refine KB ?_ ?_ <;> intro hp)) | refine KG ?_ | fail)
      all_goals try (exfalso; first | omega | contradiction)
      all_goals exact ret_s rfl rfl (congrArg _ hF)
  · by_cases hn4 : n ≤ 400
    · have hk3 : k = n := by omega
      have hs9 : sumI ts ≤ 4000 := by rw [List.take_of_length_le (by omega)] at hsum; exact hsum
      have hT : true = R := by rw [← hR, decide_eq_true hn4, decide_eq_true hs9]; rfl
      repeat' (first | refine KK ?_ | ((refine KB ?_ ?_ <;> intro hp)) | refine KG ?_ | fail)
      all_goals try (exfalso; first | omega | contradiction)
      all_goals first | exact ret_s rfl rfl (congrArg _ hT) | (refine ret_s rfl rfl (congrArg _ ?_); rw [← hT]; exact decide_eq_true (by omega))
    · have hF : false = R := by rw [← hR, decide_eq_false hn4, Bool.false_and]
      repeat' (first | refine KK ?_ | ((refine KB ?_ ?_ <;> intro hp)) | refine KG ?_ | fail)
      all_goals try (exfalso; first | omega | contradiction)
      all_goals first | exact ret_s rfl rfl (congrArg _ hF) | (refine ret_s rfl rfl (congrArg _ ?_); rw [← hF]; exact decide_eq_false (by omega))
theorem ebuild_spec (q : Ite → Prop) (hq0 : q ⟨0, 0, 0, 0, ⟨#[]⟩, 0⟩) (w : World) (μ : Mem) (hμ : MOk μ w) (A : Option Addr) (n c : Nat) (ts : List Ite) (hc : Sl encIte 6 μ A n ts) (hn : n ≤ 400) (hq : ∀ y ∈ ts, q y) :
    Calls Tryz.prog 7 #[.slice A n c] w fun e w' => ∃ v μ', e = .returned v ∧ Grow w w' μ μ' ∧ (∃ t, TV μ' t v ∧ t.size ≤ 401 ∧ AllI q t) := by
  refine call_intro Tryz.func7 rfl Tryz.ntmps7 (by simp) hμ ?_
  repeat' (first | refine KK ?_ | refine NB fun b => ?_ | ((refine KB ?_ ?_ <;> intro hp)) | refine KG ?_ | fail)
  refine gc_loop (ι := Nat × List (T × Value) × Mem × Value) (fun i => i.1 ≤ n ∧ MLe μ i.2.2.1 ∧ Kids i.2.2.1 i.2.1 ∧ sizes i.2.1 ≤ i.1 ∧ i.2.1.length ≤ i.1 ∧ ∀ p ∈ i.2.1, AllI q p.1) (fun i => n - i.1) (fun i => i.2.2.1) (fun i => [(4, .int .i64 i.1), (3, i.2.2.2), (2, .pointer (some ⟨b, 0, none⟩)), (0, .slice A n c)]) (fun i => [.inr ⟨i.2.2.2, 27, 6, i.2.1.length, i.2.1.flatMap encTV⟩, .inl ⟨b, 27, 6, _⟩]) (0, [], μ, .slice none 0 0) ⟨by simp, MLe.refl _, fun p hp => (by cases hp), by simp [sizes], by simp, fun p hp => (by cases hp)⟩ (fun a w hs => (hs.nilRow 27 6).sub PU (by repeat first | exact List.Sublist.refl _ | exact List.nil_sublist _ | refine List.Sublist.cons _ ?_)) ?_
  rintro ⟨k, ps, μ1, v⟩ ⟨hk, hle, hkids, hsz, hlen, hall0⟩
  dsimp only at hk hle hkids hsz hlen hall0 ⊢
  refine gc_rowOk 0 rfl ?_
  rintro A1 c1 rfl hok
  by_cases hlt : k < n
  · obtain ⟨ad, y, rfl, hy, hm0⟩ := hc.get hlt
    have hm := hm0.mono hle
    obtain ⟨kk, hkk, hcase⟩ : ∃ kk : Nat, kk ≤ ps.length ∧ ((y.k < 0 ∧ kk = 0) ∨ (y.k = (kk : Int)) ∨ (y.k > ps.length ∧ kk = ps.length)) := by
      by_cases h0 : y.k < 0
      · exact ⟨0, by omega, .inl ⟨h0, rfl⟩⟩
      · by_cases h1 : y.k > ps.length
        · exact ⟨ps.length, by omega, .inr (.inr ⟨h1, rfl⟩)⟩
        · exact ⟨y.k.toNat, by omega, .inr (.inl (by omega))⟩
    have hone := hkids.one
    have hd := flat_drops encTV_len ps (ps.length - kk)
    have hdl := flat_length encTV_len (ps.drop (ps.length - kk))
    have hdk : Kids μ1 (ps.drop (ps.length - kk)) := fun p hp => hkids p (List.mem_of_mem_drop hp)
    have hdo := hdk.one
    rw [List.length_drop] at hdl
    have hdl2 : (List.drop ((ps.length - kk) * 6) (ps.flatMap encTV)).length = (ps.length - (ps.length - kk)) * 6 := by rw [hd]; exact hdl
    have hdo2 : ∀ u ∈ List.drop ((ps.length - kk) * 6) (ps.flatMap encTV), u.oneCell' = true := by rw [hd]; exact hdo
    rcases hcase with hcase | hcase | hcase
    all_goals
      repeat' (first | ((with_reducible apply g_row0 6)) | refine KO ?_ | (first | ((with_reducible apply g_ap); exact rfl; exact rfl; exact rfl; (repeat first | with_reducible exact rowup_hd | with_reducible apply rowup_tl); (iterate 6 exact rfl); (first | ((with_reducible apply src_row_drop 2 (k := ps.length - kk)); exact hok; omega; exact rfl; exact rfl) | ((with_reducible apply src_in); exact rfl; (repeat first | with_reducible exact inb_hd | with_reducible apply inb_tl); exact rfl)); (first | exact rfl | omega | simp); (first | assumption | (exact ones_mem (by (repeat first | with_reducible exact ones_nil | ((with_reducible apply ones_cons); (first | exact rfl | assumption))))) | simp [Value.oneCell']); omega; omega; intro v) | ((with_reducible apply g_append0); (iterate 9 exact rfl); (first | ((with_reducible apply src_row_drop 2 (k := ps.length - kk)); exact hok; omega; exact rfl; exact rfl) | ((with_reducible apply src_in); exact rfl; (repeat first | with_reducible exact inb_hd | with_reducible apply inb_tl); exact rfl)); (first | exact rfl | omega | simp); (first | assumption | (exact ones_mem (by (repeat first | with_reducible exact ones_nil | ((with_reducible apply ones_cons); (first | exact rfl | assumption))))) | simp [Value.oneCell']); omega; omega; intro v)) | (refine KV (b := by first | exact U1 k | exact U4 hm | ((with_reducible apply v_slice_lo (ps.length - kk)); exact rfl; exact rfl; exact rfl; exact rfl; omega; omega)) (c := ?_)) | refine KI ?_ | refine NB fun b => ?_ | ((refine KB ?_ ?_ <;> intro hp)) | refine KG ?_ | fail)
    all_goals simp only [Nat.zero_add, List.nil_append, hd]
    all_goals refine gc_share_0 rfl ?_
    all_goals intro μ2 hle2 hsh2
    all_goals obtain ⟨A2, c2, rfl, hS2⟩ := row_sl (enc := encTV) (xs := ps.drop (ps.length - kk)) hsh2 (by simp) (by simp) rfl
    all_goals have hcap2 := Bk.cap hsh2
    all_goals have hkr := KR.of_pairs hS2 hcap2 (hdk.mono hle2)
    all_goals refine gc_cut 1 (ps.length - kk) rfl hok (by omega) ?_
    all_goals dsimp only [updB]
    all_goals
      refine gc_draw 21 _ (by kernel_rfl) rfl (List.Sublist.cons_cons _ (List.nil_sublist _)) ?_
      all_goals refine DD 0 ?_
      all_goals refine DD 1 ?_
      all_goals (first | refine D1 2 ?_ | (refine DV (k := 2) (b := by first | ((with_reducible apply v_slice_hi (ps.length - kk)); exact rfl; exact rfl; exact rfl; exact rfl; omega; (focus (have := hok.cap; omega; done)))) (c := ?_)) | refine DD 2 ?_ | fail)
      all_goals refine DD 3 ?_
      all_goals (first | refine D1 4 ?_ | (refine DV (k := 4) (b := by first | ((with_reducible apply v_slice_hi (ps.length - kk)); exact rfl; exact rfl; exact rfl; exact rfl; omega; (focus (have := hok.cap; omega; done)))) (c := ?_)) | refine DD 4 ?_ | fail)
      all_goals (first | refine D1 5 ?_ | (refine DV (k := 5) (b := by first | ((with_reducible apply v_slice_hi (ps.length - kk)); exact rfl; exact rfl; exact rfl; exact rfl; omega; (focus (have := hok.cap; omega; done)))) (c := ?_)) | refine DD 5 ?_ | fail)
      all_goals (first | refine D1 6 ?_ | (refine DV (k := 6) (b := by first | ((with_reducible apply v_slice_hi (ps.length - kk)); exact rfl; exact rfl; exact rfl; exact rfl; omega; (focus (have := hok.cap; omega; done)))) (c := ?_)) | refine DD 6 ?_ | fail)
      all_goals (first | refine D1 7 ?_ | (refine DV (k := 7) (b := by first | ((with_reducible apply v_slice_hi (ps.length - kk)); exact rfl; exact rfl; exact rfl; exact rfl; omega; (focus (have := hok.cap; omega; done)))) (c := ?_)) | (refine D3 7 (DW (b := by first | ((with_reducible apply v_slice_hi (ps.length - kk)); exact rfl; exact rfl; exact rfl; exact rfl; omega; (focus (have := hok.cap; omega; done)))) (c := ?_))) | refine DD 7 ?_ | fail)
      all_goals (first | refine D1 8 ?_ | (refine DV (k := 8) (b := by first | ((with_reducible apply v_slice_hi (ps.length - kk)); exact rfl; exact rfl; exact rfl; exact rfl; omega; (focus (have := hok.cap; omega; done)))) (c := ?_)) | refine DD 8 ?_ | fail)
      all_goals (first | refine D1 9 ?_ | (refine DV (k := 9) (b := by first | ((with_reducible apply v_slice_hi (ps.length - kk)); exact rfl; exact rfl; exact rfl; exact rfl; omega; (focus (have := hok.cap; omega; done)))) (c := ?_)) | (refine D3 9 (DW (b := by first | ((with_reducible apply v_slice_hi (ps.length - kk)); exact rfl; exact rfl; exact rfl; exact rfl; omega; (focus (have := hok.cap; omega; done)))) (c := ?_))) | refine DD 9 ?_ | fail)
      all_goals (first | refine D1 10 ?_ | (refine DV (k := 10) (b := by first | ((with_reducible apply v_slice_hi (ps.length - kk)); exact rfl; exact rfl; exact rfl; exact rfl; omega; (focus (have := hok.cap; omega; done)))) (c := ?_)) | refine DD 10 ?_ | fail)
      all_goals (first | refine D1 11 ?_ | (refine DV (k := 11) (b := by first | ((with_reducible apply v_slice_hi (ps.length - kk)); exact rfl; exact rfl; exact rfl; exact rfl; omega; (focus (have := hok.cap; omega; done)))) (c := ?_)) | (refine D3 11 (DW (b := by first | ((with_reducible apply v_slice_hi (ps.length - kk)); exact rfl; exact rfl; exact rfl; exact rfl; omega; (focus (have := hok.cap; omega; done)))) (c := ?_))) | refine DD 11 ?_ | fail)
      all_goals (first | refine D1 12 ?_ | (refine DV (k := 12) (b := by first | ((with_reducible apply v_slice_hi (ps.length - kk)); exact rfl; exact rfl; exact rfl; exact rfl; omega; (focus (have := hok.cap; omega; done)))) (c := ?_)) | refine DD 12 ?_ | fail)
      all_goals (first | refine D1 13 ?_ | (refine DV (k := 13) (b := by first | ((with_reducible apply v_slice_hi (ps.length - kk)); exact rfl; exact rfl; exact rfl; exact rfl; omega; (focus (have := hok.cap; omega; done)))) (c := ?_)) | (refine D3 13 (DW (b := by first | ((with_reducible apply v_slice_hi (ps.length - kk)); exact rfl; exact rfl; exact rfl; exact rfl; omega; (focus (have := hok.cap; omega; done)))) (c := ?_))) | refine DD 13 ?_ | fail)
      all_goals (first | refine D1 14 ?_ | (refine DV (k := 14) (b := by first | ((with_reducible apply v_slice_hi (ps.length - kk)); exact rfl; exact rfl; exact rfl; exact rfl; omega; (focus (have := hok.cap; omega; done)))) (c := ?_)) | refine DD 14 ?_ | fail)
      all_goals (first | refine D1 15 ?_ | (refine DV (k := 15) (b := by first | ((with_reducible apply v_slice_hi (ps.length - kk)); exact rfl; exact rfl; exact rfl; exact rfl; omega; (focus (have := hok.cap; omega; done)))) (c := ?_)) | (refine D3 15 (DW (b := by first | ((with_reducible apply v_slice_hi (ps.length - kk)); exact rfl; exact rfl; exact rfl; exact rfl; omega; (focus (have := hok.cap; omega; done)))) (c := ?_))) | refine DD 15 ?_ | fail)
      all_goals refine DD 16 ?_
      all_goals refine DD 17 ?_
      all_goals (first | (refine D3 18 ?_; refine D5 ?_; refine NB fun b => ?_; refine D9 ?_))
      all_goals (first | (refine D3 19 ?_; refine D5 ?_; (first | ((with_reducible apply g_ap); exact rfl; exact rfl; exact rfl; (repeat first | with_reducible exact rowup_hd | with_reducible apply rowup_tl); (iterate 6 exact rfl); (first | ((with_reducible apply src_in); exact rfl; (repeat first | with_reducible exact inb_hd | with_reducible apply inb_tl); exact rfl)); (first | exact rfl | omega | simp); (first | assumption | (exact ones_mem (by (repeat first | with_reducible exact ones_nil | ((with_reducible apply ones_cons); (first | exact rfl | assumption))))) | simp [Value.oneCell']); omega; omega; intro v) | ((with_reducible apply g_append0); (iterate 9 exact rfl); (first | ((with_reducible apply src_in); exact rfl; (repeat first | with_reducible exact inb_hd | with_reducible apply inb_tl); exact rfl)); (first | exact rfl | omega | simp); (first | assumption | (exact ones_mem (by (repeat first | with_reducible exact ones_nil | ((with_reducible apply ones_cons); (first | exact rfl | assumption))))) | simp [Value.oneCell']); omega; omega; intro v)); refine D9 ?_))
      all_goals refine DD 20 ?_
      all_goals refine D8 ?_
    all_goals repeat' (first | refine KK ?_ | refine NB fun b => ?_ | ((refine KB ?_ ?_ <;> intro hp)) | refine KG ?_ | fail)
    all_goals
      refine gq_back (k + 1, ps.take (ps.length - kk) ++ [(T.mk y.op y.at' y.n y.m y.s ((ps.drop (ps.length - kk)).map (·.1)), .slice A2 (ps.length - (ps.length - kk)) c2)], μ2, v) ⟨by dsimp only; omega, hle.trans hle2, ?_, ?_, ?_, ?_⟩ (by dsimp only; omega) rfl PU ?_
      · intro p hp
        rcases List.mem_append.1 hp with hp | hp
        · exact (hkids p (List.mem_of_mem_take hp)).mono hle2
        · cases List.mem_singleton.1 hp
          exact hkr
      · dsimp only
        rw [sizes_append, size_mkE]
        have : sizes ps = sizes (ps.take (ps.length - kk)) + sizes (ps.drop (ps.length - kk)) := by rw [← sizes_append, List.take_append_drop]
        omega
      · simp; omega
      · intro p hp
        rcases List.mem_append.1 hp with hp | hp
        · exact hall0 p (List.mem_of_mem_take hp)
        · cases List.mem_singleton.1 hp
          refine AllI.node ⟨y.k, by cases y; exact hq _ (List.mem_of_getElem? hy)⟩ (fun t ht => ?_)
          obtain ⟨p2, hp2, rfl⟩ := List.mem_map.1 ht
          exact hall0 p2 (List.mem_of_mem_drop hp2)
      · dsimp only
        rw [flat_takes encTV_len, show (ps.take (ps.length - kk) ++ [(T.mk y.op y.at' y.n y.m y.s ((ps.drop (ps.length - kk)).map (·.1)), Value.slice A2 (ps.length - (ps.length - kk)) c2)]).length = ps.length - kk + 1 by simp, List.flatMap_append]
        exact (by repeat first | exact List.Sublist.refl _ | exact List.nil_sublist _ | refine List.Sublist.cons_cons _ ?_ | refine List.Sublist.cons _ ?_)
  · by_cases hps : ps.length = 0
    · repeat' (first | refine KK ?_ | refine NB fun b => ?_ | ((refine KB ?_ ?_ <;> intro hp)) | refine KG ?_ | fail)
      exact ret_m1 rfl (rv_agg 1 rfl rfl rfl rfl rfl (by repeat first | exact lc_nil | refine lc_cons rfl ?_)) (fun μ' hle' hL => ⟨T.zero, ⟨_, rfl, KR.nil _ _ _⟩, by rw [T.size_eq]; simp [T.zero, T.kids], AllI.node ⟨0, hq0⟩ (fun t ht => by cases ht)⟩)
    · obtain ⟨p, hp⟩ : ∃ p, ps[ps.length - 1]? = some p := ⟨ps[ps.length - 1], List.getElem?_eq_getElem (by omega)⟩
      have hcell := flat_get encTV_len hp
      rcases hok.form with ⟨rfl, h0, _⟩ | ⟨g, rfl⟩
      · exact absurd h0 hps
      have hkp := hkids p (List.mem_of_getElem? hp)
      have hone := hkp.one
      have hall : (encTV p).all (·.oneCell') = true := by simp only [List.all_cons, List.all_nil, Bool.and_true, Bool.and_eq_true]; exact ⟨rfl, rfl, rfl, rfl, rfl, hone⟩
      repeat' (first | ((with_reducible apply g_storeS_1); exact rfl; exact rfl; exact rfl; exact rfl; exact rfl; exact hall; exact rfl; (repeat first | with_reducible exact pc_nil | with_reducible apply pc_cons)) | refine KO ?_ | (refine KV (b := by first | exact U1 (ps.length - 1) | ((with_reducible apply v_load_rows 0 (vs := encTV p)); exact rfl; exact rfl; exact rfl; exact rfl; exact rfl; exact hcell)) (c := ?_)) | refine KI ?_ | refine NB fun b => ?_ | ((refine KB ?_ ?_ <;> intro hp)) | refine KG ?_ | fail)
      refine ret_m1 rfl (rv_agg 1 rfl rfl rfl rfl rfl (by repeat first | exact lc_nil | refine lc_cons rfl ?_)) (fun μ' hle' hL => ⟨p.1, ⟨p.2, rfl, hkp.mono hle'⟩, ?_, hall0 p (List.mem_of_getElem? hp)⟩)
      have := T.sum_mem (List.mem_map.2 ⟨p, List.mem_of_getElem? hp, rfl⟩ : p.1.size ∈ ps.map fun p => p.1.size)
      have e : (ps.map fun p => p.1.size).sum = sizes ps := rfl
      omega
end Go.Proofs.YtfabmichdhbiaaaGreatDoor
namespace Go.Proofs.YtfabmichdhbiaaaGreatDoor
open Go.RowKit Go.Vcg
def fresh9 : ByteArray := "fresh9".toUTF8
theorem badE_f (a e : Int) (s : ES) : badE false a e s = s := by unfold badE; rw [if_neg (by simp)]
theorem fresh_let : fresh9 ≠ "let".toUTF8 := by decide +kernel
theorem fresh_yield : fresh9 ≠ "yield".toUTF8 := by decide +kernel
theorem fresh_nil : fresh9 ≠ ⟨#[]⟩ := by decide +kernel
theorem name_fresh {wd : ByteArray → Int} (h1 : wd fresh9 ≠ 1) (h2 : wd fresh9 ≠ 2) (t : T) (p : EP) (s : ES) : nameE wd t fresh9 p s = s := by
  unfold nameE
  rw [decide_eq_false h1, decide_eq_false fresh_let, decide_eq_false h2, decide_eq_false fresh_yield]
  simp only [Bool.or_self, Bool.false_and, Bool.and_false, badE_f, ite_self]
end Go.Proofs.YtfabmichdhbiaaaGreatDoor
namespace Go.Proofs.YtfabmichdhbiaaaGreatDoor
open Go.RowKit Go.Vcg
def sg (r : Int) : Int := if 0 < r then r + 1 else r
theorem sg_inj {a c : Int} : sg a = sg c ↔ a = c := by unfold sg; split <;> split <;> omega
theorem sg_one (a : Int) : sg a ≠ 1 := by unfold sg; split <;> omega
theorem sg_nat (n : Nat) : sg ((n + 1 : Nat) : Int) = ((n + 1 + 1 : Nat) : Int) := by unfold sg; rw [if_pos (by omega)]; omega
def sgD (d : ED) : ED := ⟨d.lex, d.ins.map sg, sg d.par, d.twice⟩
theorem contains_sg (r : Int) (l : List Int) : (l.map sg).contains (sg r) = l.contains r := by
  induction l with
  | nil => rfl
  | cons a l ih =>
    rw [List.map_cons, List.contains_cons, List.contains_cons, ih]
    congr 1
    by_cases h : r = a
    · subst h; simp
    · rw [beq_false_of_ne h, beq_false_of_ne (fun e => h (sg_inj.1 e))]
theorem clash_sg (a c : ED) : clashE (sgD a) (sgD c) = clashE a c := by
  unfold clashE sgD
  dsimp only
  have h1 : sg c.par ≠ 0 ↔ c.par ≠ 0 := by
    exact not_congr ((show sg c.par = 0 ↔ sg c.par = sg 0 from Iff.rfl).trans sg_inj)
  simp only [h1, sg_inj]
  congr 2
  rw [List.any_map]
  congr 1
  funext r
  exact contains_sg r c.ins
def fr1 : ED := ⟨false, [1], 0, false⟩
theorem clash_fr (c : ED) : clashE fr1 (sgD c) = false := by
  unfold clashE fr1 sgD
  dsimp only
  rw [if_neg (fun h => h.2.1 h.2.2.symm)]
  have : (c.ins.map sg).contains 1 = false := by
    rw [List.contains_eq_mem, decide_eq_false_iff_not, List.mem_map]
    rintro ⟨a, -, h⟩
    exact sg_one a h
  simp [this]
  intro _ x _ h
  exact absurd h (sg_one x)
def mkP (p : EP) (b : Bool) : EP := { p with regs := p.regs.map sg, fn := b }
def SR (s s' : ES) : Prop := s.e ≠ 0 ∨ (s.e = 0 ∧ s'.e = 0 ∧ s'.at' = 0 ∧ s'.regs = s.regs + 1 ∧ ∀ x, getE x s'.names = (if x = fresh9 then [fr1] else []) ++ (getE x s.names).map sgD)
theorem SR.bad {s s' : ES} (h : SR s s') {c c' : Bool} (hc : s.e = 0 → c' = true → c = true) {e : Int} (he : e ≠ 0) (a : Int) : SR (badE c a e s) (badE c' a e s') := by
  rcases h with h | ⟨h0, h1, h2, h3, h4⟩
  · rw [badE_keep h]; exact .inl h
  cases c with
  | true =>
    left
    unfold badE
    rw [if_pos ⟨rfl, h0⟩]
    exact he
  | false =>
    cases c' with
    | true => cases hc h0 rfl
    | false =>
      rw [badE_f, badE_f]
      exact .inr ⟨h0, h1, h2, h3, h4⟩
theorem SR.decl {s s' : ES} (h : SR s s') (a : Int) (x : ByteArray) (d : ED) : SR (declE a x d s) (declE a x (sgD d) s') := by
  have hb : SR (badE ((getE x s.names).any fun o => clashE o d) a 30 s) (badE ((getE x s'.names).any fun o => clashE o (sgD d)) a 30 s') := by
    by_cases he : s.e = 0
    · have h' := h
      rcases h with h | ⟨h0, h1, h2, h3, h4⟩
      · exact absurd he h
      refine h'.bad (fun _ => ?_) (by decide) a
      rw [h4 x, List.any_append, List.any_map]
      have e1 : ((if x = fresh9 then [fr1] else []) : List ED).any (fun o => clashE o (sgD d)) = false := by
        split
        · simp [clash_fr]
        · rfl
      have e2 : ((fun o => clashE o (sgD d)) ∘ sgD) = fun o => clashE o d := by
        funext o
        exact clash_sg o d
      rw [e1, e2, Bool.false_or]
      exact fun h => h
    · exact h.bad (fun h => absurd h he) (by decide) a
  unfold declE
  dsimp only
  rcases hb with hb | ⟨h0, h1, h2, h3, h4⟩
  · exact .inl hb
  refine .inr ⟨h0, h1, h2, h3, fun y => ?_⟩
  dsimp only
  rw [getE_put, getE_put]
  by_cases hy : y = x
  · subst hy
    rw [if_pos rfl, if_pos rfl, h4 y, List.map_append, List.append_assoc]
    rfl
  · rw [if_neg hy, if_neg hy]
    exact h4 y
theorem SR.name {s s' : ES} (h : SR s s') (wd : ByteArray → Int) (t : T) (x : ByteArray) {p p' : EP} (hg : p'.gen = p.gen) (hs : p'.strict = p.strict) : SR (nameE wd t x p s) (nameE wd t x p' s') := by
  unfold nameE
  dsimp only
  rw [hg, hs]
  refine SR.bad ?_ (fun _ h => h) (by decide) _
  split
  · exact (h.bad (fun _ h => h) (by decide) _).bad (fun _ h => h) (by decide) _
  · exact h.bad (fun _ h => h) (by decide) _
theorem SR.with {s s' : ES} (h : SR s s') : SR (withS s) (withS s') := by
  rcases h with h | ⟨h0, h1, h2, h3, h4⟩
  · exact .inl h
  · exact .inr ⟨h0, h1, h2, by show s'.regs + 1 = s.regs + 1 + 1; omega, h4⟩
theorem mk_with {s s' : ES} (h : SR s s') (h0 : s.e = 0) (p : EP) (b : Bool) : withP (mkP p b) s' = mkP (withP p s) b := by
  rcases h with h | ⟨-, -, -, h3, -⟩
  · exact absurd h0 h
  unfold withP mkP
  dsimp only
  rw [List.map_append, h3]
  congr 2
  rw [List.map_cons, List.map_nil, sg_nat]
theorem sr_fold {α : Type} {g g' : ES → α → ES} : ∀ (l : List α) (s s' : ES), SR s s' → (∀ k ∈ l, ∀ s s', SR s s' → SR (g s k) (g' s' k)) → SR (l.foldl g s) (l.foldl g' s')
  | [], _, _, h, _ => h
  | k :: r, s, s', h, hg => sr_fold r _ _ (hg k (by simp) s s' h) fun k hk => hg k (List.mem_cons_of_mem _ hk)
theorem near_mk (p : EP) (b : Bool) : nearE (mkP p b) = (nearE p).map sg := by unfold nearE mkP; dsimp only; rw [List.length_map, List.map_drop]
theorem base_mk (p : EP) (b : Bool) : baseP (mkP p b) = mkP (baseP p) b := rfl
theorem in_mk (t : T) (p : EP) (b : Bool) : inP t (mkP p b) = mkP (inP t p) true := rfl
section
variable {wd : ByteArray → Int} {N : T → EP → ES → ES} {B : T → EP → ED → ES → ES}
def NR (N : T → EP → ES → ES) (k : T) : Prop := ∀ (p : EP) (b : Bool) (s s' : ES), (p.fn = true → b = true) → SR s s' → SR (N k p s) (N k (mkP p b) s')
def BR (B : T → EP → ED → ES → ES) (k : T) : Prop := ∀ (p : EP) (b : Bool) (d : ED) (s s' : ES), (p.fn = true → b = true) → SR s s' → SR (B k p d s) (B k (mkP p b) (sgD d) s')
theorem sr_all {l : List T} (hN : ∀ k ∈ l, NR N k) {p : EP} {b : Bool} (hb : p.fn = true → b = true) {s s' : ES} (h : SR s s') : SR (allE N l p s) (allE N l (mkP p b) s') :=
  sr_fold l s s' h fun k hk s s' h => hN k hk p b s s' hb h
theorem sr_alone {t : T} (hN : NR N t) {p : EP} {b : Bool} (hb : p.fn = true → b = true) {s s' : ES} (h : SR s s') : SR (aloneE N t p s) (aloneE N t (mkP p b) s') := by
  unfold aloneE
  exact hN p b _ _ hb (h.bad (fun _ h => h) (by decide) _)
theorem sr_bind {t : T} (hN : ∀ k, NR N k) (hB : ∀ k, BR B k) : BR (bindE wd N B) t := by
  intro p b d s s' hb h
  unfold bindE
  split
  · exact (h.name wd t t.s rfl rfl).decl t.at' t.s d
  split
  · exact h.bad (fun _ h => h) (by decide) _
  split
  · exact hN _ p b _ _ hb (hB _ p b d _ _ hb h)
  split
  · exact hB _ p b d _ _ hb (hN _ p b _ _ hb h)
  split
  · exact sr_fold _ _ _ h fun k _ s s' h => hB k p b d s s' hb h
  · exact h
theorem per_fold {α : Type} {g : ES → α → ES} (hg : ∀ s k, s.e ≠ 0 → (g s k).e ≠ 0) : ∀ (l : List α) (s : ES), s.e ≠ 0 → (l.foldl g s).e ≠ 0
  | [], _, h => h
  | k :: r, s, h => per_fold hg r _ (hg s k h)
theorem sr_fun (hN : ∀ k, NR N k) (hB : ∀ k, BR B k) (hpN : ∀ k p s, s.e ≠ 0 → (N k p s).e ≠ 0) (hpB : ∀ k p d s, s.e ≠ 0 → (B k p d s).e ≠ 0) (t : T) (own : Bool) (p : EP) (b : Bool) (hb : p.fn = true → b = true) {s s' : ES} (h : SR s s') : SR (funE wd N B t p own s) (funE wd N B t (mkP p b) own s') := by
  unfold funE
  dsimp only
  have h1 : SR (if t.s ≠ ⟨#[]⟩ then nameE wd t t.s { p with strict := (inP t p).strict } s else s) (if t.s ≠ ⟨#[]⟩ then nameE wd t t.s { mkP p b with strict := (inP t (mkP p b)).strict } s' else s') := by
    split
    · exact h.name wd t t.s rfl rfl
    · exact h
  have h2 := h1.bad (c := strictE t && !simpleE (kidE t 0)) (c' := strictE t && !simpleE (kidE t 0)) (fun _ h => h) (e := 35) (by decide) t.at'
  have h3 : SR (if bitE t.n 1 = true then declE t.at' t.s ⟨!own, if own = true then p.regs else nearE p, 0, false⟩ (badE (strictE t && !simpleE (kidE t 0)) t.at' 35 (if t.s ≠ ⟨#[]⟩ then nameE wd t t.s { p with strict := (inP t p).strict } s else s)) else badE (strictE t && !simpleE (kidE t 0)) t.at' 35 (if t.s ≠ ⟨#[]⟩ then nameE wd t t.s { p with strict := (inP t p).strict } s else s))
      (if bitE t.n 1 = true then declE t.at' t.s ⟨!own, if own = true then (mkP p b).regs else nearE (mkP p b), 0, false⟩ (badE (strictE t && !simpleE (kidE t 0)) t.at' 35 (if t.s ≠ ⟨#[]⟩ then nameE wd t t.s { mkP p b with strict := (inP t (mkP p b)).strict } s' else s')) else badE (strictE t && !simpleE (kidE t 0)) t.at' 35 (if t.s ≠ ⟨#[]⟩ then nameE wd t t.s { mkP p b with strict := (inP t (mkP p b)).strict } s' else s')) := by
    split
    · have := h2.decl t.at' t.s ⟨!own, if own = true then p.regs else nearE p, 0, false⟩
      have e : sgD ⟨!own, if own = true then p.regs else nearE p, 0, false⟩ = ⟨!own, if own = true then (mkP p b).regs else nearE (mkP p b), 0, false⟩ := by
        unfold sgD
        dsimp only
        rw [near_mk]
        cases own <;> rfl
      rwa [e] at this
    · exact h2
  generalize (if bitE t.n 1 = true then declE t.at' t.s ⟨!own, if own = true then p.regs else nearE p, 0, false⟩ (badE (strictE t && !simpleE (kidE t 0)) t.at' 35 (if t.s ≠ ⟨#[]⟩ then nameE wd t t.s { p with strict := (inP t p).strict } s else s)) else badE (strictE t && !simpleE (kidE t 0)) t.at' 35 (if t.s ≠ ⟨#[]⟩ then nameE wd t t.s { p with strict := (inP t p).strict } s else s)) = s3 at h3 ⊢
  generalize (if bitE t.n 1 = true then declE t.at' t.s ⟨!own, if own = true then (mkP p b).regs else nearE (mkP p b), 0, false⟩ (badE (strictE t && !simpleE (kidE t 0)) t.at' 35 (if t.s ≠ ⟨#[]⟩ then nameE wd t t.s { mkP p b with strict := (inP t (mkP p b)).strict } s' else s')) else badE (strictE t && !simpleE (kidE t 0)) t.at' 35 (if t.s ≠ ⟨#[]⟩ then nameE wd t t.s { mkP p b with strict := (inP t (mkP p b)).strict } s' else s')) = s3' at h3 ⊢
  by_cases he : s3.e = 0
  · have hr : s3'.regs = s3.regs + 1 := by
      rcases h3 with h3 | h3
      · exact absurd he h3
      · exact h3.2.2.2.1
    rw [in_mk, mk_with h3 he]
    have hd : ∀ fl : Bool, sgD ⟨false, (withP (inP t p) s3).regs, ((withS s3).regs : Int), fl⟩ = ⟨false, (mkP (withP (inP t p) s3) true).regs, ((withS s3').regs : Int), fl⟩ := fun fl => by
      unfold sgD
      dsimp only
      have : sg ((withS s3).regs : Int) = ((withS s3').regs : Int) := by
        show sg ((s3.regs + 1 : Nat) : Int) = ((s3'.regs + 1 : Nat) : Int)
        rw [sg_nat, hr]
      rw [this]
      rfl
    have h5 := sr_fold (g := fun s k => B k { withP (inP t p) s3 with head := true } ⟨false, (withP (inP t p) s3).regs, ((withS s3).regs : Int), ((withP (inP t p) s3).strict || bitE t.n 2 || bitE t.n 8 || !simpleE (kidE t 0))⟩ s) (g' := fun s k => B k { mkP (withP (inP t p) s3) true with head := true } ⟨false, (mkP (withP (inP t p) s3) true).regs, ((withS s3').regs : Int), ((mkP (withP (inP t p) s3) true).strict || bitE t.n 2 || bitE t.n 8 || !simpleE (kidE t 0))⟩ s) (kidE t 0).kids _ _ h3.with fun k _ s s' h => by
      have := hB k { withP (inP t p) s3 with head := true } true ⟨false, (withP (inP t p) s3).regs, ((withS s3).regs : Int), ((withP (inP t p) s3).strict || bitE t.n 2 || bitE t.n 8 || !simpleE (kidE t 0))⟩ s s' (fun _ => rfl) h
      rw [hd] at this
      exact this
    split
    · exact hN _ (withP (inP t p) s3) true _ _ (fun _ => rfl) h5
    · exact sr_all (p := { withP (inP t p) s3 with own := true }) (fun k _ => hN k) (fun _ => rfl) h5
  · left
    have h5 := per_fold (g := fun s k => B k { withP (inP t p) s3 with head := true } ⟨false, (withP (inP t p) s3).regs, ((withS s3).regs : Int), ((withP (inP t p) s3).strict || bitE t.n 2 || bitE t.n 8 || !simpleE (kidE t 0))⟩ s) (fun s k h => hpB k _ _ s h) (kidE t 0).kids (withS s3) he
    split
    · exact hpN _ _ _ h5
    · exact per_fold (fun s k h => hpN k _ s h) _ _ h5
theorem sr_vars (hN : ∀ k, NR N k) (hB : ∀ k, BR B k) (t : T) (each : Bool) (p : EP) (b : Bool) (hb : p.fn = true → b = true) {s s' : ES} (h : SR s s') : SR (varsE N B t p each s) (varsE N B t (mkP p b) each s') := by
  unfold varsE
  dsimp only
  refine sr_fold _ _ _ h fun k _ s s' h => ?_
  have e : sgD (if t.n ≠ 0 then ⟨true, nearE p, 0, false⟩ else ⟨false, p.regs, 0, false⟩) = (if t.n ≠ 0 then ⟨true, nearE (mkP p b), 0, false⟩ else ⟨false, (mkP p b).regs, 0, false⟩) := by
    rw [near_mk]
    split <;> rfl
  have h1 := h.bad (c := decide (k.kids.length = 1) && !each && (decide (t.n = 2) || decide ((kidE k 0).op ≠ 34))) (c' := decide (k.kids.length = 1) && !each && (decide (t.n = 2) || decide ((kidE k 0).op ≠ 34))) (fun _ h => h) (e := 36) (by decide) k.at'
  have h2 := hB (kidE k 0) p b (if t.n ≠ 0 then ⟨true, nearE p, 0, false⟩ else ⟨false, p.regs, 0, false⟩) _ _ hb h1
  rw [e] at h2
  exact sr_all (fun k _ => hN k) hb h2
theorem sr_jump (t : T) (p : EP) (b : Bool) {s s' : ES} (h : SR s s') : SR (jumpE wd t p s) (jumpE wd t (mkP p b) s') := by
  unfold jumpE
  split
  · exact h.bad (fun _ h => h) (by decide) _
  · exact ((h.name wd t t.s rfl rfl).bad (fun _ h => h) (by decide) _).bad (fun _ h => h) (by decide) _
theorem sr_round {t : T} (hN : NR N t) {p : EP} {b : Bool} (hb : p.fn = true → b = true) (mine : List ByteArray) {s s' : ES} (h : SR s s') : SR (roundE N t p mine s) (roundE N t (mkP p b) mine s') :=
  sr_alone (p := { p with loop := true, loops := p.loops ++ mine }) hN hb h
theorem sr_loop (hN : ∀ k, NR N k) (t : T) (p : EP) (b : Bool) (hb : p.fn = true → b = true) (mine : List ByteArray) {s s' : ES} (h0 : s.e = 0) (h : SR s s') : SR (loopE N t p mine s) (loopE N t (mkP p b) mine s') := by
  unfold loopE
  split
  · exact sr_round (hN _) hb _ (hN _ p b _ _ hb h)
  split
  · exact hN _ p b _ _ hb (sr_round (hN _) hb _ h)
  · dsimp only
    rw [mk_with h h0]
    refine sr_round (hN _) (p := withP p s) (b := b) hb _ ?_
    exact sr_fold _ _ _ h.with fun k _ s s' h => hN k { withP p _ with each := decide (t.op ≠ 10) } b s s' hb h
theorem sr_part (hN : ∀ k, NR N k) (t : T) (p : EP) (b : Bool) (hb : p.fn = true → b = true) {s s' : ES} (h : SR s s') : SR (partE wd N t p s) (partE wd N t (mkP p b) s') := by
  have ha : ∀ {s s'}, SR s s' → SR (allE N t.kids p s) (allE N t.kids (mkP p b) s') := fun h => sr_all (fun k _ => hN k) hb h
  unfold partE
  split
  · exact ha (sr_jump t p b h)
  split
  · refine ha (h.bad (fun _ hc => ?_) (by decide) _)
    show (!p.fn || p.head) = true
    have hc' : (!b || p.head) = true := hc
    cases hf : p.fn with
    | false => rfl
    | true => rw [hb hf] at hc'; exact hc'
  split
  · exact ha (h.name wd t t.s rfl rfl)
  split
  · exact h.name wd _ _ rfl rfl
  split
  · exact ha (h.bad (fun _ h => h) (by decide) _)
  split
  · exact ha (h.bad (fun _ h => h) (by decide) _)
  · exact ha h
theorem sr_node (hN : ∀ k, NR N k) (hB : ∀ k, BR B k) (hpN : ∀ k p s, s.e ≠ 0 → (N k p s).e ≠ 0) (hpB : ∀ k p d s, s.e ≠ 0 → (B k p d s).e ≠ 0) (t : T) : NR (nodeE wd N B) t := by
  intro p b s s' hb h
  by_cases h0 : s.e = 0
  rotate_left
  · left
    unfold nodeE
    rw [if_pos h0]
    exact h0
  have h1 : s'.e = 0 := by
    rcases h with h | h
    · exact absurd h0 h
    · exact h.2.1
  unfold nodeE
  rw [if_neg (show ¬s.e ≠ 0 from fun h => h h0), if_neg (show ¬s'.e ≠ 0 from fun h => h h1)]
  dsimp only
  rw [base_mk, show (mkP p b).each = p.each from rfl, show (mkP p b).own = p.own from rfl, show (mkP p b).mine = p.mine from rfl]
  have hb' : (baseP p).fn = true → b = true := hb
  rw [mk_with h h0]
  split
  · exact sr_vars hN hB t _ _ b hb' h
  split
  · exact sr_fun hN hB hpN hpB t _ _ b hb' h
  split
  · exact sr_all (p := withP (baseP p) s) (b := b) (fun k _ => hN k) hb' h.with
  split
  · refine sr_all (p := withP (baseP p) s) (b := b) (fun k _ => hN k) hb' ?_
    have := hB (kidE t 0) (withP (baseP p) s) b ⟨true, nearE (withP (baseP p) s), 0, false⟩ _ _ hb' h.with
    rwa [show sgD ⟨true, nearE (withP (baseP p) s), 0, false⟩ = ⟨true, nearE (mkP (withP (baseP p) s) b), 0, false⟩ by rw [near_mk]; rfl] at this
  split
  · exact sr_loop hN t _ b hb' _ h0 h
  split
  · have h2 := hN (kidE t 0) (baseP p) b _ _ hb' h
    by_cases he : (N (kidE t 0) (baseP p) s).e = 0
    · rw [mk_with h2 he]
      exact sr_all (p := { withP (baseP p) (N (kidE t 0) (baseP p) s) with choice := true }) (fun k _ => hN k) hb' h2.with
    · left
      exact per_fold (fun s k h => hpN k _ s h) _ _ he
  split
  · exact sr_fold _ _ _ (hN (kidE t 0) (baseP p) b _ _ hb' h) fun k _ s s' h => sr_alone (hN k) hb' h
  split
  · have h2 := (h.name wd t t.s (p := baseP p) (p' := mkP (baseP p) b) rfl rfl).bad (c := (baseP p).labels.contains t.s) (c' := (baseP p).labels.contains t.s) (fun _ h => h) (e := 31) (by decide) t.at'
    exact sr_alone (p := { baseP p with labels := (baseP p).labels ++ [t.s], mine := p.mine ++ [t.s] }) (hN _) hb' h2
  · exact sr_part hN t _ b hb' h
end
section
variable {wd : ByteArray → Int}
theorem badE_per {c : Bool} {a e : Int} {s : ES} (h : s.e ≠ 0) : (badE c a e s).e ≠ 0 := by rw [badE_keep h]; exact h
theorem declE_per {a : Int} {x : ByteArray} {d : ED} {s : ES} (h : s.e ≠ 0) : (declE a x d s).e ≠ 0 := badE_per h
theorem nameE_per {t : T} {x : ByteArray} {p : EP} {s : ES} (h : s.e ≠ 0) : (nameE wd t x p s).e ≠ 0 := (gr_name (F := fun _ => False) wd t x p s).per h
theorem node_per (N : T → EP → ES → ES) (B : T → EP → ED → ES → ES) (t : T) (p : EP) (s : ES) (h : s.e ≠ 0) : (nodeE wd N B t p s).e ≠ 0 := by unfold nodeE; rw [if_pos h]; exact h
theorem bind_per (N : T → EP → ES → ES) (B : T → EP → ED → ES → ES) (hpN : ∀ k p s, s.e ≠ 0 → (N k p s).e ≠ 0) (hpB : ∀ k p d s, s.e ≠ 0 → (B k p d s).e ≠ 0) (t : T) (p : EP) (d : ED) (s : ES) (h : s.e ≠ 0) : (bindE wd N B t p d s).e ≠ 0 := by
  unfold bindE
  split
  · exact declE_per (nameE_per h)
  split
  · exact badE_per h
  split
  · exact hpN _ _ _ (hpB _ _ _ _ h)
  split
  · exact hpB _ _ _ _ (hpN _ _ _ h)
  split
  · exact per_fold (fun s k h => hpB k _ _ s h) _ _ h
  · exact h
theorem nb_per : ∀ (f : Nat), (∀ t p s, s.e ≠ 0 → ((nbE wd f).1 t p s).e ≠ 0) ∧ ∀ t p d s, s.e ≠ 0 → ((nbE wd f).2 t p d s).e ≠ 0
  | 0 => ⟨fun _ _ _ h => h, fun _ _ _ _ h => h⟩
  | f + 1 => ⟨fun t p s h => node_per _ _ t p s h, fun t p d s h => bind_per _ _ (nb_per f).1 (nb_per f).2 t p d s h⟩
theorem sr_nb : ∀ (f : Nat) (t : T), NR (nbE wd f).1 t ∧ BR (nbE wd f).2 t
  | 0, _ => ⟨fun _ _ _ _ _ h => h, fun _ _ _ _ _ _ h => h⟩
  | f + 1, t => ⟨sr_node (fun k => (sr_nb f k).1) (fun k => (sr_nb f k).2) (nb_per f).1 (nb_per f).2 t, sr_bind (fun k => (sr_nb f k).1) (fun k => (sr_nb f k).2)⟩
end
def insideF (l : List T) : T := .mk 4 0 1 0 fresh9 [.mk 5 0 0 0 ⟨#[]⟩ [], .mk 6 0 0 0 ⟨#[]⟩ l]
def insideT (l : List T) : T := .mk 1 0 0 0 ⟨#[]⟩ [insideF l]
theorem bit_0 : bitE 1 1 = true ∧ bitE 1 4 = false := by decide +kernel
theorem inside_law {wd : ByteArray → Int} (h1 : wd fresh9 ≠ 1) (h2 : wd fresh9 ≠ 2) (f : Nat) (t : T) (hop : t.op = 1) (h : (checkE wd f t).e = 0) : (checkE wd (f + 1) (insideT t.kids)).at' = 0 ∧ (checkE wd (f + 1) (insideT t.kids)).e = 0 := by
  have hst : strictE (insideT t.kids) = false := by
    show strictL [insideF t.kids] = false
    unfold strictL
    rw [if_neg (fun h => absurd h.1 (by show ¬(4 : Int) = 8; decide))]
  have hsf : strictE (insideF t.kids) = strictE t := by
    unfold strictE bodyE
    rw [if_pos hop]
    rfl
  have hs0 : startP (insideT t.kids) = ⟨false, false, false, false, [1], [], [], false, false, [], true, false⟩ := by
    unfold startP
    rw [hst]
  have hrun : checkE wd (f + 1) (insideT t.kids) = allE (nbE wd f).1 t.kids (mkP (startP t) true) ⟨[(fresh9, [fr1])], 2, 0, 0⟩ := by
    show nodeE wd (nbE wd f).1 (nbE wd f).2 (insideF t.kids) (startP (insideT t.kids)) ⟨[], 1, 0, 0⟩ = _
    rw [hs0]
    unfold nodeE
    rw [if_neg (show ¬(⟨[], 1, 0, 0⟩ : ES).e ≠ 0 from fun h => h rfl)]
    dsimp only
    rw [if_neg (show ¬(insideF t.kids).op = 2 by show ¬(4 : Int) = 2; decide), if_pos (show (insideF t.kids).op = 4 from rfl)]
    unfold funE
    dsimp only
    rw [if_pos (show (insideF t.kids).s ≠ ⟨#[]⟩ from fresh_nil)]
    rw [show (insideF t.kids).s = fresh9 from rfl, name_fresh h1 h2, show simpleE (kidE (insideF t.kids) 0) = true from rfl, Bool.not_true, Bool.and_false, badE_f, show (insideF t.kids).n = 1 from rfl, bit_0.1, if_pos rfl,
      if_neg (show ¬(kidE (insideF t.kids) 1).op ≠ 6 from fun h => h rfl)]
    have hd : ∀ d : ED, declE (insideF t.kids).at' fresh9 d ⟨[], 1, 0, 0⟩ = ⟨[(fresh9, [d])], 1, 0, 0⟩ := fun d => by
      unfold declE
      simp only [getE, List.any_nil, badE_f, putE, List.nil_append]
    rw [hd]
    have hi : (⟨false || strictE (insideF t.kids), bitE 1 4, true, false, [2], [], [], false, false, [], true, false⟩ : EP) = mkP (startP t) true := by
      rw [hsf, bit_0.2, Bool.false_or]
      rfl
    rw [← hi]
    refine congr (congrArg (allE (nbE wd f).1 t.kids) ?_) ?_
    · dsimp only [withP, inP, baseP, List.nil_append]
      rfl
    · dsimp only [withS, withP, inP, baseP]
      rfl
  rw [hrun]
  have hsr := sr_all (N := (nbE wd f).1) (l := t.kids) (fun k _ => (sr_nb (wd := wd) f k).1) (p := startP t) (b := true) (fun _ => rfl) (s := ⟨[], 1, 0, 0⟩) (s' := ⟨[(fresh9, [fr1])], 2, 0, 0⟩) (.inr ⟨rfl, rfl, rfl, rfl, fun x => by
    show getE x [(fresh9, [fr1])] = _ ++ (getE x []).map sgD
    simp only [getE, List.map_nil, List.append_nil]⟩)
  rcases hsr with hsr | hsr
  · exact absurd h hsr
  · exact ⟨hsr.2.2.1, hsr.2.1⟩
end Go.Proofs.YtfabmichdhbiaaaGreatDoor
namespace Go.Proofs.YtfabmichdhbiaaaGreatDoor
open Go.RowKit Go.Vcg Ou
def varsT (kind : Int) (x : ByteArray) (at' : Int) : T := .mk 2 at' kind 0 ⟨#[]⟩ [.mk 3 at' 0 0 ⟨#[]⟩ [.mk 34 at' 0 0 x []]]
def progT (l : List T) : T := .mk 1 0 0 0 ⟨#[]⟩ l
theorem form_of {x : ByteArray} (h : bl x ≠ [] ∧ (bl x).all (fun c => decide (LetP c.toNat ∨ DigP c.toNat)) = true ∧ ∀ c, (bl x)[0]? = some c → LetP c.toNat) : formB x = true := by
  refine formB_t ⟨h.1, fun i c hc => ?_⟩
  cases i with
  | zero => exact .inl (h.2.2 c hc)
  | succ i =>
    rcases of_decide_eq_true (List.all_eq_true.1 h.2.1 c (List.mem_of_getElem? hc)) with h1 | h1
    · exact .inl h1
    · exact .inr ⟨by simp, h1⟩
theorem form_x : formB ⟨#[120]⟩ = true := form_of ⟨by decide +kernel, by decide +kernel, fun c hc => by
  have e : (bl ⟨#[120]⟩)[0]? = some 120 := by decide +kernel
  rw [e] at hc
  cases hc
  decide +kernel⟩
theorem nd_of {t : T} {s : Bool} (hkn : knR t.op) (ha : 0 ≤ t.at') (hm : t.m = 0) (h4 : t.op ≠ 4) (hn : 0 ≤ t.n ∧ t.n ≤ mostT t.op) (hw : wordT t = true) (hl : linkT t = false) : Nd t s := by
  refine ⟨(known_iff _).2 hkn, ?_, fun h => by rw [hl] at h; cases h.1⟩
  unfold fieldsT
  have hb : badT t = false := by
    unfold badT
    rw [decide_eq_false (show ¬t.at' < 0 by omega), decide_eq_false (fun h => h hm)]
    rfl
  rw [if_neg (by rw [hb]; simp), if_neg h4, decide_eq_true hn.1, decide_eq_true hn.2, hw]
  rfl
theorem rt_name {x : ByteArray} {at' : Int} (ha : 0 ≤ at') (hx : formB x = true) {d : Nat} (hd : d ≤ 200) (s : Bool) : Rt (.mk 34 at' 0 0 x []) d s := by
  refine .mk hd (nd_of (by unfold knR; simp [T.op]) ha rfl (by simp [T.op]) ⟨Int.le_refl _, by simp [mostT, T.op, T.n]⟩ ?_ (by simp [linkT, T.op])) ?_ fun i k hk => by simp [T.kids] at hk
  · unfold wordT
    simp [T.op, T.s, hx]
  · unfold kidsB exB
    simp [T.op, T.kids]
theorem rt_decl {x : ByteArray} {at' : Int} (ha : 0 ≤ at') (hx : formB x = true) {d : Nat} (hd : d ≤ 199) (s : Bool) : Rt (.mk 3 at' 0 0 ⟨#[]⟩ [.mk 34 at' 0 0 x []]) d s := by
  refine .mk (by omega) (nd_of (by unfold knR; simp [T.op]) ha rfl (by simp [T.op]) ⟨Int.le_refl _, by simp [mostT, T.op, T.n]⟩ ?_ (by simp [linkT, T.op])) ?_ fun i k hk => ?_
  · unfold wordT
    simp [T.op, T.s]
  · unfold kidsB stB
    simp only [T.op, T.kids]
    simp only [show ¬((3 : Int) = 1 ∨ (3 : Int) = 6) by omega, show ¬(3 : Int) = 2 by omega, if_false, if_true, show (3 : Int) ≤ 23 by omega]
    rw [fitP_0]
    have ht : targetT (.mk 34 at' 0 0 x []) = true := by simp [targetT, simpleT, T.op]
    dsimp only
    rw [if_pos ht, fitP_1]
    exact fitP_nil' []
  · cases i with
    | zero =>
      have hk : some (T.mk 34 at' 0 0 x []) = some k := hk
      cases hk
      exact rt_name ha hx (by omega) _
    | succ i => simp [T.kids] at hk
theorem rt_vars {kind at' : Int} {x : ByteArray} (hkd : 0 ≤ kind ∧ kind ≤ 2) (ha : 0 ≤ at') (hx : formB x = true) {d : Nat} (hd : d ≤ 198) (s : Bool) : Rt (varsT kind x at') d s := by
  refine .mk (by omega) (nd_of (by unfold knR; simp [varsT, T.op]) ha rfl (by simp [varsT, T.op]) ⟨hkd.1, by simp [mostT, varsT, T.op, T.n]; exact hkd.2⟩ ?_ (by simp [linkT, varsT, T.op])) ?_ fun i k hk => ?_
  · unfold wordT
    simp [varsT, T.op, T.s]
  · unfold kidsB stB
    simp [varsT, T.op, T.kids, fewP, ofT]
  · cases i with
    | zero =>
      have hk : some (T.mk 3 at' 0 0 ⟨#[]⟩ [.mk 34 at' 0 0 x []]) = some k := hk
      cases hk
      exact rt_decl ha hx (by omega) _
    | succ i => simp [varsT, T.kids] at hk
theorem rt_prog {l : List T} (h : ∀ v ∈ l, ∃ kind x at', v = varsT kind x at' ∧ (0 ≤ kind ∧ kind ≤ 2) ∧ 0 ≤ at' ∧ formB x = true) : Rt (progT l) 1 false := by
  refine .mk (by omega) (nd_of (by unfold knR; simp [progT, T.op]) (Int.le_refl _) rfl (by simp [progT, T.op]) ⟨Int.le_refl _, by simp [mostT, progT, T.op, T.n]⟩ ?_ (by simp [linkT, progT, T.op])) ?_ fun i k hk => ?_
  · unfold wordT
    simp [progT, T.op, T.s]
  · unfold kidsB stB
    simp only [progT, T.op, T.kids]
    simp only [show (1 : Int) ≤ 23 by omega, if_true, true_or]
    unfold fewP
    have ha : l.all stmtT = true := List.all_eq_true.2 fun v hv => by
      obtain ⟨kind, x, a, rfl, -⟩ := h v hv
      simp [stmtT, varsT, T.op]
    rw [ha]
    simp
  · obtain ⟨kind, x, a, rfl, h1, h2, h3⟩ := h k (List.mem_of_getElem? hk)
    exact rt_vars h1 h2 h3 (by omega) _
theorem AllN.imp {p q : T → Prop} (hpq : ∀ t, p t → q t) {t : T} (h : AllN p t) : AllN q t := by
  induction h with
  | mk h _ ih => exact .mk (hpq _ h) ih
theorem AllN.and {p q : T → Prop} {t : T} (h : AllN p t) (h2 : AllN q t) : AllN (fun t => p t ∧ q t) t := by
  induction h with
  | mk h _ ih => exact .mk ⟨h, h2.here⟩ fun k hk => ih k hk (h2.kid hk)
theorem AllI.to {q : Ite → Prop} {P : T → Prop} (hp : ∀ op at' n m s kids k, q ⟨op, at', n, m, s, k⟩ → P (.mk op at' n m s kids)) {t : T} (h : AllI q t) : AllN P t := by
  induction h with
  | node h _ ih =>
    obtain ⟨k, hk⟩ := h
    exact .mk (hp _ _ _ _ _ _ k hk) ih
theorem sh_of {t : T} (h : AllN (fun t => t.s.size ≤ 4000 ∧ In64 t.op ∧ In64 t.n ∧ In64 t.m) t) : Sh t := by
  induction h with
  | mk h _ ih => exact .mk h.1 h.2.1 h.2.2.1 h.2.2.2 ih
theorem wd_fresh : wdF fresh9 = 0 := by decide +kernel
theorem checkR_inside {t : T} (f : Nat) (h : (checkR f t).2 = 0) (hr : rtB (insideT t.kids) 1 false = true) : checkR (f + 1) (insideT t.kids) = (0, 0) := by
  unfold checkR at h
  split at h
  · rename_i h1
    obtain ⟨e1, e2⟩ := inside_law (wd := wdF) (by rw [wd_fresh]; decide) (by rw [wd_fresh]; decide) f t h1.1 h
    unfold checkR
    rw [if_pos ⟨rfl, hr⟩, e1, e2]
  · cases h
def xS : ByteArray := ⟨#[120]⟩
def exA : T := progT [varsT 1 xS 4, varsT 0 xS 11]
def exB' : T := progT [varsT 0 xS 4, varsT 0 xS 11]
def exC : T := progT [varsT 2 xS 6]
theorem ck_A : (checkE wdF 9 exA).at' = 11 ∧ (checkE wdF 9 exA).e = 30 := by decide +kernel
theorem ck_B : (checkE wdF 9 exB').at' = 0 ∧ (checkE wdF 9 exB').e = 0 := by decide +kernel
theorem ck_C : (checkE wdF 9 exC).at' = 6 ∧ (checkE wdF 9 exC).e = 36 := by decide +kernel
theorem rt_A : rtB exA 1 false = true := rtB_t (rt_prog fun v hv => by
  rcases List.mem_cons.1 hv with rfl | hv
  · exact ⟨_, _, _, rfl, by omega, by omega, form_x⟩
  · rw [List.mem_singleton.1 hv]
    exact ⟨_, _, _, rfl, by omega, by omega, form_x⟩)
theorem rt_B : rtB exB' 1 false = true := rtB_t (rt_prog fun v hv => by
  rcases List.mem_cons.1 hv with rfl | hv
  · exact ⟨_, _, _, rfl, by omega, by omega, form_x⟩
  · rw [List.mem_singleton.1 hv]
    exact ⟨_, _, _, rfl, by omega, by omega, form_x⟩)
theorem rt_C : rtB exC 1 false = true := rtB_t (rt_prog fun v hv => by
  rw [List.mem_singleton.1 hv]
  exact ⟨_, _, _, rfl, by omega, by omega, form_x⟩)
theorem ckR_A : checkR 9 exA = (11, 30) := by
  unfold checkR
  rw [if_pos ⟨rfl, rt_A⟩, ck_A.1, ck_A.2]
theorem ckR_B : checkR 9 exB' = (0, 0) := by
  unfold checkR
  rw [if_pos ⟨rfl, rt_B⟩, ck_B.1, ck_B.2]
theorem ckR_C : checkR 9 exC = (6, 36) := by
  unfold checkR
  rw [if_pos ⟨rfl, rt_C⟩, ck_C.1, ck_C.2]
end Go.Proofs.YtfabmichdhbiaaaGreatDoor
namespace Go.Vcg
open Go.RowKit
theorem g_blkRow {P : Program} {X : Ctx} {ops : Array Oper} {Q : Exit → Act → World → Prop} {rest : List Oper} {μ : Mem} {l : Slots} {L : List Bk} {b t sz : Nat} {cs : Slots} {xs : List Value} (n s : Nat) (hz : sz = n * s) (hc : LC cs 0 sz xs) (hn : n ≤ 1000000) (h : G P X ops Q rest μ l (.inr ⟨.slice (some ⟨b, 0, none⟩) n n, t, s, n, xs⟩ :: L)) : G P X ops Q rest μ l (.inl ⟨b, t, sz, cs⟩ :: L) := fun a w hs => by
  subst hz
  exact h a w (St.blkRow (n := n) (s := s) hs hc (Nat.le_trans hn (by decide)))
end Go.Vcg
namespace Go.Proofs.YtfabmichdhbiaaaGreatDoor
open Go.RowKit Go.Vcg Ou
theorem addr0 (b k j : Nat) : Addr.add ⟨b, k, none⟩ j = ⟨b, k + j, none⟩ := by cases j <;> simp [Addr.add]
theorem blk_sl {μ : Mem} {b t sz : Nat} {cs : Slots} {ps : List (T × Value)} (h : Bk.sh (.inl ⟨b, t, sz, cs⟩) μ) (hc : ∀ i v, (ps.flatMap encTV)[i]? = some v → lk cs i = some v) : Sl encTV 6 μ (some ⟨b, 0, none⟩) ps.length ps := by
  obtain ⟨arr, h1, h2, h3⟩ := h
  refine ⟨rfl, fun _ => ⟨_, rfl, fun i y hy j v hv => ?_⟩⟩
  have h4 := flat_get encTV_len hy j v hv
  have h5 := h3 _ _ (hc _ _ h4)
  have e : (Addr.add ⟨b, 0, none⟩ (i * 6)).add j = ⟨b, i * 6 + j, none⟩ := by rw [addr0, addr0, Nat.zero_add]
  rw [e]
  exact ⟨arr, t, (0, 0), h1, rfl, h5⟩
theorem sh_vars' {kind at' : Int} {x : ByteArray} (hk : In64 kind) (hx : x.size ≤ 4000) : Sh (varsT kind x at') := by
  have h0 : (⟨#[]⟩ : ByteArray).size ≤ 4000 := by decide
  refine .mk h0 (by unfold In64; simp [varsT, T.op]) hk (by unfold In64; simp [varsT, T.m]) fun k hm => ?_
  rw [List.mem_singleton.1 hm]
  refine .mk h0 (by unfold In64; simp [T.op]) (by unfold In64; simp [T.n]) (by unfold In64; simp [T.m]) fun k hm => ?_
  rw [List.mem_singleton.1 hm]
  exact .mk hx (by unfold In64; simp [T.op]) (by unfold In64; simp [T.n]) (by unfold In64; simp [T.m]) fun k hm => by simp [T.kids] at hm
theorem sh_prog' {l : List T} (h : ∀ v ∈ l, Sh v) : Sh (progT l) :=
  .mk (show (⟨#[]⟩ : ByteArray).size ≤ 4000 by decide) (by unfold In64; simp [progT, T.op]) (by unfold In64; simp [progT, T.n]) (by unfold In64; simp [progT, T.m]) h
theorem x_le : (xS : ByteArray).size ≤ 4000 := by decide
theorem sh_A : Sh exA := sh_prog' fun v hv => by
  rcases List.mem_cons.1 hv with rfl | hv
  · exact sh_vars' (by unfold In64; omega) x_le
  · rw [List.mem_singleton.1 hv]; exact sh_vars' (by unfold In64; omega) x_le
theorem sh_B : Sh exB' := sh_prog' fun v hv => by
  rcases List.mem_cons.1 hv with rfl | hv
  · exact sh_vars' (by unfold In64; omega) x_le
  · rw [List.mem_singleton.1 hv]; exact sh_vars' (by unfold In64; omega) x_le
theorem sh_C : Sh exC := sh_prog' fun v hv => by
  rw [List.mem_singleton.1 hv]; exact sh_vars' (by unfold In64; omega) x_le
attribute [local irreducible] G GC GQ GA GAop Calls IntKind.wrap Int.decLt Int.decLe
theorem lvars_spec (kind at' : Int) (x : ByteArray) (w : World) (μ : Mem) (hμ : MOk μ w) :
    Calls Tryz.prog 8 #[.int .i64 kind, .string x, .int .i64 at', .slice none 0 0] w fun e w' => ∃ v μ', e = .returned v ∧ Grow w w' μ μ' ∧ ∃ u, v = .agg (encT (varsT kind x at') u).toArray ∧ KR μ' (varsT kind x at').kids u := by
  refine call_intro (args := [.int .i64 kind, .string x, .int .i64 at', .slice none 0 0]) Tryz.func8 rfl Tryz.ntmps8 (by simp) hμ ?_
  have hnil : Sl encTV 6 μ none 0 [] := Sl.nil _ _ _ _
  repeat' (first | refine KO ?_ | ((with_reducible show G _ _ _ _ (Oper.mk _ (Op.call (Call.mk (Callee.builtin Builtin.append) _ _)) _ _ _ _ :: _) _ _ _); refine g_blkRow (xs := encTV (T.mk 34 at' 0 0 x [], .slice none 0 0)) 1 6 rfl (by repeat first | exact lc_nil | refine lc_cons rfl ?_) (by decide) ?_; refine AX (S := by (with_reducible apply src_sh); exact rfl; exact hnil; simp) (A := by simp) (O := by simp) (k := fun v => ?_); (with_reducible apply g_rowForm 0); exact rfl; omega; (rintro g cap rfl hcap)) | refine KI ?_ | refine NB fun b => ?_ | ((refine KB ?_ ?_ <;> intro hp)) | refine KG ?_ | fail)
  refine ret_m1 rfl (rv_agg (vs := encT (varsT kind x at') (.slice (some ⟨b, 0, none⟩) 1 1)) 2 rfl rfl rfl rfl rfl (by repeat first | exact lc_nil | refine lc_cons rfl ?_)) (fun μ' hle' hL => ?_)
  have h1 := hL _ (List.mem_cons_self ..)
  have h2 := hL _ (List.mem_cons_of_mem _ (List.mem_cons_self ..))
  obtain ⟨A2, c2, e2, hS2⟩ := row_sl (enc := encTV) (xs := [(T.mk 34 at' 0 0 x [], Value.slice none 0 0)]) h2 rfl (by simp) rfl
  cases e2
  have k2 := KR.of_pairs (ps := [(T.mk 34 at' 0 0 x [], Value.slice none 0 0)]) hS2 hcap (fun p hp => by rw [List.mem_singleton.1 hp]; exact KR.nil _ _ _)
  have k1 := KR.of_pairs (c := 1) (ps := [(T.mk 3 at' 0 0 ⟨#[]⟩ [T.mk 34 at' 0 0 x []], Value.slice (some ⟨g, 0, none⟩) 1 cap)]) (blk_sl h1 (fun i v hv => lk_idx' hv)) (Nat.le_refl _) (fun p hp => by rw [List.mem_singleton.1 hp]; exact k2)
  exact ⟨_, rfl, k1⟩
theorem lprogram_spec (l : List T) (v : Value) (w : World) (μ : Mem) (hμ : MOk μ w) (hk : KR μ l v) :
    Calls Tryz.prog 11 #[v] w fun e w' => e = .returned (.agg (encT (progT l) v).toArray) ∧ Below w.heap.size w w' := by
  obtain ⟨A, c, rfl, -, -⟩ := hk.form
  refine call_intro (args := [.slice A l.length c]) Tryz.func11 rfl Tryz.ntmps11 (by simp) hμ ?_
  repeat' (first | refine KK ?_ | refine NB fun b => ?_ | ((refine KB ?_ ?_ <;> intro hp)) | refine KG ?_ | fail)
  exact ret_v1 rfl (rv_agg (vs := encT (progT l) (.slice A l.length c)) 0 rfl rfl rfl rfl rfl (by repeat first | exact lc_nil | refine lc_cons rfl ?_)) rfl
theorem llives_spec (w : World) (μ : Mem) (hμ : MOk μ w) (hm : MaxQ μ) (hT : TabA μ) : Calls Tryz.prog 6 #[] w fun e w' => e = .returned (.bool true) ∧ Below w.heap.size w w' := by
  refine call_intro (args := []) Tryz.func6 rfl Tryz.ntmps6 (by simp) hμ ?_
  repeat' (first | ((with_reducible show GC _ _ (Code.seq (Code.region 2 _ _) _) _ _ _ _); (apply gc_stop)) | refine KO ?_ | ((with_reducible apply F2 8); exact rfl; exact EN; (exact fun w hw => lvars_spec 1 4 ⟨#[120]⟩ w _ hw); (rintro vA μA hleA ⟨uA, rfl, hkA⟩); (have hoA := hkA.one); (have hm := hm.mono hleA); (have hT := hT.mono hleA)) | ((with_reducible apply F2 8); exact rfl; exact EN; (exact fun w hw => lvars_spec 0 11 ⟨#[120]⟩ w _ hw); (rintro vB μB hleB ⟨uB, rfl, hkB⟩); (have hoB := hkB.one); (have hkA := hkA.mono hleB); (have hm := hm.mono hleB); (have hT := hT.mono hleB)) | ((with_reducible apply F1 11); exact rfl; exact EN; (exact fun w μc hw hse => lprogram_spec [varsT 1 xS 4, varsT 0 xS 11] _ w μc hw (KR.of_pairs (c := 2) (ps := [(varsT 1 xS 4, uA), (varsT 0 xS 11, uB)]) (blk_sl hse.hd (fun i v hv => lk_idx' hv)) (Nat.le_refl _) (fun p hp => by rcases List.mem_cons.1 hp with rfl | hp; exact hkA.mono hse.le; rw [List.mem_singleton.1 hp]; exact hkB.mono hse.le)))) | ((with_reducible apply F1 9); exact rfl; exact EN; (exact fun w μc hw hse => by have h9 := echeck_spec 9 exA _ w μc hw (KR.of_pairs (c := 2) (ps := [(varsT 1 xS 4, uA), (varsT 0 xS 11, uB)]) (blk_sl hse.hd (fun i v hv => lk_idx' hv)) (Nat.le_refl _) (fun p hp => by rcases List.mem_cons.1 hp with rfl | hp; exact hkA.mono hse.le; rw [List.mem_singleton.1 hp]; exact hkB.mono hse.le)) (by simp [exA, exB', exC, progT, varsT, T.size_eq, T.kids]) (by simp [exA, exB', exC, progT, varsT, T.size_eq, T.kids]) sh_A (hT.mono hse.le) (hm.mono hse.le); rw [ckR_A] at h9; exact h9)) | refine KI ?_ | refine NB fun b => ?_ | ((refine KB ?_ ?_ <;> intro hp)) | refine KG ?_ | fail)
  refine gcs ?_
  repeat' (first | ((with_reducible show GC _ _ (Code.seq (Code.region 3 _ _) _) _ _ _ _); (apply gc_stop)) | refine KO ?_ | ((with_reducible apply F2 8); exact rfl; exact EN; (exact fun w hw => lvars_spec 0 4 ⟨#[120]⟩ w _ hw); (rintro vC μC hleC ⟨uC, rfl, hkC⟩); (have hoC := hkC.one); (have hm := hm.mono hleC); (have hT := hT.mono hleC)) | ((with_reducible apply F2 8); exact rfl; exact EN; (exact fun w hw => lvars_spec 0 11 ⟨#[120]⟩ w _ hw); (rintro vD μD hleD ⟨uD, rfl, hkD⟩); (have hoD := hkD.one); (have hkC := hkC.mono hleD); (have hm := hm.mono hleD); (have hT := hT.mono hleD)) | ((with_reducible apply F1 11); exact rfl; exact EN; (exact fun w μc hw hse => lprogram_spec [varsT 0 xS 4, varsT 0 xS 11] _ w μc hw (KR.of_pairs (c := 2) (ps := [(varsT 0 xS 4, uC), (varsT 0 xS 11, uD)]) (blk_sl hse.hd (fun i v hv => lk_idx' hv)) (Nat.le_refl _) (fun p hp => by rcases List.mem_cons.1 hp with rfl | hp; exact hkC.mono hse.le; rw [List.mem_singleton.1 hp]; exact hkD.mono hse.le)))) | ((with_reducible apply F1 9); exact rfl; exact EN; (exact fun w μc hw hse => by have h9 := echeck_spec 9 exB' _ w μc hw (KR.of_pairs (c := 2) (ps := [(varsT 0 xS 4, uC), (varsT 0 xS 11, uD)]) (blk_sl hse.hd (fun i v hv => lk_idx' hv)) (Nat.le_refl _) (fun p hp => by rcases List.mem_cons.1 hp with rfl | hp; exact hkC.mono hse.le; rw [List.mem_singleton.1 hp]; exact hkD.mono hse.le)) (by simp [exA, exB', exC, progT, varsT, T.size_eq, T.kids]) (by simp [exA, exB', exC, progT, varsT, T.size_eq, T.kids]) sh_B (hT.mono hse.le) (hm.mono hse.le); rw [ckR_B] at h9; exact h9)) | refine KI ?_ | refine NB fun b => ?_ | ((refine KB ?_ ?_ <;> intro hp)) | refine KG ?_ | fail)
  refine gcs ?_
  repeat' (first | refine KO ?_ | ((with_reducible apply F2 8); exact rfl; exact EN; (exact fun w hw => lvars_spec 2 6 ⟨#[120]⟩ w _ hw); (rintro vE μE hleE ⟨uE, rfl, hkE⟩); (have hoE := hkE.one); (have hm := hm.mono hleE); (have hT := hT.mono hleE)) | ((with_reducible apply F1 11); exact rfl; exact EN; (exact fun w μc hw hse => lprogram_spec [varsT 2 xS 6] _ w μc hw (KR.of_pairs (c := 1) (ps := [(varsT 2 xS 6, uE)]) (blk_sl hse.hd (fun i v hv => lk_idx' hv)) (Nat.le_refl _) (fun p hp => by rw [List.mem_singleton.1 hp]; exact hkE.mono hse.le)))) | ((with_reducible apply F1 9); exact rfl; exact EN; (exact fun w μc hw hse => by have h9 := echeck_spec 9 exC _ w μc hw (KR.of_pairs (c := 1) (ps := [(varsT 2 xS 6, uE)]) (blk_sl hse.hd (fun i v hv => lk_idx' hv)) (Nat.le_refl _) (fun p hp => by rw [List.mem_singleton.1 hp]; exact hkE.mono hse.le)) (by simp [exA, exB', exC, progT, varsT, T.size_eq, T.kids]) (by simp [exA, exB', exC, progT, varsT, T.size_eq, T.kids]) sh_C (hT.mono hse.le) (hm.mono hse.le); rw [ckR_C] at h9; exact h9)) | refine KI ?_ | refine NB fun b => ?_ | ((refine KB ?_ ?_ <;> intro hp)) | refine KG ?_ | fail)
  all_goals try (exfalso; first | omega | contradiction)
  all_goals exact ret_s rfl rfl rfl
end Go.Proofs.YtfabmichdhbiaaaGreatDoor
