/- Package literal: a string literal is read: Read. (and what leans on it). No statement of the seat is proved here. -/
import Derived.Test.YtmihpkdhfomcgaaGreatDoorOu7
import Derived.Test.YtmihpkdhfomcgaaGreatDoorSt
import Derived.Test.YtmihpkdhfomcgaaGreatDoorMb
set_option maxRecDepth 20000
set_option maxHeartbeats 2000000
namespace Go.Proofs.YtmihpkdhfomcgaaGreatDoor
open Go.RowKit Go.Vcg Ou
open Go.Lib (byteCells)
theorem hex2_len {l : List UInt8} {b : UInt8} {u : List UInt8} (h : hex2 l = .ok (b, u)) : u.length ≤ l.length := by
  unfold hex2 at h
  repeat' split at h
  all_goals first | cases h | skip
  all_goals (simp; omega)
theorem escB_len {l : List UInt8} {b : UInt8} {u : List UInt8} (h : escB l = .ok (b, u)) : u.length ≤ l.length := by
  unfold escB at h
  split at h
  · cases h
  repeat' split at h
  all_goals first | (cases h; done) | (cases h; simp; done) | (have := hex2_len h; simp; omega)
theorem oneB_len {c : UInt8} {l : List UInt8} {b : UInt8} {u : List UInt8} (h : oneB c l = .ok (b, u)) : u.length ≤ l.length := by
  unfold oneB at h
  split at h
  · exact escB_len h
  · cases h; exact Nat.le_refl _
theorem hex2_suf {l : List UInt8} {b : UInt8} {u : List UInt8} (h : hex2 l = .ok (b, u)) : ∃ n, u = l.drop n := by
  unfold hex2 at h
  repeat' split at h
  all_goals first | (cases h; done) | skip
  all_goals (cases h; exact ⟨2, rfl⟩)
theorem oneB_suf {c : UInt8} {l : List UInt8} {b : UInt8} {u : List UInt8} (h : oneB c l = .ok (b, u)) : ∃ n, u = l.drop n := by
  unfold oneB at h
  split at h
  · unfold escB at h
    split at h
    · cases h
    repeat' split at h
    all_goals first | (cases h; done) | (cases h; exact ⟨1, rfl⟩) | (obtain ⟨n, hn⟩ := hex2_suf h; exact ⟨n + 1, hn⟩)
  · cases h; exact ⟨0, rfl⟩
theorem hex2_err {l : List UInt8} {e : Int} (h : hex2 l = .error e) : ¬ e = 0 := by
  unfold hex2 at h
  repeat' split at h
  all_goals (cases h; try decide)
theorem oneB_err {c : UInt8} {l : List UInt8} {e : Int} (h : oneB c l = .error e) : ¬ e = 0 := by
  unfold oneB at h
  split at h
  · unfold escB at h
    split at h
    · cases h; decide
    repeat' split at h
    all_goals first | exact hex2_err h | (cases h; try decide)
  · cases h
theorem litB_fuel (q : UInt8) : ∀ (f f' : Nat) (l out : List UInt8), l.length < f → l.length < f' → litB q f l out = litB q f' l out
  | 0, _, _, _, h, _ => by omega
  | _, 0, _, _, _, h => by omega
  | f + 1, f' + 1, [], out, _, _ => rfl
  | f + 1, f' + 1, c :: r, out, h, h' => by
    rw [List.length_cons] at h h'
    unfold litB
    split
    · rfl
    split
    · rfl
    split
    · rfl
    · rename_i b u hu
      have := oneB_len hu
      split
      · rfl
      · exact litB_fuel q f f' u _ (by omega) (by omega)
def readV (n : Nat) (r : Except Int (List UInt8 × List UInt8)) : List Value := match r with
  | .ok (t, u) => [.string (ofB t), .int .i64 ((n - u.length : Nat) : Int), .int .i64 0]
  | .error e => [.string ⟨#[]⟩, .int .i64 0, .int .i64 e]
attribute [local irreducible] G GC GQ GA GAop Calls IntKind.wrap Int.decLt Int.decLe
theorem lread_spec (s : ByteArray) (hs : s.size ≤ 1000000) (w : World) (μ : Mem) (hμ : MOk μ w) :
    Calls Tryz.prog 66 #[.string s, .int .i64 0] w fun e w' => e = .returned (.tuple (readV s.size (readL (bl s))).toArray) ∧ Below w.heap.size w w' := by
  refine call_intro (args := [.string s, .int .i64 0]) Tryz.func66 rfl Tryz.ntmps66 (by simp) hμ ?_
  by_cases h0 : 0 < s.size
  · obtain ⟨q, hq1, hq2⟩ := bl_at h0
    have hl : bl s = q :: (bl s).drop 1 := by have := drop_c hq1; rwa [List.drop_zero] at this
    by_cases hq : q.toNat = 34 ∨ q.toNat = 39
    · have hq' : q = 34 ∨ q = 39 := hq.imp (fun h => UInt8.toNat_inj.1 h) (fun h => UInt8.toNat_inj.1 h)
      obtain ⟨res, hres⟩ : ∃ res, readL (bl s) = res := ⟨_, rfl⟩
      rw [hres]
      rw [hl] at hres
      unfold readL at hres
      dsimp only at hres
      rw [if_pos hq'] at hres
      rw [litB_fuel q _ (((bl s).drop 1).length + 1) _ _ (Nat.lt_succ_self _) (Nat.lt_succ_self _)] at hres
      rcases hq with hq | hq
      all_goals
        repeat' (first | refine KO ?_ | (refine KV (b := by first | exact U2 0) (c := ?_)) | refine KI ?_ | refine NB fun b => ?_ | ((refine KB ?_ ?_ <;> intro hp)) | refine KG ?_ | fail)
        refine gc_nilR 5 1 ?_
        refine gc_loop (ι := Nat × List UInt8 × Value) (fun i => 1 ≤ i.1 ∧ i.1 ≤ s.size ∧ i.2.1.length ≤ 65536 ∧ litB q (((bl s).drop i.1).length + 1) ((bl s).drop i.1) i.2.1 = res) (fun i => s.size - i.1) (fun _ => μ)
          (fun i => [(0, .string s), (1, .int .i64 0), (7, i.2.2), (8, .int .i64 i.1)]) (fun i => [.inr ⟨i.2.2, 5, 1, i.2.1.length, byteCells i.2.1⟩]) (1, [], .slice none 0 0) ⟨Nat.le_refl _, h0, by simp, hres⟩ (fun a w hs => J5 hs) ?_
        rintro ⟨i, out, v⟩ ⟨h1, h2, h3, hrun⟩
        dsimp only at h1 h2 h3 hrun ⊢
        by_cases hlt : i < s.size
        · obtain ⟨c, hb1, hb2⟩ := bl_at hlt
          have hone := fun (w : World) (μ : Mem) (hμ : MOk μ w) => lone_spec s hs i c hlt hb1 hb2 w μ hμ
          have hdl := drop_n s (i + 1)
          rw [drop_c hb1, litB] at hrun
          refine gc_rowOk 0 rfl ?_
          rintro A cap rfl hok
          repeat' (first | refine KK ?_ | refine NB fun b => ?_ | ((refine KB ?_ ?_ <;> intro hp)) | refine KG ?_ | fail)
          refine gc_draw 7 _ (by kernel_rfl) rfl (List.Sublist.cons_cons _ (List.nil_sublist _)) ?_
          all_goals refine DD 0 ?_
          all_goals refine DD 1 ?_
          all_goals (first | refine D1 2 ?_ | (refine DV (k := 2) (b := by first | exact U2 i | exact U2 0) (c := ?_)) | refine DD 2 ?_ | fail)
          all_goals refine DD 3 ?_
          all_goals refine DD 4 ?_
          all_goals (first | refine D1 5 ?_ | (refine DV (k := 5) (b := by first | exact U2 i | exact U2 0) (c := ?_)) | refine DD 5 ?_ | fail)
          all_goals (first | refine D1 6 ?_ | (refine DV (k := 6) (b := by first | exact U2 i | exact U2 0) (c := ?_)) | refine DD 6 ?_ | fail)
          all_goals refine D8 ?_
          by_cases hcq : c.toNat = q.toNat
          · have hcq' : c = q := UInt8.toNat_inj.1 hcq
            rw [if_pos hcq'] at hrun
            subst hrun
            have hE : readV s.size (.ok (out, (bl s).drop (i + 1))) = [.string ⟨out.toArray⟩, .int .i64 ((i : Int) + 1), .int .i64 0] := by
              unfold readV
              dsimp only
              rw [hdl, show ((s.size - (s.size - (i + 1)) : Nat) : Int) = (i : Int) + 1 by omega]
              rfl
            rw [hE]
            repeat' (first | refine KO ?_ | (refine KV (b := by first | ((with_reducible apply v_rowstr 0); exact rfl; exact rfl; exact rfl; exact rfl; exact rfl)) (c := ?_)) | refine KI ?_ | refine NB fun b => ?_ | ((refine KB ?_ ?_ <;> intro hp)) | refine KG ?_ | fail)
            all_goals first | (exfalso; omega) | exact ret_vn rfl (by repeat first | exact rvs_nil | refine rvs_cons (by first | exact rv_tmp rfl | exact (rv_agg 0 rfl rfl rfl rfl rfl (by repeat first | exact lc_nil | refine lc_cons rfl ?_)) | exact (rv_agg 1 rfl rfl rfl rfl rfl (by repeat first | exact lc_nil | refine lc_cons rfl ?_)) | exact (rv_agg 2 rfl rfl rfl rfl rfl (by repeat first | exact lc_nil | refine lc_cons rfl ?_)) | exact (rv_agg 3 rfl rfl rfl rfl rfl (by repeat first | exact lc_nil | refine lc_cons rfl ?_))) ?_) rfl rfl
          · have hcq' : ¬ c = q := fun h => hcq (by rw [h])
            rw [if_neg hcq'] at hrun
            by_cases h10 : c.toNat = 10 ∨ c.toNat = 13
            · rw [if_pos (h10.imp (fun h => UInt8.toNat_inj.1 h) (fun h => UInt8.toNat_inj.1 h))] at hrun
              subst hrun
              unfold readV
              dsimp only
              rcases h10 with h10 | h10
              all_goals repeat' (first | refine KO ?_ | (refine KV (b := by first | exact U2 i) (c := ?_)) | refine KI ?_ | refine NB fun b => ?_ | ((refine KB ?_ ?_ <;> intro hp)) | refine KG ?_ | fail)
              all_goals first | (exfalso; omega) | exact ret_vn rfl (by repeat first | exact rvs_nil | refine rvs_cons (by first | exact rv_tmp rfl | exact (rv_agg 0 rfl rfl rfl rfl rfl (by repeat first | exact lc_nil | refine lc_cons rfl ?_)) | exact (rv_agg 1 rfl rfl rfl rfl rfl (by repeat first | exact lc_nil | refine lc_cons rfl ?_)) | exact (rv_agg 2 rfl rfl rfl rfl rfl (by repeat first | exact lc_nil | refine lc_cons rfl ?_)) | exact (rv_agg 3 rfl rfl rfl rfl rfl (by repeat first | exact lc_nil | refine lc_cons rfl ?_))) ?_) rfl rfl
            · rw [if_neg (fun h => h10 (h.imp (fun h => by rw [h]; rfl) (fun h => by rw [h]; rfl)))] at hrun
              cases ho : oneB c ((bl s).drop (i + 1)) with
              | error e =>
                have he := oneB_err ho
                rw [ho] at hrun hone
                dsimp only at hrun
                subst hrun
                unfold oneV at hone
                dsimp only at hone
                unfold readV
                dsimp only
                repeat' (first | refine KO ?_ | ((with_reducible apply F1 78); exact rfl; exact EN; (exact fun w μc hw hse => hone w μc hw)) | (refine KV (b := by first | exact U2 i) (c := ?_)) | refine KI ?_ | refine NB fun b => ?_ | ((refine KB ?_ ?_ <;> intro hp)) | refine KG ?_ | fail)
                all_goals first | (exfalso; omega) | exact ret_vn rfl (by repeat first | exact rvs_nil | refine rvs_cons (by first | exact rv_tmp rfl | exact (rv_agg 0 rfl rfl rfl rfl rfl (by repeat first | exact lc_nil | refine lc_cons rfl ?_)) | exact (rv_agg 1 rfl rfl rfl rfl rfl (by repeat first | exact lc_nil | refine lc_cons rfl ?_)) | exact (rv_agg 2 rfl rfl rfl rfl rfl (by repeat first | exact lc_nil | refine lc_cons rfl ?_)) | exact (rv_agg 3 rfl rfl rfl rfl rfl (by repeat first | exact lc_nil | refine lc_cons rfl ?_))) ?_) rfl rfl
              | ok p =>
                obtain ⟨b0, u0⟩ := p
                have hul := oneB_len ho
                rw [ho] at hrun hone
                dsimp only at hrun
                unfold oneV at hone
                dsimp only at hone
                by_cases hlong : 65536 < out.length + 1
                · rw [if_pos hlong] at hrun
                  subst hrun
                  unfold readV
                  dsimp only
                  repeat' (first | refine KO ?_ | ((with_reducible apply F1 78); exact rfl; exact EN; (exact fun w μc hw hse => hone w μc hw)) | (first | ((with_reducible apply g_ap); exact rfl; exact rfl; exact rfl; (repeat first | with_reducible exact rowup_hd | with_reducible apply rowup_tl); (iterate 6 exact rfl); (first | ((with_reducible apply src_in); exact rfl; (repeat first | with_reducible exact inb_hd | with_reducible apply inb_tl); exact rfl)); (first | exact rfl | omega | simp); (first | assumption | (exact ones_mem (by (repeat first | with_reducible exact ones_nil | ((with_reducible apply ones_cons); (first | exact rfl | assumption))))) | simp [Value.oneCell']); omega; omega; intro v; ((with_reducible apply g_rowSlice 1); exact rfl); (rintro A2 cap2 rfl)) | ((with_reducible apply g_append0); (iterate 9 exact rfl); (first | ((with_reducible apply src_in); exact rfl; (repeat first | with_reducible exact inb_hd | with_reducible apply inb_tl); exact rfl)); (first | exact rfl | omega | simp); (first | assumption | (exact ones_mem (by (repeat first | with_reducible exact ones_nil | ((with_reducible apply ones_cons); (first | exact rfl | assumption))))) | simp [Value.oneCell']); omega; omega; intro v; ((with_reducible apply g_rowSlice 1); exact rfl); (rintro A2 cap2 rfl))) | (refine KV (b := by first | exact U2 i) (c := ?_)) | refine KI ?_ | refine NB fun b => ?_ | ((refine KB ?_ ?_ <;> intro hp)) | refine KG ?_ | fail)
                  all_goals first | (exfalso; omega) | exact ret_vn rfl (by repeat first | exact rvs_nil | refine rvs_cons (by first | exact rv_tmp rfl | exact (rv_agg 0 rfl rfl rfl rfl rfl (by repeat first | exact lc_nil | refine lc_cons rfl ?_)) | exact (rv_agg 1 rfl rfl rfl rfl rfl (by repeat first | exact lc_nil | refine lc_cons rfl ?_)) | exact (rv_agg 2 rfl rfl rfl rfl rfl (by repeat first | exact lc_nil | refine lc_cons rfl ?_)) | exact (rv_agg 3 rfl rfl rfl rfl rfl (by repeat first | exact lc_nil | refine lc_cons rfl ?_))) ?_) rfl rfl
                · rw [if_neg hlong] at hrun
                  have hud : u0 = (bl s).drop (s.size - u0.length) := by
                    obtain ⟨n, hn⟩ := oneB_suf ho
                    rw [List.drop_drop] at hn
                    rw [hn, List.length_drop, bl_len]
                    by_cases hm : i + 1 + n ≤ s.size
                    · rw [show s.size - (s.size - (i + 1 + n)) = i + 1 + n by omega]
                    · rw [List.drop_eq_nil_of_le (by rw [bl_len]; omega), List.drop_eq_nil_of_le (by rw [bl_len]; omega)]
                  repeat' (first | refine KO ?_ | ((with_reducible apply F1 78); exact rfl; exact EN; (exact fun w μc hw hse => hone w μc hw)) | (first | ((with_reducible apply g_ap); exact rfl; exact rfl; exact rfl; (repeat first | with_reducible exact rowup_hd | with_reducible apply rowup_tl); (iterate 6 exact rfl); (first | ((with_reducible apply src_in); exact rfl; (repeat first | with_reducible exact inb_hd | with_reducible apply inb_tl); exact rfl)); (first | exact rfl | omega | simp); (first | assumption | (exact ones_mem (by (repeat first | with_reducible exact ones_nil | ((with_reducible apply ones_cons); (first | exact rfl | assumption))))) | simp [Value.oneCell']); omega; omega; intro v; ((with_reducible apply g_rowSlice 1); exact rfl); (rintro A2 cap2 rfl)) | ((with_reducible apply g_append0); (iterate 9 exact rfl); (first | ((with_reducible apply src_in); exact rfl; (repeat first | with_reducible exact inb_hd | with_reducible apply inb_tl); exact rfl)); (first | exact rfl | omega | simp); (first | assumption | (exact ones_mem (by (repeat first | with_reducible exact ones_nil | ((with_reducible apply ones_cons); (first | exact rfl | assumption))))) | simp [Value.oneCell']); omega; omega; intro v; ((with_reducible apply g_rowSlice 1); exact rfl); (rintro A2 cap2 rfl))) | (refine KV (b := by first | exact U2 i) (c := ?_)) | refine KI ?_ | refine NB fun b => ?_ | ((refine KB ?_ ?_ <;> intro hp)) | refine KG ?_ | fail)
                  all_goals try (exfalso; omega)
                  all_goals refine gq_rowEq (n' := (out ++ [b0]).length) (xs' := byteCells (out ++ [b0])) 1 rfl (by simp) (by rw [byteCells_app]; rfl) ?_
                  all_goals refine J2 (s.size - u0.length, out ++ [b0], .slice A2 (out.length + 1) cap2) ⟨by dsimp only; omega, by dsimp only; omega, by dsimp only; simp; omega, ?_⟩ (by dsimp only; omega)
                  all_goals
                    dsimp only
                    rw [← hud]
                    rw [litB_fuel q _ _ _ _ (Nat.lt_succ_self _) (show u0.length < ((bl s).drop (i + 1)).length + 1 by omega)]
                    exact hrun
        · have hi : (bl s).drop i = [] := List.drop_eq_nil_of_le (by rw [bl_len]; omega)
          rw [hi] at hrun
          have : res = .error 8 := hrun.symm
          subst this
          unfold readV
          dsimp only
          repeat' (first | refine KK ?_ | refine NB fun b => ?_ | ((refine KB ?_ ?_ <;> intro hp)) | refine KG ?_ | fail)
          all_goals first | (exfalso; omega) | exact ret_vn rfl (by repeat first | exact rvs_nil | refine rvs_cons (by first | exact rv_tmp rfl | exact (rv_agg 0 rfl rfl rfl rfl rfl (by repeat first | exact lc_nil | refine lc_cons rfl ?_)) | exact (rv_agg 1 rfl rfl rfl rfl rfl (by repeat first | exact lc_nil | refine lc_cons rfl ?_)) | exact (rv_agg 2 rfl rfl rfl rfl rfl (by repeat first | exact lc_nil | refine lc_cons rfl ?_)) | exact (rv_agg 3 rfl rfl rfl rfl rfl (by repeat first | exact lc_nil | refine lc_cons rfl ?_))) ?_) rfl rfl
    · have hE : readL (bl s) = .error 1 := by
        rw [hl]
        unfold readL
        dsimp only
        rw [if_neg (fun h => hq (h.imp (fun h => by rw [h]; rfl) (fun h => by rw [h]; rfl)))]
      rw [hE]
      unfold readV
      dsimp only
      repeat' (first | refine KO ?_ | (refine KV (b := by first | exact U2 0) (c := ?_)) | refine KI ?_ | refine NB fun b => ?_ | ((refine KB ?_ ?_ <;> intro hp)) | refine KG ?_ | fail)
      all_goals first | (exfalso; omega) | exact ret_vn rfl (by repeat first | exact rvs_nil | refine rvs_cons (by first | exact rv_tmp rfl | exact (rv_agg 0 rfl rfl rfl rfl rfl (by repeat first | exact lc_nil | refine lc_cons rfl ?_)) | exact (rv_agg 1 rfl rfl rfl rfl rfl (by repeat first | exact lc_nil | refine lc_cons rfl ?_)) | exact (rv_agg 2 rfl rfl rfl rfl rfl (by repeat first | exact lc_nil | refine lc_cons rfl ?_)) | exact (rv_agg 3 rfl rfl rfl rfl rfl (by repeat first | exact lc_nil | refine lc_cons rfl ?_))) ?_) rfl rfl
  · have hE : readL (bl s) = .error 1 := by
      have : bl s = [] := List.eq_nil_of_length_eq_zero (by rw [bl_len]; omega)
      rw [this]; rfl
    rw [hE]
    unfold readV
    dsimp only
    repeat' (first | refine KK ?_ | refine NB fun b => ?_ | ((refine KB ?_ ?_ <;> intro hp)) | refine KG ?_ | fail)
    all_goals first | (exfalso; omega) | exact ret_vn rfl (by repeat first | exact rvs_nil | refine rvs_cons (by first | exact rv_tmp rfl | exact (rv_agg 0 rfl rfl rfl rfl rfl (by repeat first | exact lc_nil | refine lc_cons rfl ?_)) | exact (rv_agg 1 rfl rfl rfl rfl rfl (by repeat first | exact lc_nil | refine lc_cons rfl ?_)) | exact (rv_agg 2 rfl rfl rfl rfl rfl (by repeat first | exact lc_nil | refine lc_cons rfl ?_)) | exact (rv_agg 3 rfl rfl rfl rfl rfl (by repeat first | exact lc_nil | refine lc_cons rfl ?_))) ?_) rfl rfl
end Go.Proofs.YtmihpkdhfomcgaaGreatDoor
namespace Go.Proofs.YtmihpkdhfomcgaaGreatDoor
open Go.RowKit Go.Vcg Ou
abbrev RS3 := List UInt8 × Int × List UInt8
abbrev rdB (rb : Nat) (S : RS3) : List Bk := [.inl ⟨rb, 35, 3, [(0, .string (ofB S.1)), (1, .int .i64 S.2.1), (2, .string (ofB S.2.2))]⟩]
abbrev RdK (M : List Nat) (w : World) (μ : Mem) (rb : Nat) (S : RS3) (P : Value → Prop) (en : Ending) (w' : World) : Prop := ∃ (r : Value) (μ' : Mem) (i : Unit), en = .returned r ∧ BackM M w w' μ (rdB rb S) μ' ∧ P r
abbrev RdE (M : List Nat) (w : World) (μ : Mem) (rb : Nat) (line e : Int) (en : Ending) (w' : World) : Prop := ∃ (μ' : Mem) (i : List UInt8 × List UInt8), en = .panicked (pan (failO e)) ∧ BackM M w w' μ (rdB rb (i.1, line, i.2)) μ'
theorem cut_ok {c : UInt8} {l a b : List UInt8} (h : Ou.cutB c l = some (a, b)) (hs : l.length ≤ 1000000) (w : World) (μ : Mem) (hμ : MOk μ w) (hm : MaxOk μ) :
    Calls Tryz.prog 47 #[.string (ofB l), .string (ofB [c])] w fun e w' => e = .returned (.tuple #[.string (ofB a), .string (ofB b), .bool true]) ∧ Below w.heap.size w w' := by
  have := cut_spec c l hs w μ hμ hm
  unfold cutV at this
  rw [h] at this
  exact this
theorem cut_no {c : UInt8} {l : List UInt8} (h : Ou.cutB c l = none) (hs : l.length ≤ 1000000) (w : World) (μ : Mem) (hμ : MOk μ w) (hm : MaxOk μ) :
    Calls Tryz.prog 47 #[.string (ofB l), .string (ofB [c])] w fun e w' => e = .returned (.tuple #[.string (ofB l), .string (ofB []), .bool false]) ∧ Below w.heap.size w w' := by
  have := cut_spec c l hs w μ hμ hm
  unfold cutV at this
  rw [h] at this
  exact this
theorem ofB_inj {a b : List UInt8} (h : ofB a = ofB b) : a = b := by rw [← byS_ofB a, h, byS_ofB]
theorem ext_take (l : List UInt8) (k : Nat) : (ofB l).extract 0 k = ofB (l.take k) := bl_inj (by rw [bl_extract, bl_ofB, bl_ofB, List.drop_zero, Nat.sub_zero])
theorem ext_drop (l : List UInt8) (k : Nat) : (ofB l).extract k (ofB l).size = ofB (l.drop k) := bl_inj (by rw [bl_extract, bl_ofB, bl_ofB, ofB_size, List.take_of_length_le (by rw [List.length_drop]; omega)])
theorem litB_suf (q : UInt8) : ∀ (f : Nat) (l out t u : List UInt8), litB q f l out = .ok (t, u) → ∃ n, n ≤ l.length ∧ u = l.drop n
  | 0, _, _, _, _, h => by cases h
  | _ + 1, [], _, _, _, h => by cases h
  | f + 1, c :: r, out, t, u, h => by
    unfold litB at h
    split at h
    · cases h; exact ⟨1, by simp, rfl⟩
    split at h
    · cases h
    split at h
    · cases h
    · rename_i b u0 ho
      split at h
      · cases h
      · obtain ⟨n, hn, rfl⟩ := litB_suf q f u0 _ t u h
        obtain ⟨m, rfl⟩ := oneB_suf ho
        rw [List.length_drop] at hn
        by_cases hm : m ≤ r.length
        · exact ⟨m + n + 1, by rw [List.length_cons]; omega, by rw [List.drop_drop]; rfl⟩
        · have h0 : n = 0 := by omega
          subst h0
          refine ⟨r.length + 1, by simp, ?_⟩
          rw [List.drop_zero, List.drop_eq_nil_of_le (by omega), List.drop_eq_nil_of_le (by simp)]
theorem readL_suf {l t u : List UInt8} (h : readL l = .ok (t, u)) : u = l.drop (l.length - u.length) ∧ u.length ≤ l.length := by
  unfold readL at h
  split at h
  · cases h
  · rename_i q r
    split at h
    · obtain ⟨n, hn, rfl⟩ := litB_suf _ _ _ _ _ _ h
      rw [List.length_drop, List.length_cons]
      refine ⟨?_, by omega⟩
      rw [show r.length + 1 - (r.length - n) = n + 1 by omega]
      rfl
    · cases h
theorem quote_cond {l t u : List UInt8} (h : readL l = .ok (t, u)) : (ofB (quoteB t) = (ofB l).extract 0 (l.length - u.length)) ↔ quoteB t ++ u = l := by
  obtain ⟨h1, h2⟩ := readL_suf h
  rw [ext_take]
  constructor
  · intro he
    rw [ofB_inj he]
    have := List.take_append_drop (l.length - u.length) l
    rw [← h1] at this
    exact this
  · intro he
    congr 1
    have : (quoteB t).length = l.length - u.length := by rw [← he, List.length_append]; omega
    rw [← he, List.length_append, show (quoteB t).length + u.length - u.length = (quoteB t).length by omega, List.take_left]
theorem litB_err (q : UInt8) : ∀ (f : Nat) (l out : List UInt8) (e : Int), litB q f l out = .error e → ¬ e = 0
  | 0, _, _, _, h => by cases h; decide
  | _ + 1, [], _, _, h => by cases h; decide
  | f + 1, c :: r, out, e, h => by
    unfold litB at h
    split at h
    · cases h
    split at h
    · cases h; decide
    split at h
    · rename_i e' ho
      cases h
      exact oneB_err ho
    · split at h
      · cases h; decide
      · exact litB_err q f _ _ e h
theorem readL_err {l : List UInt8} {e : Int} (h : readL l = .error e) : ¬ e = 0 := by
  unfold readL at h
  split at h
  · cases h; decide
  · split at h
    · exact litB_err _ _ _ _ _ h
    · cases h; decide
theorem quotedB_ok {l t u : List UInt8} (h : quotedB l = some (t, u)) : readL l = .ok (t, u) ∧ quoteB t ++ u = l ∧ t.length ≤ 65536 := by
  obtain ⟨h1, h2⟩ := quotedB_some h
  refine ⟨?_, h1, h2⟩
  rw [← h1]
  exact readL_quote t u h2
theorem readL_len {l t u : List UInt8} (h : readL l = .ok (t, u)) : t.length ≤ 65536 := by
  unfold readL at h
  split at h
  · cases h
  · split at h
    · exact litB_len _ _ _ _ _ (by simp) h
    · cases h
attribute [local irreducible] G GC GQ GA GAop Calls IntKind.wrap Int.decLt Int.decLe
theorem lread_ok {l t u : List UInt8} (h : readL l = .ok (t, u)) (hl : l.length ≤ 1000000) (w : World) (μ : Mem) (hμ : MOk μ w) :
    Calls Tryz.prog 66 #[.string (ofB l), .int .i64 0] w fun e w' => e = .returned (.tuple #[.string (ofB t), .int .i64 ((l.length - u.length : Nat) : Int), .int .i64 0]) ∧ Below w.heap.size w w' := by
  have := lread_spec (ofB l) (by rw [ofB_size]; exact hl) w μ hμ
  rw [bl_ofB, h, ofB_size] at this
  exact this
theorem lread_no {l : List UInt8} {e : Int} (h : readL l = .error e) (hl : l.length ≤ 1000000) (w : World) (μ : Mem) (hμ : MOk μ w) :
    Calls Tryz.prog 66 #[.string (ofB l), .int .i64 0] w fun en w' => en = .returned (.tuple #[.string ⟨#[]⟩, .int .i64 0, .int .i64 e]) ∧ Below w.heap.size w w' := by
  have := lread_spec (ofB l) (by rw [ofB_size]; exact hl) w μ hμ
  rw [bl_ofB, h, ofB_size] at this
  exact this
theorem quote_at (t : List UInt8) (ht : t.length ≤ 65536) (w : World) (μ : Mem) (hμ : MOk μ w) :
    Calls Tryz.prog 17 #[.string (ofB t)] w fun e w' => e = .returned (.string (ofB (quoteB t))) ∧ Below w.heap.size w w' := by
  have := lquote_spec (ofB t) (by rw [ofB_size]; omega) w μ hμ
  rw [byS_ofB] at this
  exact this
theorem next_ok {l r : List UInt8} (rb : Nat) (s rest : List UInt8) (line : Int) (h : Ou.cutB 10 s = some (l, r)) (hs : s.length ≤ 100000) (hr : rest.length ≤ 100000) (hl : 0 ≤ line ∧ line ≤ 100000) (w : World) (μ : Mem) (hμ : MOk μ w) (hm : MaxOk μ) (hO : Go.Vcg.Own μ (rdB rb (s, line, rest)) w) :
    Calls Tryz.prog 21 #[.pointer (some ⟨rb, 0, none⟩)] w (RdK (idsOf (rdB rb (s, line, rest))) w μ rb (r, line + 1, l) fun _ => True) := by
  have hcnt := ids_count hO.diff
  refine call_introM (args := [.pointer (some ⟨rb, 0, none⟩)]) Tryz.func21 rfl Tryz.ntmps21 (by simp) hμ hO ?_
  show GC _ _ _ _ _ _ [.inl ⟨rb, 35, 3, [(0, .string (ofB s)), (1, .int .i64 line), (2, .string (ofB rest))]⟩]
  repeat' (first | refine KO ?_ | ((with_reducible apply F1 47); exact rfl; exact EN; (exact fun w μc hw hse => cut_ok h (by omega) w μc hw (hm.mono hse.le))) | ((with_reducible apply F1 24); exact rfl; exact EN; (exact fun w μc hw hse => must_okb rfl _ w μc hw)) | refine KI ?_ | ((refine KB ?_ ?_ <;> intro hp)) | refine KG ?_ | fail)
  refine gq_sel (l' := []) (L' := rdB rb (r, line + 1, l)) PU PS ?_
  exact ret_bor0 (Post := fun _ _ _ => True) (Ls := fun _ : Unit => rdB rb (r, line + 1, l)) 1 () (.inr rfl) hcnt rfl rfl rfl (fun _ _ _ => trivial)
theorem next_err (rb : Nat) (s rest : List UInt8) (line : Int) (h : Ou.cutB 10 s = none) (hs : s.length ≤ 100000) (hr : rest.length ≤ 100000) (hl : 0 ≤ line ∧ line ≤ 100000) (w : World) (μ : Mem) (hμ : MOk μ w) (hm : MaxOk μ) (hO : Go.Vcg.Own μ (rdB rb (s, line, rest)) w) :
    Calls Tryz.prog 21 #[.pointer (some ⟨rb, 0, none⟩)] w (RdE (idsOf (rdB rb (s, line, rest))) w μ rb (line + 1) 8) := by
  have hcnt := ids_count hO.diff
  refine call_introM (args := [.pointer (some ⟨rb, 0, none⟩)]) Tryz.func21 rfl Tryz.ntmps21 (by simp) hμ hO ?_
  show GC _ _ _ _ _ _ [.inl ⟨rb, 35, 3, [(0, .string (ofB s)), (1, .int .i64 line), (2, .string (ofB rest))]⟩]
  repeat' (first | ((with_reducible (first | apply gq_then_panic | apply gq_block_panic))) | refine KO ?_ | ((with_reducible apply F1 47); exact rfl; exact EN; (exact fun w μc hw hse => cut_no h (by omega) w μc hw (hm.mono hse.le))) | (refine CF 24 ?_; (with_reducible apply g_enter_pan 0); exact rfl; ((with_reducible apply e_call2); kernel_rfl; exact rfl; exact rfl); exact rfl; (exact fun w hw _ => must_errb rfl _ w _ hw)) | refine KI ?_ | ((refine KB ?_ ?_ <;> intro hp)) | refine KG ?_ | fail)
  refine gq_sel (l' := []) (L' := rdB rb (s, line + 1, rest)) PU PS ?_
  exact gq_panB (Ls := fun i : List UInt8 × List UInt8 => rdB rb (i.1, line + 1, i.2)) 1 (s, rest) hcnt rfl rfl
theorem word_ok {x u : List UInt8} (rb : Nat) (s rest : List UInt8) (line : Int) (h : Ou.cutB 32 rest = some (x, u)) (hs : s.length ≤ 100000) (hr : rest.length ≤ 100000) (hl : 0 ≤ line ∧ line ≤ 100000) (w : World) (μ : Mem) (hμ : MOk μ w) (hm : MaxOk μ) (hO : Go.Vcg.Own μ (rdB rb (s, line, rest)) w) :
    Calls Tryz.prog 22 #[.pointer (some ⟨rb, 0, none⟩)] w (RdK (idsOf (rdB rb (s, line, rest))) w μ rb (s, line, u) fun v => v = .string (ofB x)) := by
  have hcnt := ids_count hO.diff
  refine call_introM (args := [.pointer (some ⟨rb, 0, none⟩)]) Tryz.func22 rfl Tryz.ntmps22 (by simp) hμ hO ?_
  show GC _ _ _ _ _ _ [.inl ⟨rb, 35, 3, [(0, .string (ofB s)), (1, .int .i64 line), (2, .string (ofB rest))]⟩]
  repeat' (first | refine KO ?_ | ((with_reducible apply F1 47); exact rfl; exact EN; (exact fun w μc hw hse => cut_ok h (by omega) w μc hw (hm.mono hse.le))) | ((with_reducible apply F1 24); exact rfl; exact EN; (exact fun w μc hw hse => must_okb rfl _ w μc hw)) | refine KI ?_ | ((refine KB ?_ ?_ <;> intro hp)) | refine KG ?_ | fail)
  refine gq_sel (l' := [(2, .string (ofB x))]) (L' := rdB rb (s, line, u)) PU PS ?_
  exact ret_bor (Post := fun _ r _ => r = .string (ofB x)) (Ls := fun _ : Unit => rdB rb (s, line, u)) 1 () hcnt rfl (rv_tmp rfl) rfl rfl (fun _ _ => rfl)
theorem word_err (rb : Nat) (s rest : List UInt8) (line : Int) (h : Ou.cutB 32 rest = none) (hs : s.length ≤ 100000) (hr : rest.length ≤ 100000) (hl : 0 ≤ line ∧ line ≤ 100000) (w : World) (μ : Mem) (hμ : MOk μ w) (hm : MaxOk μ) (hO : Go.Vcg.Own μ (rdB rb (s, line, rest)) w) :
    Calls Tryz.prog 22 #[.pointer (some ⟨rb, 0, none⟩)] w (RdE (idsOf (rdB rb (s, line, rest))) w μ rb line 7) := by
  have hcnt := ids_count hO.diff
  refine call_introM (args := [.pointer (some ⟨rb, 0, none⟩)]) Tryz.func22 rfl Tryz.ntmps22 (by simp) hμ hO ?_
  show GC _ _ _ _ _ _ [.inl ⟨rb, 35, 3, [(0, .string (ofB s)), (1, .int .i64 line), (2, .string (ofB rest))]⟩]
  repeat' (first | ((with_reducible (first | apply gq_then_panic | apply gq_block_panic))) | refine KO ?_ | ((with_reducible apply F1 47); exact rfl; exact EN; (exact fun w μc hw hse => cut_no h (by omega) w μc hw (hm.mono hse.le))) | (refine CF 24 ?_; (with_reducible apply g_enter_pan 0); exact rfl; ((with_reducible apply e_call2); kernel_rfl; exact rfl; exact rfl); exact rfl; (exact fun w hw _ => must_errb rfl _ w _ hw)) | refine KI ?_ | ((refine KB ?_ ?_ <;> intro hp)) | refine KG ?_ | fail)
  refine gq_sel (l' := []) (L' := rdB rb (s, line, rest)) PU PS ?_
  exact gq_panB (Ls := fun i : List UInt8 × List UInt8 => rdB rb (i.1, line, i.2)) 1 (s, rest) hcnt rfl rfl
theorem must1_ok {x u : List UInt8} (rb : Nat) (s rest : List UInt8) (line : Int) (h : Ou.cutB 32 rest = some (x, u)) (hs : s.length ≤ 100000) (hr : rest.length ≤ 100000) (hl : 0 ≤ line ∧ line ≤ 100000) (w : World) (μ : Mem) (hμ : MOk μ w) (hm : MaxOk μ) (hO : Go.Vcg.Own μ (rdB rb (s, line, rest)) w) :
    Calls Tryz.prog 26 #[.pointer (some ⟨rb, 0, none⟩), .string (ofB x)] w (RdK (idsOf (rdB rb (s, line, rest))) w μ rb (s, line, u) fun _ => True) := by
  have hcnt := ids_count hO.diff
  refine call_introM (args := [.pointer (some ⟨rb, 0, none⟩), .string (ofB x)]) Tryz.func26 rfl Tryz.ntmps26 (by simp) hμ hO ?_
  show GC _ _ _ _ _ _ [.inl ⟨rb, 35, 3, [(0, .string (ofB s)), (1, .int .i64 line), (2, .string (ofB rest))]⟩]
  repeat' (first | refine KO ?_ | (refine CF 22 ?_; (with_reducible apply g_enter_bor 1); exact rfl; exact rfl; exact rfl; ((with_reducible apply e_call1); kernel_rfl; exact rfl); exact rfl; (exact fun w hw hO => word_ok rb s rest line h hs hr hl w _ hw hm hO); (rintro v2 μ2 ⟨⟩ hle2 rfl); (dsimp only [List.cons_append, List.nil_append])) | ((with_reducible apply F1 24); exact rfl; exact EN; (exact fun w μc hw hse => must_okb (decide_eq_true rfl) _ w μc hw)) | refine KI ?_ | ((refine KB ?_ ?_ <;> intro hp)) | refine KG ?_ | fail)
  refine gq_sel (l' := []) (L' := rdB rb (s, line, u)) PU PS ?_
  exact ret_bor0 (Post := fun _ _ _ => True) (Ls := fun _ : Unit => rdB rb (s, line, u)) 1 () (.inr rfl) hcnt rfl rfl rfl (fun _ _ _ => trivial)
theorem must1_err1 {x : List UInt8} (rb : Nat) (s rest : List UInt8) (line : Int) (h : Ou.cutB 32 rest = none) (hs : s.length ≤ 100000) (hr : rest.length ≤ 100000) (hl : 0 ≤ line ∧ line ≤ 100000) (w : World) (μ : Mem) (hμ : MOk μ w) (hm : MaxOk μ) (hO : Go.Vcg.Own μ (rdB rb (s, line, rest)) w) :
    Calls Tryz.prog 26 #[.pointer (some ⟨rb, 0, none⟩), .string (ofB x)] w (RdE (idsOf (rdB rb (s, line, rest))) w μ rb line 7) := by
  have hcnt := ids_count hO.diff
  refine call_introM (args := [.pointer (some ⟨rb, 0, none⟩), .string (ofB x)]) Tryz.func26 rfl Tryz.ntmps26 (by simp) hμ hO ?_
  show GC _ _ _ _ _ _ [.inl ⟨rb, 35, 3, [(0, .string (ofB s)), (1, .int .i64 line), (2, .string (ofB rest))]⟩]
  repeat' (first | ((with_reducible (first | apply gq_then_panic | apply gq_block_panic))) | refine KO ?_ | (refine CF 22 ?_; (with_reducible apply g_enter_panB 1); exact rfl; ((with_reducible apply e_call1); kernel_rfl; exact rfl); exact rfl; (exact fun w hw hO => word_err rb s rest line h hs hr hl w _ hw hm hO); (rintro μ2 i2 hle2); (dsimp only [List.cons_append, List.nil_append])) | refine KI ?_ | ((refine KB ?_ ?_ <;> intro hp)) | refine KG ?_ | fail)
  refine gq_sel (l' := []) (L' := rdB rb (i2.1, line, i2.2)) PU PS ?_
  exact gq_panB (Ls := fun i : List UInt8 × List UInt8 => rdB rb (i.1, line, i.2)) 1 (i2.1, i2.2) hcnt rfl rfl
theorem must1_err2 {x y u : List UInt8} (rb : Nat) (s rest : List UInt8) (line : Int) (h : Ou.cutB 32 rest = some (y, u)) (hne : ¬ y = x) (hs : s.length ≤ 100000) (hr : rest.length ≤ 100000) (hl : 0 ≤ line ∧ line ≤ 100000) (w : World) (μ : Mem) (hμ : MOk μ w) (hm : MaxOk μ) (hO : Go.Vcg.Own μ (rdB rb (s, line, rest)) w) :
    Calls Tryz.prog 26 #[.pointer (some ⟨rb, 0, none⟩), .string (ofB x)] w (RdE (idsOf (rdB rb (s, line, rest))) w μ rb line 7) := by
  have hcnt := ids_count hO.diff
  refine call_introM (args := [.pointer (some ⟨rb, 0, none⟩), .string (ofB x)]) Tryz.func26 rfl Tryz.ntmps26 (by simp) hμ hO ?_
  show GC _ _ _ _ _ _ [.inl ⟨rb, 35, 3, [(0, .string (ofB s)), (1, .int .i64 line), (2, .string (ofB rest))]⟩]
  repeat' (first | ((with_reducible (first | apply gq_then_panic | apply gq_block_panic))) | refine KO ?_ | (refine CF 22 ?_; (with_reducible apply g_enter_bor 1); exact rfl; exact rfl; exact rfl; ((with_reducible apply e_call1); kernel_rfl; exact rfl); exact rfl; (exact fun w hw hO => word_ok rb s rest line h hs hr hl w _ hw hm hO); (rintro v2 μ2 ⟨⟩ hle2 rfl); (dsimp only [List.cons_append, List.nil_append])) | (refine CF 24 ?_; (with_reducible apply g_enter_pan 0); exact rfl; ((with_reducible apply e_call2); kernel_rfl; exact rfl; exact rfl); exact rfl; (exact fun w hw _ => must_errb (decide_eq_false (fun h => hne (ofB_inj h))) _ w _ hw)) | refine KI ?_ | ((refine KB ?_ ?_ <;> intro hp)) | refine KG ?_ | fail)
  refine gq_sel (l' := []) (L' := rdB rb (s, line, u)) PU PS ?_
  exact gq_panB (Ls := fun i : List UInt8 × List UInt8 => rdB rb (i.1, line, i.2)) 1 (s, u) hcnt rfl rfl
theorem quoted_ok {t u : List UInt8} (rb : Nat) (s rest : List UInt8) (line : Int) (h : quotedB rest = some (t, u)) (hs : s.length ≤ 100000) (hr : rest.length ≤ 100000) (hl : 0 ≤ line ∧ line ≤ 100000) (w : World) (μ : Mem) (hμ : MOk μ w) (hm : MaxOk μ) (hO : Go.Vcg.Own μ (rdB rb (s, line, rest)) w) :
    Calls Tryz.prog 48 #[.pointer (some ⟨rb, 0, none⟩)] w (RdK (idsOf (rdB rb (s, line, rest))) w μ rb (s, line, u) fun v => v = .string (ofB t)) := by
  have hcnt := ids_count hO.diff
  refine call_introM (args := [.pointer (some ⟨rb, 0, none⟩)]) Tryz.func48 rfl Tryz.ntmps48 (by simp) hμ hO ?_
  show GC _ _ _ _ _ _ [.inl ⟨rb, 35, 3, [(0, .string (ofB s)), (1, .int .i64 line), (2, .string (ofB rest))]⟩]
  obtain ⟨h1, h2, h3⟩ := quotedB_ok h
  obtain ⟨g1, g2⟩ := readL_suf h1
  have hc := (quote_cond h1).2 h2
  obtain ⟨k, hk⟩ : ∃ k, rest.length - u.length = k := ⟨_, rfl⟩
  have hrd := fun (w : World) (μ : Mem) (hμ : MOk μ w) => lread_ok h1 (by omega) w μ hμ
  rw [hk] at hc g1 hrd
  have hsz := ofB_size rest
  have hext : (ofB rest).extract k (ofB rest).size = ofB u := by rw [ext_drop, ← g1]
  repeat' (first | refine KO ?_ | ((with_reducible apply F1 66); exact rfl; exact EN; (exact fun w μc hw hse => hrd w μc hw)) | refine KI ?_ | ((refine KB ?_ ?_ <;> intro hp)) | refine KG ?_ | fail)
  refine gc_draw 14 _ (by kernel_rfl) rfl (List.Sublist.cons_cons _ (List.nil_sublist _)) ?_
  all_goals refine DD 0 ?_
  all_goals (first | refine D1 1 ?_ | (refine DV (k := 1) (b := by first | ((with_reducible apply v_str_hi k); exact rfl; exact rfl; exact rfl; exact rfl; omega)) (c := ?_)) | refine DD 1 ?_ | fail)
  all_goals refine DD 2 ?_
  all_goals (try (refine D7 3 ?_; (repeat' (first | refine KO ?_ | (refine KB ?_ ?_ <;> intro hp)))))
  all_goals refine DD 3 ?_
  all_goals refine DD 5 ?_
  all_goals refine DD 6 ?_
  all_goals (first | refine D1 7 ?_ | (refine DV (k := 7) (b := by first | ((with_reducible apply v_str_hi k); exact rfl; exact rfl; exact rfl; exact rfl; omega)) (c := ?_)) | refine DD 7 ?_ | fail)
  all_goals (first | refine D1 8 ?_ | (refine DV (k := 8) (b := by first | ((with_reducible apply v_str_hi k); exact rfl; exact rfl; exact rfl; exact rfl; omega)) (c := ?_)) | (refine D3 8 (DW (b := by first | ((with_reducible apply v_str_hi k); exact rfl; exact rfl; exact rfl; exact rfl; omega)) (c := ?_))) | refine DD 8 ?_ | fail)
  all_goals refine DD 9 ?_
  all_goals (first | refine D1 10 ?_ | (refine DV (k := 10) (b := by first | ((with_reducible apply v_str_hi k); exact rfl; exact rfl; exact rfl; exact rfl; omega)) (c := ?_)) | refine DD 10 ?_ | fail)
  all_goals (first | (refine D3 4 ?_; refine D5 ?_; (first | ((with_reducible apply F1 17); exact rfl; exact EN; (exact fun w μc hw hse => quote_at t h3 w μc hw)) | ((with_reducible apply F1 24); exact rfl; exact EN; (exact fun w μc hw hse => must_okb (decide_eq_true hc) _ w μc hw))); refine D9 ?_) | refine D3 4 (D6 ?_))
  all_goals (first | refine D1 11 ?_ | (refine DV (k := 11) (b := by first | ((with_reducible apply v_str_hi k); exact rfl; exact rfl; exact rfl; exact rfl; omega)) (c := ?_)) | refine DD 11 ?_ | fail)
  all_goals refine DD 12 ?_
  all_goals (first | (refine D3 13 ?_; refine D5 ?_; (first | ((with_reducible apply F1 17); exact rfl; exact EN; (exact fun w μc hw hse => quote_at t h3 w μc hw)) | ((with_reducible apply F1 24); exact rfl; exact EN; (exact fun w μc hw hse => must_okb (decide_eq_true hc) _ w μc hw))); refine D9 ?_))
  all_goals refine D8 ?_
  all_goals try (exfalso; omega)
  repeat' (first | refine KO ?_ | (refine KV (b := by first | ((with_reducible apply v_str_lo k); exact rfl; exact rfl; exact rfl; exact rfl; omega)) (c := ?_)) | refine KI ?_ | ((refine KB ?_ ?_ <;> intro hp)) | refine KG ?_ | fail)
  rw [hext]
  refine gq_sel (l' := [(2, .string (ofB t))]) (L' := rdB rb (s, line, u)) PU PS ?_
  exact ret_bor (Post := fun _ r _ => r = .string (ofB t)) (Ls := fun _ : Unit => rdB rb (s, line, u)) 1 () hcnt rfl (rv_tmp rfl) rfl rfl (fun _ _ => rfl)
theorem quoted_err (rb : Nat) (s rest : List UInt8) (line : Int) (h : quotedB rest = none) (hs : s.length ≤ 100000) (hr : rest.length ≤ 100000) (hl : 0 ≤ line ∧ line ≤ 100000) (w : World) (μ : Mem) (hμ : MOk μ w) (hm : MaxOk μ) (hO : Go.Vcg.Own μ (rdB rb (s, line, rest)) w) :
    Calls Tryz.prog 48 #[.pointer (some ⟨rb, 0, none⟩)] w (RdE (idsOf (rdB rb (s, line, rest))) w μ rb line 7) := by
  have hcnt := ids_count hO.diff
  refine call_introM (args := [.pointer (some ⟨rb, 0, none⟩)]) Tryz.func48 rfl Tryz.ntmps48 (by simp) hμ hO ?_
  show GC _ _ _ _ _ _ [.inl ⟨rb, 35, 3, [(0, .string (ofB s)), (1, .int .i64 line), (2, .string (ofB rest))]⟩]
  have hsz := ofB_size rest
  cases h1 : readL rest with
  | error e =>
    have he := readL_err h1
    have hrd := fun (w : World) (μ : Mem) (hμ : MOk μ w) => lread_no h1 (by omega) w μ hμ
    repeat' (first | refine KO ?_ | ((with_reducible apply F1 66); exact rfl; exact EN; (exact fun w μc hw hse => hrd w μc hw)) | refine KI ?_ | ((refine KB ?_ ?_ <;> intro hp)) | refine KG ?_ | fail)
    refine gc_draw 14 _ (by kernel_rfl) rfl (List.Sublist.cons_cons _ (List.nil_sublist _)) ?_
    all_goals refine DD 0 ?_
    all_goals refine DD 1 ?_
    all_goals refine DD 2 ?_
    all_goals (try (refine D7 3 ?_; (repeat' (first | refine KO ?_ | (refine KB ?_ ?_ <;> intro hp)))))
    all_goals refine DD 3 ?_
    all_goals refine DD 5 ?_
    all_goals refine DD 6 ?_
    all_goals refine DD 7 ?_
    all_goals refine DD 8 ?_
    all_goals refine DD 9 ?_
    all_goals refine DD 10 ?_
    all_goals (first | (refine D3 4 ?_; refine D5 ?_; ((with_reducible apply g_enter_pan 0); exact rfl; ((with_reducible apply e_call2); kernel_rfl; exact rfl; exact rfl); exact rfl; (exact fun w hw _ => must_errb rfl _ w _ hw))) | refine D3 4 (D6 ?_))
    all_goals refine DD 11 ?_
    all_goals refine DD 12 ?_
    all_goals (first | (refine D3 13 ?_; refine D5 ?_; ((with_reducible apply g_enter_pan 0); exact rfl; ((with_reducible apply e_call2); kernel_rfl; exact rfl; exact rfl); exact rfl; (exact fun w hw _ => must_errb rfl _ w _ hw))))
    all_goals (try refine D8 ?_)
    all_goals refine qa_panic (gq_then_panic ?_)
    all_goals try (exfalso; omega)
    refine gq_sel (l' := []) (L' := rdB rb (s, line, rest)) PU PS ?_
    exact gq_panB (Ls := fun i : List UInt8 × List UInt8 => rdB rb (i.1, line, i.2)) 1 (s, rest) hcnt rfl rfl
  | ok p =>
    obtain ⟨t, u⟩ := p
    have h3 := readL_len h1
    obtain ⟨g1, g2⟩ := readL_suf h1
    have hc : ¬ _ := fun hh => by
      have := (quote_cond h1).1 hh
      unfold quotedB at h
      rw [h1] at h
      dsimp only at h
      rw [if_pos this] at h
      cases h
    obtain ⟨k, hk⟩ : ∃ k, rest.length - u.length = k := ⟨_, rfl⟩
    have hrd := fun (w : World) (μ : Mem) (hμ : MOk μ w) => lread_ok h1 (by omega) w μ hμ
    rw [hk] at hc g1 hrd
    repeat' (first | refine KO ?_ | ((with_reducible apply F1 66); exact rfl; exact EN; (exact fun w μc hw hse => hrd w μc hw)) | refine KI ?_ | ((refine KB ?_ ?_ <;> intro hp)) | refine KG ?_ | fail)
    refine gc_draw 14 _ (by kernel_rfl) rfl (List.Sublist.cons_cons _ (List.nil_sublist _)) ?_
    all_goals refine DD 0 ?_
    all_goals (first | refine D1 1 ?_ | (refine DV (k := 1) (b := by first | ((with_reducible apply v_str_hi k); exact rfl; exact rfl; exact rfl; exact rfl; omega)) (c := ?_)) | refine DD 1 ?_ | fail)
    all_goals refine DD 2 ?_
    all_goals (try (refine D7 3 ?_; (repeat' (first | refine KO ?_ | (refine KB ?_ ?_ <;> intro hp)))))
    all_goals refine DD 3 ?_
    all_goals refine DD 5 ?_
    all_goals refine DD 6 ?_
    all_goals (first | refine D1 7 ?_ | (refine DV (k := 7) (b := by first | ((with_reducible apply v_str_hi k); exact rfl; exact rfl; exact rfl; exact rfl; omega)) (c := ?_)) | refine DD 7 ?_ | fail)
    all_goals (first | refine D1 8 ?_ | (refine DV (k := 8) (b := by first | ((with_reducible apply v_str_hi k); exact rfl; exact rfl; exact rfl; exact rfl; omega)) (c := ?_)) | (refine D3 8 (DW (b := by first | ((with_reducible apply v_str_hi k); exact rfl; exact rfl; exact rfl; exact rfl; omega)) (c := ?_))) | refine DD 8 ?_ | fail)
    all_goals refine DD 9 ?_
    all_goals (first | refine D1 10 ?_ | (refine DV (k := 10) (b := by first | ((with_reducible apply v_str_hi k); exact rfl; exact rfl; exact rfl; exact rfl; omega)) (c := ?_)) | refine DD 10 ?_ | fail)
    all_goals (first | (refine D3 4 ?_; refine D5 ?_; (first | ((with_reducible apply C1); exact rfl; exact EN; (exact fun w μc hw hse => quote_at t h3 w μc hw); refine D9 ?_) | ((with_reducible apply g_enter_pan 0); exact rfl; ((with_reducible apply e_call2); kernel_rfl; exact rfl; exact rfl); exact rfl; (exact fun w hw _ => must_errb (decide_eq_false hc) _ w _ hw)))) | refine D3 4 (D6 ?_))
    all_goals (first | refine D1 11 ?_ | (refine DV (k := 11) (b := by first | ((with_reducible apply v_str_hi k); exact rfl; exact rfl; exact rfl; exact rfl; omega)) (c := ?_)) | refine DD 11 ?_ | fail)
    all_goals refine DD 12 ?_
    all_goals (first | (refine D3 13 ?_; refine D5 ?_; (first | ((with_reducible apply C1); exact rfl; exact EN; (exact fun w μc hw hse => quote_at t h3 w μc hw); refine D9 ?_) | ((with_reducible apply g_enter_pan 0); exact rfl; ((with_reducible apply e_call2); kernel_rfl; exact rfl; exact rfl); exact rfl; (exact fun w hw _ => must_errb (decide_eq_false hc) _ w _ hw)))))
    all_goals (try refine D8 ?_)
    all_goals refine qa_panic (gq_then_panic ?_)
    all_goals try (exfalso; omega)
    refine gq_sel (l' := []) (L' := rdB rb (s, line, rest)) PU PS ?_
    exact gq_panB (Ls := fun i : List UInt8 × List UInt8 => rdB rb (i.1, line, i.2)) 1 (s, rest) hcnt rfl rfl
theorem lastB_ok {l t : List UInt8} (h : lastB l = some t) : quotedB l = some (t, []) := by
  unfold lastB at h
  split at h
  · rename_i t' hq; cases h; exact hq
  · cases h
theorem lastB_no {l t u : List UInt8} (hq : quotedB l = some (t, u)) (h : lastB l = none) : ¬ u = [] := by
  rintro rfl
  unfold lastB at h
  rw [hq] at h
  cases h
theorem last_ok {t : List UInt8} (rb : Nat) (s rest : List UInt8) (line : Int) (h : lastB rest = some t) (hs : s.length ≤ 100000) (hr : rest.length ≤ 100000) (hl : 0 ≤ line ∧ line ≤ 100000) (w : World) (μ : Mem) (hμ : MOk μ w) (hm : MaxOk μ) (hO : Go.Vcg.Own μ (rdB rb (s, line, rest)) w) :
    Calls Tryz.prog 25 #[.pointer (some ⟨rb, 0, none⟩)] w (RdK (idsOf (rdB rb (s, line, rest))) w μ rb (s, line, []) fun v => v = .string (ofB t)) := by
  have hcnt := ids_count hO.diff
  refine call_introM (args := [.pointer (some ⟨rb, 0, none⟩)]) Tryz.func25 rfl Tryz.ntmps25 (by simp) hμ hO ?_
  show GC _ _ _ _ _ _ [.inl ⟨rb, 35, 3, [(0, .string (ofB s)), (1, .int .i64 line), (2, .string (ofB rest))]⟩]
  repeat' (first | refine KO ?_ | (refine CF 48 ?_; (with_reducible apply g_enter_bor 1); exact rfl; exact rfl; exact rfl; ((with_reducible apply e_call1); kernel_rfl; exact rfl); exact rfl; (exact fun w hw hO => quoted_ok rb s rest line (lastB_ok h) hs hr hl w _ hw hm hO); (rintro v2 μ2 ⟨⟩ hle2 rfl); (dsimp only [List.cons_append, List.nil_append])) | ((with_reducible apply F1 24); exact rfl; exact EN; (exact fun w μc hw hse => must_okb (decide_eq_true rfl) _ w μc hw)) | refine KI ?_ | ((refine KB ?_ ?_ <;> intro hp)) | refine KG ?_ | fail)
  refine gq_sel (l' := [(2, .string (ofB t))]) (L' := rdB rb (s, line, [])) PU PS ?_
  exact ret_bor (Post := fun _ r _ => r = .string (ofB t)) (Ls := fun _ : Unit => rdB rb (s, line, [])) 1 () hcnt rfl (rv_tmp rfl) rfl rfl (fun _ _ => rfl)
theorem last_err (rb : Nat) (s rest : List UInt8) (line : Int) (h : lastB rest = none) (hs : s.length ≤ 100000) (hr : rest.length ≤ 100000) (hl : 0 ≤ line ∧ line ≤ 100000) (w : World) (μ : Mem) (hμ : MOk μ w) (hm : MaxOk μ) (hO : Go.Vcg.Own μ (rdB rb (s, line, rest)) w) :
    Calls Tryz.prog 25 #[.pointer (some ⟨rb, 0, none⟩)] w (RdE (idsOf (rdB rb (s, line, rest))) w μ rb line 7) := by
  have hcnt := ids_count hO.diff
  refine call_introM (args := [.pointer (some ⟨rb, 0, none⟩)]) Tryz.func25 rfl Tryz.ntmps25 (by simp) hμ hO ?_
  show GC _ _ _ _ _ _ [.inl ⟨rb, 35, 3, [(0, .string (ofB s)), (1, .int .i64 line), (2, .string (ofB rest))]⟩]
  cases hq : quotedB rest with
  | none =>
    repeat' (first | ((with_reducible (first | apply gq_then_panic | apply gq_block_panic))) | refine KO ?_ | (refine CF 48 ?_; (with_reducible apply g_enter_panB 1); exact rfl; ((with_reducible apply e_call1); kernel_rfl; exact rfl); exact rfl; (exact fun w hw hO => quoted_err rb s rest line hq hs hr hl w _ hw hm hO); (rintro μ2 i2 hle2); (dsimp only [List.cons_append, List.nil_append])) | refine KI ?_ | ((refine KB ?_ ?_ <;> intro hp)) | refine KG ?_ | fail)
    refine gq_sel (l' := []) (L' := rdB rb (i2.1, line, i2.2)) PU PS ?_
    exact gq_panB (Ls := fun i : List UInt8 × List UInt8 => rdB rb (i.1, line, i.2)) 1 (i2.1, i2.2) hcnt rfl rfl
  | some p =>
    obtain ⟨t, u⟩ := p
    have hne := lastB_no hq h
    repeat' (first | ((with_reducible (first | apply gq_then_panic | apply gq_block_panic))) | refine KO ?_ | (refine CF 48 ?_; (with_reducible apply g_enter_bor 1); exact rfl; exact rfl; exact rfl; ((with_reducible apply e_call1); kernel_rfl; exact rfl); exact rfl; (exact fun w hw hO => quoted_ok rb s rest line hq hs hr hl w _ hw hm hO); (rintro v2 μ2 ⟨⟩ hle2 rfl); (dsimp only [List.cons_append, List.nil_append])) | (refine CF 24 ?_; (with_reducible apply g_enter_pan 0); exact rfl; ((with_reducible apply e_call2); kernel_rfl; exact rfl; exact rfl); exact rfl; (exact fun w hw _ => must_errb (decide_eq_false (fun h => hne (ofB_inj h))) _ w _ hw)) | refine KI ?_ | ((refine KB ?_ ?_ <;> intro hp)) | refine KG ?_ | fail)
    refine gq_sel (l' := []) (L' := rdB rb (s, line, u)) PU PS ?_
    exact gq_panB (Ls := fun i : List UInt8 × List UInt8 => rdB rb (i.1, line, i.2)) 1 (s, u) hcnt rfl rfl
end Go.Proofs.YtmihpkdhfomcgaaGreatDoor
namespace Go.Proofs.YtmihpkdhfomcgaaGreatDoor
open Go.RowKit Go.Vcg Ou
def keyR (k : KeyP) : Bool :=
  if k.kind = 0 then decide (k.s = ⟨#[]⟩) && (decide (0 ≤ k.n) && decide (k.n ≤ 4294967294))
  else if k.kind = 1 then decide (k.n = 0) && (decide (k.s.size ≤ 65536) && !(idxF (bl k.s)).2)
  else if k.kind = 2 then decide (k.s = ⟨#[]⟩) && decide (1 ≤ k.n) else false
abbrev encK (k : KeyP) : List Value := [.int .i64 k.kind, .int .i64 k.n, .string k.s]
attribute [local irreducible] G GC GQ GA GAop Calls IntKind.wrap Int.decLt Int.decLe idxF
theorem keyRight_spec (k : KeyP) (hs : k.s.size ≤ 9223372036854775807) (w : World) (μ : Mem) (hμ : MOk μ w) :
    Calls Tryz.prog 38 #[.agg (encK k).toArray] w fun e w' => e = .returned (.bool (keyR k)) ∧ Below w.heap.size w w' := by
  refine call_intro (args := [.agg (encK k).toArray]) Tryz.func38 rfl Tryz.ntmps38 (by simp) hμ ?_
  have hix := fun (w : World) (μ : Mem) (hμ : MOk μ w) => index_spec w μ hμ k.s hs
  by_cases h0 : k.kind = 0
  · rw [show keyR k = (decide (k.s = ⟨#[]⟩) && (decide (0 ≤ k.n) && decide (k.n ≤ 4294967294))) by unfold keyR; rw [if_pos h0]]
    by_cases c1 : k.s = ⟨#[]⟩ <;> by_cases c2 : 0 ≤ k.n
    all_goals repeat' (first | refine KK ?_ | refine NB fun b => ?_ | ((refine KB ?_ ?_ <;> intro hp)) | refine KG ?_ | fail)
    all_goals first | (exfalso; omega) | exact absurd c1 ‹_› | exact absurd ‹_› c1 | (refine ret_s rfl rfl ?_; simp [c1, c2]; done) | (refine ret_s rfl rfl ?_; simp [c1]; omega)
  by_cases h1 : k.kind = 1
  · rw [show keyR k = (decide (k.n = 0) && (decide (k.s.size ≤ 65536) && !(idxF (bl k.s)).2)) by unfold keyR; rw [if_neg h0, if_pos h1]]
    generalize (idxF (bl k.s)).2 = ix at hix
    by_cases c1 : k.n = 0 <;> by_cases c2 : k.s.size ≤ 65536
    all_goals cases ix
    all_goals repeat' (first | refine KO ?_ | ((with_reducible apply F1 58); exact rfl; exact EN; (exact fun w μc hw hse => hix w μc hw)) | refine KI ?_ | refine NB fun b => ?_ | ((refine KB ?_ ?_ <;> intro hp)) | refine KG ?_ | fail)
    all_goals first | (exfalso; omega) | (refine ret_s rfl rfl ?_; simp [c1, c2]; done)
  by_cases h2 : k.kind = 2
  · rw [show keyR k = (decide (k.s = ⟨#[]⟩) && decide (1 ≤ k.n)) by unfold keyR; rw [if_neg h0, if_neg h1, if_pos h2]]
    by_cases c1 : k.s = ⟨#[]⟩ <;> by_cases c2 : 1 ≤ k.n
    all_goals repeat' (first | refine KK ?_ | refine NB fun b => ?_ | ((refine KB ?_ ?_ <;> intro hp)) | refine KG ?_ | fail)
    all_goals first | (exfalso; omega) | exact absurd c1 ‹_› | exact absurd ‹_› c1 | (refine ret_s rfl rfl ?_; simp [c1, c2]; done)
  · rw [show keyR k = false by unfold keyR; rw [if_neg h0, if_neg h1, if_neg h2]]
    repeat' (first | refine KK ?_ | refine NB fun b => ?_ | ((refine KB ?_ ?_ <;> intro hp)) | refine KG ?_ | fail)
    all_goals first | (exfalso; omega) | exact ret_s rfl rfl rfl
theorem number_at {d : List UInt8} {n : Int} (h : numB d = some n) (hs : d.length ≤ 1000000) (w : World) (μ : Mem) (hμ : MOk μ w) (hT : TabOk μ) :
    Calls Tryz.prog 27 #[.string (ofB d)] w fun en w' => en = .returned (.int .i64 n) ∧ Below w.heap.size w w' :=
  number_ok (by rw [ofB_size]; exact hs) (by rw [byS_ofB]; exact h) w μ hμ hT
theorem number_no {d : List UInt8} (h : numB d = none) (hs : d.length ≤ 1000000) (w : World) (μ : Mem) (hμ : MOk μ w) (hT : TabOk μ) :
    Calls Tryz.prog 27 #[.string (ofB d)] w fun en w' => en = .panicked (pan (failO 7)) ∧ GrowM [] w w' μ μ :=
  number_err (by rw [ofB_size]; exact hs) (by rw [byS_ofB]; exact h) w μ hμ hT
theorem pre_at (l : List UInt8) (hs : l.length ≤ 1000000) (w : World) (μ : Mem) (hμ : MOk μ w) :
    Calls Tryz.prog 68 #[.string (ofB l), .string ⟨#[32]⟩] w fun e w' => e = .returned (.bool (decide (l.head? = some 32))) ∧ Below w.heap.size w w' := by
  have := hasPrefix_spec (ofB l) ⟨#[32]⟩ (by rw [ofB_size]; omega) (by decide) w μ hμ
  rw [bl_ofB] at this
  have he : decide (l.take (ByteArray.size ⟨#[32]⟩) = bl ⟨#[32]⟩) = decide (l.head? = some 32) := by
    rw [Bool.eq_iff_iff, decide_eq_true_eq, decide_eq_true_eq]
    show l.take 1 = [32] ↔ _
    cases l <;> simp
  rw [he] at this
  exact this
theorem len_cut1 {c : UInt8} {l a b : List UInt8} (h : Ou.cutB c l = some (a, b)) : a.length + b.length + 1 = l.length := by
  rw [(cutB_some h).1, List.length_append, List.length_cons]; omega
theorem len_quoted {l t u : List UInt8} (h : quotedB l = some (t, u)) : u.length ≤ l.length ∧ t.length ≤ 65536 := ⟨(readL_suf (quotedB_ok h).1).2, (quotedB_ok h).2.2⟩
theorem key_cases {R : KeyP → Bool} {rest u : List UInt8} {k : KeyP} (h : keyRd R rest = some (k, u)) : ∃ w u1, Ou.cutB 32 rest = some (w, u1) ∧ R k = true ∧
    ((w = [105, 110, 100, 101, 120] ∧ ∃ d n, Ou.cutB 32 u1 = some (d, u) ∧ numB d = some n ∧ k = ⟨0, n, ⟨#[]⟩⟩) ∨ (w = [116, 101, 120, 116] ∧ ∃ t, quotedB u1 = some (t, 32 :: u) ∧ k = ⟨1, 0, ofB t⟩) ∨
     (w = [115, 121, 109, 98, 111, 108] ∧ ∃ d n, Ou.cutB 32 u1 = some (d, u) ∧ numB d = some n ∧ k = ⟨2, n, ⟨#[]⟩⟩)) := by
  unfold keyRd at h
  split at h
  · cases h
  rename_i x u1 hc
  split at h
  · rename_i k' v hk
    split at h
    · rename_i hR
      cases h
      refine ⟨x, u1, hc, hR, ?_⟩
      unfold Ou.keyOf at hk
      split at hk
      · rename_i hx
        split at hk
        · cases hk
        rename_i d v2 hc2
        cases hn : numB d with
        | none => rw [hn] at hk; cases hk
        | some n =>
          rw [hn] at hk
          cases hk
          exact .inl ⟨hx, d, n, hc2, hn, rfl⟩
      split at hk
      · rename_i hx
        split at hk
        · rename_i t c v2 hq
          split at hk
          · rename_i h32
            cases hk
            exact .inr (.inl ⟨hx, t, by rw [← h32]; exact hq, rfl⟩)
          · cases hk
        · cases hk
      split at hk
      · rename_i hx
        split at hk
        · cases hk
        rename_i d v2 hc2
        cases hn : numB d with
        | none => rw [hn] at hk; cases hk
        | some n =>
          rw [hn] at hk
          cases hk
          exact .inr (.inr ⟨hx, d, n, hc2, hn, rfl⟩)
      · cases hk
    · cases h
  · cases h
theorem key_ok {k : KeyP} {u : List UInt8} (rb : Nat) (s rest : List UInt8) (line : Int) (h : keyRd keyR rest = some (k, u)) (hs : s.length ≤ 100000) (hr : rest.length ≤ 100000) (hl : 0 ≤ line ∧ line ≤ 100000) (w : World) (μ : Mem) (hμ : MOk μ w) (hm : MaxOk μ) (hT : TabOk μ) (hO : Go.Vcg.Own μ (rdB rb (s, line, rest)) w) :
    Calls Tryz.prog 50 #[.pointer (some ⟨rb, 0, none⟩)] w (RdK (idsOf (rdB rb (s, line, rest))) w μ rb (s, line, u) fun v => v = .agg (encK k).toArray) := by
  obtain ⟨x, u1, hc, hR, hk⟩ := key_cases h
  have hl1 := len_cut1 hc
  have hr1 : u1.length ≤ 100000 := by omega
  have hcnt := ids_count hO.diff
  refine call_introM (args := [.pointer (some ⟨rb, 0, none⟩)]) Tryz.func50 rfl Tryz.ntmps50 (by simp) hμ hO ?_
  show GC _ _ _ _ _ _ [.inl ⟨rb, 35, 3, [(0, .string (ofB s)), (1, .int .i64 line), (2, .string (ofB rest))]⟩]
  repeat' (first | ((with_reducible show GC _ _ (Code.seq (Code.region 1 _ _) _) _ _ _ _); (apply gc_stop)) | refine KK ?_ | refine NB fun b => ?_ | ((refine KB ?_ ?_ <;> intro hp)) | refine KG ?_ | fail)
  obtain ⟨bq, hbq⟩ : ∃ x, x = b := ⟨_, rfl⟩
  rw [← hbq]
  clear hbq
  refine gcs ?_
  repeat' (first | ((with_reducible show GC _ _ (Code.seq (Code.region 2 _ _) _) _ _ _ _); (apply gc_stop)) | refine KK ?_ | refine NB fun b => ?_ | ((refine KB ?_ ?_ <;> intro hp)) | refine KG ?_ | fail)
  obtain ⟨bk, hbk⟩ : ∃ x, x = b := ⟨_, rfl⟩
  rw [← hbk]
  clear hbk
  refine gcs ?_
  rcases hk with ⟨hx, d, n, hc2, hn, hkk⟩ | ⟨hx, t, hq, hkk⟩ | ⟨hx, d, n, hc2, hn, hkk⟩
  · have hl2 := len_cut1 hc2
    subst hx
    subst hkk
    repeat' (first | refine KO ?_ | (refine CF 22 ?_; (first | ((with_reducible apply g_enter_bor 1); exact rfl; exact rfl; exact rfl; ((with_reducible apply e_call1); kernel_rfl; exact rfl); exact rfl; (first | exact fun w hw hO => word_ok rb s rest line hc hs hr hl w _ hw hm hO | exact fun w hw hO => word_ok rb s u1 line hc2 hs hr1 hl w _ hw hm hO); (rintro v2 μ2 ⟨⟩ hle2 rfl); (dsimp only [List.cons_append, List.nil_append]); refine g_forget hcnt hle2 rfl ?_) | ((with_reducible apply g_pull_1); (with_reducible apply g_enter_bor 1); exact rfl; exact rfl; exact rfl; ((with_reducible apply e_call1); kernel_rfl; exact rfl); exact rfl; (first | exact fun w hw hO => word_ok rb s rest line hc hs hr hl w _ hw hm hO | exact fun w hw hO => word_ok rb s u1 line hc2 hs hr1 hl w _ hw hm hO); (rintro v2 μ2 ⟨⟩ hle2 rfl); (dsimp only [List.cons_append, List.nil_append]); refine g_forget hcnt hle2 rfl ?_) | ((with_reducible apply g_pull_2); (with_reducible apply g_enter_bor 1); exact rfl; exact rfl; exact rfl; ((with_reducible apply e_call1); kernel_rfl; exact rfl); exact rfl; (first | exact fun w hw hO => word_ok rb s rest line hc hs hr hl w _ hw hm hO | exact fun w hw hO => word_ok rb s u1 line hc2 hs hr1 hl w _ hw hm hO); (rintro v2 μ2 ⟨⟩ hle2 rfl); (dsimp only [List.cons_append, List.nil_append]); refine g_forget hcnt hle2 rfl ?_) | ((with_reducible apply g_pull_3); (with_reducible apply g_enter_bor 1); exact rfl; exact rfl; exact rfl; ((with_reducible apply e_call1); kernel_rfl; exact rfl); exact rfl; (first | exact fun w hw hO => word_ok rb s rest line hc hs hr hl w _ hw hm hO | exact fun w hw hO => word_ok rb s u1 line hc2 hs hr1 hl w _ hw hm hO); (rintro v2 μ2 ⟨⟩ hle2 rfl); (dsimp only [List.cons_append, List.nil_append]); refine g_forget hcnt hle2 rfl ?_))) | ((with_reducible apply F1 27); exact rfl; exact EN; (exact fun w μc hw hse => number_at hn (by omega) w μc hw (hT.mono hse.le))) | ((with_reducible apply F1 38); exact rfl; exact EN; (first | (exact fun w μc hw hse => keyRight_spec ⟨0, n, ⟨#[]⟩⟩ (by show 0 ≤ _; omega) w μc hw) | (exact fun w μc hw hse => keyRight_spec ⟨2, n, ⟨#[]⟩⟩ (by show 0 ≤ _; omega) w μc hw) | (exact fun w μc hw hse => keyRight_spec ⟨1, 0, ofB t⟩ (by show (ofB t).size ≤ _; rw [ofB_size]; omega) w μc hw))) | ((with_reducible apply F1 24); exact rfl; exact EN; (first | (exact fun w μc hw hse => must_okb hR _ w μc hw))) | refine KI ?_ | refine NB fun b => ?_ | ((refine KB ?_ ?_ <;> intro hp)) | refine KG ?_ | fail)
    refine gq_sel (l' := [(2, .pointer (some ⟨bq, 0, none⟩))]) (L' := rdB rb (s, line, u) ++ [.inl ⟨bq, 41, 3, idx 0 (encK ⟨0, n, ⟨#[]⟩⟩)⟩]) PU PS ?_
    exact ret_bor (Post := fun _ r _ => r = .agg (encK ⟨0, n, ⟨#[]⟩⟩).toArray) (Ls := fun _ : Unit => rdB rb (s, line, u)) 1 () hcnt rfl (rv_agg 1 rfl rfl rfl rfl rfl (by repeat first | exact lc_nil | refine lc_cons rfl ?_)) rfl rfl (fun _ _ => rfl)
  · have hl2 := len_quoted hq
    subst hx
    subst hkk
    have hpre : (32 :: u : List UInt8).head? = some 32 := rfl
    have hext : (ofB (32 :: u)).extract 1 (ofB (32 :: u)).size = ofB u := by rw [ext_drop]; rfl
    have hsz := ofB_size (32 :: u)
    have hlu : (32 :: u : List UInt8).length = u.length + 1 := rfl
    repeat' (first | refine KO ?_ | (refine CF 22 ?_; (first | ((with_reducible apply g_enter_bor 1); exact rfl; exact rfl; exact rfl; ((with_reducible apply e_call1); kernel_rfl; exact rfl); exact rfl; (first | exact fun w hw hO => word_ok rb s rest line hc hs hr hl w _ hw hm hO | exact fun w hw hO => word_ok rb s u1 line hc2 hs hr1 hl w _ hw hm hO); (rintro v2 μ2 ⟨⟩ hle2 rfl); (dsimp only [List.cons_append, List.nil_append]); refine g_forget hcnt hle2 rfl ?_) | ((with_reducible apply g_pull_1); (with_reducible apply g_enter_bor 1); exact rfl; exact rfl; exact rfl; ((with_reducible apply e_call1); kernel_rfl; exact rfl); exact rfl; (first | exact fun w hw hO => word_ok rb s rest line hc hs hr hl w _ hw hm hO | exact fun w hw hO => word_ok rb s u1 line hc2 hs hr1 hl w _ hw hm hO); (rintro v2 μ2 ⟨⟩ hle2 rfl); (dsimp only [List.cons_append, List.nil_append]); refine g_forget hcnt hle2 rfl ?_) | ((with_reducible apply g_pull_2); (with_reducible apply g_enter_bor 1); exact rfl; exact rfl; exact rfl; ((with_reducible apply e_call1); kernel_rfl; exact rfl); exact rfl; (first | exact fun w hw hO => word_ok rb s rest line hc hs hr hl w _ hw hm hO | exact fun w hw hO => word_ok rb s u1 line hc2 hs hr1 hl w _ hw hm hO); (rintro v2 μ2 ⟨⟩ hle2 rfl); (dsimp only [List.cons_append, List.nil_append]); refine g_forget hcnt hle2 rfl ?_) | ((with_reducible apply g_pull_3); (with_reducible apply g_enter_bor 1); exact rfl; exact rfl; exact rfl; ((with_reducible apply e_call1); kernel_rfl; exact rfl); exact rfl; (first | exact fun w hw hO => word_ok rb s rest line hc hs hr hl w _ hw hm hO | exact fun w hw hO => word_ok rb s u1 line hc2 hs hr1 hl w _ hw hm hO); (rintro v2 μ2 ⟨⟩ hle2 rfl); (dsimp only [List.cons_append, List.nil_append]); refine g_forget hcnt hle2 rfl ?_))) | (refine CF 48 ?_; (first | ((with_reducible apply g_enter_bor 1); exact rfl; exact rfl; exact rfl; ((with_reducible apply e_call1); kernel_rfl; exact rfl); exact rfl; (first | exact fun w hw hO => quoted_ok rb s u1 line hq hs hr1 hl w _ hw hm hO); (rintro v2 μ2 ⟨⟩ hle2 rfl); (dsimp only [List.cons_append, List.nil_append]); refine g_forget hcnt hle2 rfl ?_) | ((with_reducible apply g_pull_1); (with_reducible apply g_enter_bor 1); exact rfl; exact rfl; exact rfl; ((with_reducible apply e_call1); kernel_rfl; exact rfl); exact rfl; (first | exact fun w hw hO => quoted_ok rb s u1 line hq hs hr1 hl w _ hw hm hO); (rintro v2 μ2 ⟨⟩ hle2 rfl); (dsimp only [List.cons_append, List.nil_append]); refine g_forget hcnt hle2 rfl ?_) | ((with_reducible apply g_pull_2); (with_reducible apply g_enter_bor 1); exact rfl; exact rfl; exact rfl; ((with_reducible apply e_call1); kernel_rfl; exact rfl); exact rfl; (first | exact fun w hw hO => quoted_ok rb s u1 line hq hs hr1 hl w _ hw hm hO); (rintro v2 μ2 ⟨⟩ hle2 rfl); (dsimp only [List.cons_append, List.nil_append]); refine g_forget hcnt hle2 rfl ?_) | ((with_reducible apply g_pull_3); (with_reducible apply g_enter_bor 1); exact rfl; exact rfl; exact rfl; ((with_reducible apply e_call1); kernel_rfl; exact rfl); exact rfl; (first | exact fun w hw hO => quoted_ok rb s u1 line hq hs hr1 hl w _ hw hm hO); (rintro v2 μ2 ⟨⟩ hle2 rfl); (dsimp only [List.cons_append, List.nil_append]); refine g_forget hcnt hle2 rfl ?_))) | ((with_reducible apply F1 68); exact rfl; exact EN; (exact fun w μc hw hse => pre_at (32 :: u) (by omega) w μc hw)) | ((with_reducible apply F1 38); exact rfl; exact EN; (first | (exact fun w μc hw hse => keyRight_spec ⟨0, n, ⟨#[]⟩⟩ (by show 0 ≤ _; omega) w μc hw) | (exact fun w μc hw hse => keyRight_spec ⟨2, n, ⟨#[]⟩⟩ (by show 0 ≤ _; omega) w μc hw) | (exact fun w μc hw hse => keyRight_spec ⟨1, 0, ofB t⟩ (by show (ofB t).size ≤ _; rw [ofB_size]; omega) w μc hw))) | ((with_reducible apply F1 24); exact rfl; exact EN; (first | (exact fun w μc hw hse => must_okb hR _ w μc hw) | (exact fun w μc hw hse => must_okb (decide_eq_true hpre) _ w μc hw))) | (refine KV (b := by first | ((with_reducible apply v_str_lo 1); exact rfl; exact rfl; exact rfl; exact rfl; omega)) (c := ?_)) | refine KI ?_ | refine NB fun b => ?_ | ((refine KB ?_ ?_ <;> intro hp)) | refine KG ?_ | fail)
    rw [hext]
    refine gq_sel (l' := [(2, .pointer (some ⟨bq, 0, none⟩))]) (L' := rdB rb (s, line, u) ++ [.inl ⟨bq, 41, 3, idx 0 (encK ⟨1, 0, ofB t⟩)⟩]) PU PS ?_
    exact ret_bor (Post := fun _ r _ => r = .agg (encK ⟨1, 0, ofB t⟩).toArray) (Ls := fun _ : Unit => rdB rb (s, line, u)) 1 () hcnt rfl (rv_agg 1 rfl rfl rfl rfl rfl (by repeat first | exact lc_nil | refine lc_cons rfl ?_)) rfl rfl (fun _ _ => rfl)
  · have hl2 := len_cut1 hc2
    subst hx
    subst hkk
    repeat' (first | refine KO ?_ | (refine CF 22 ?_; (first | ((with_reducible apply g_enter_bor 1); exact rfl; exact rfl; exact rfl; ((with_reducible apply e_call1); kernel_rfl; exact rfl); exact rfl; (first | exact fun w hw hO => word_ok rb s rest line hc hs hr hl w _ hw hm hO | exact fun w hw hO => word_ok rb s u1 line hc2 hs hr1 hl w _ hw hm hO); (rintro v2 μ2 ⟨⟩ hle2 rfl); (dsimp only [List.cons_append, List.nil_append]); refine g_forget hcnt hle2 rfl ?_) | ((with_reducible apply g_pull_1); (with_reducible apply g_enter_bor 1); exact rfl; exact rfl; exact rfl; ((with_reducible apply e_call1); kernel_rfl; exact rfl); exact rfl; (first | exact fun w hw hO => word_ok rb s rest line hc hs hr hl w _ hw hm hO | exact fun w hw hO => word_ok rb s u1 line hc2 hs hr1 hl w _ hw hm hO); (rintro v2 μ2 ⟨⟩ hle2 rfl); (dsimp only [List.cons_append, List.nil_append]); refine g_forget hcnt hle2 rfl ?_) | ((with_reducible apply g_pull_2); (with_reducible apply g_enter_bor 1); exact rfl; exact rfl; exact rfl; ((with_reducible apply e_call1); kernel_rfl; exact rfl); exact rfl; (first | exact fun w hw hO => word_ok rb s rest line hc hs hr hl w _ hw hm hO | exact fun w hw hO => word_ok rb s u1 line hc2 hs hr1 hl w _ hw hm hO); (rintro v2 μ2 ⟨⟩ hle2 rfl); (dsimp only [List.cons_append, List.nil_append]); refine g_forget hcnt hle2 rfl ?_) | ((with_reducible apply g_pull_3); (with_reducible apply g_enter_bor 1); exact rfl; exact rfl; exact rfl; ((with_reducible apply e_call1); kernel_rfl; exact rfl); exact rfl; (first | exact fun w hw hO => word_ok rb s rest line hc hs hr hl w _ hw hm hO | exact fun w hw hO => word_ok rb s u1 line hc2 hs hr1 hl w _ hw hm hO); (rintro v2 μ2 ⟨⟩ hle2 rfl); (dsimp only [List.cons_append, List.nil_append]); refine g_forget hcnt hle2 rfl ?_))) | ((with_reducible apply F1 27); exact rfl; exact EN; (exact fun w μc hw hse => number_at hn (by omega) w μc hw (hT.mono hse.le))) | ((with_reducible apply F1 38); exact rfl; exact EN; (first | (exact fun w μc hw hse => keyRight_spec ⟨0, n, ⟨#[]⟩⟩ (by show 0 ≤ _; omega) w μc hw) | (exact fun w μc hw hse => keyRight_spec ⟨2, n, ⟨#[]⟩⟩ (by show 0 ≤ _; omega) w μc hw) | (exact fun w μc hw hse => keyRight_spec ⟨1, 0, ofB t⟩ (by show (ofB t).size ≤ _; rw [ofB_size]; omega) w μc hw))) | ((with_reducible apply F1 24); exact rfl; exact EN; (first | (exact fun w μc hw hse => must_okb hR _ w μc hw))) | refine KI ?_ | refine NB fun b => ?_ | ((refine KB ?_ ?_ <;> intro hp)) | refine KG ?_ | fail)
    refine gq_sel (l' := [(2, .pointer (some ⟨bq, 0, none⟩))]) (L' := rdB rb (s, line, u) ++ [.inl ⟨bq, 41, 3, idx 0 (encK ⟨2, n, ⟨#[]⟩⟩)⟩]) PU PS ?_
    exact ret_bor (Post := fun _ r _ => r = .agg (encK ⟨2, n, ⟨#[]⟩⟩).toArray) (Ls := fun _ : Unit => rdB rb (s, line, u)) 1 () hcnt rfl (rv_agg 1 rfl rfl rfl rfl rfl (by repeat first | exact lc_nil | refine lc_cons rfl ?_)) rfl rfl (fun _ _ => rfl)
end Go.Proofs.YtmihpkdhfomcgaaGreatDoor
