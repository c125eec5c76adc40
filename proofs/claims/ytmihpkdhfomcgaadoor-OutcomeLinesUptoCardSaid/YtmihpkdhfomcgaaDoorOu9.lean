/- Package literal: a string literal is read: Read. No statement of the seat is proved here. -/
import Derived.Test.YtmihpkdhfomcgaaDoorOu7
import Derived.Test.YtmihpkdhfomcgaaDoorSt
set_option maxRecDepth 20000
set_option maxHeartbeats 2000000
namespace Go.Proofs.YtmihpkdhfomcgaaDoor
open Go.RowKit Go.Vcg Ou
open Go.Lib (byteCells)
theorem hex2_len {l : List UInt8} {b : UInt8} {u : List UInt8} (h : hex2 l = .ok (b, u)) : u.length ≤ l.length := by
  unfold hex2 at h
  repeat' split at h
  all_goals first | cases h | skip
  all_goals (simp; omega)
theorem escB_len {l : List UInt8} {b : UInt8} {u : List UInt8} (h : escB l = .ok (b, u)) : u.length ≤ l.length := by
  unfold escB at h
  split at h
  · cases h
  repeat' split at h
  all_goals first | (cases h; done) | (cases h; simp; done) | (have := hex2_len h; simp; omega)
theorem oneB_len {c : UInt8} {l : List UInt8} {b : UInt8} {u : List UInt8} (h : oneB c l = .ok (b, u)) : u.length ≤ l.length := by
  unfold oneB at h
  split at h
  · exact escB_len h
  · cases h; exact Nat.le_refl _
theorem hex2_suf {l : List UInt8} {b : UInt8} {u : List UInt8} (h : hex2 l = .ok (b, u)) : ∃ n, u = l.drop n := by
  unfold hex2 at h
  repeat' split at h
  all_goals first | (cases h; done) | skip
  all_goals (cases h; exact ⟨2, rfl⟩)
theorem oneB_suf {c : UInt8} {l : List UInt8} {b : UInt8} {u : List UInt8} (h : oneB c l = .ok (b, u)) : ∃ n, u = l.drop n := by
  unfold oneB at h
  split at h
  · unfold escB at h
    split at h
    · cases h
    repeat' split at h
    all_goals first | (cases h; done) | (cases h; exact ⟨1, rfl⟩) | (obtain ⟨n, hn⟩ := hex2_suf h; exact ⟨n + 1, hn⟩)
  · cases h; exact ⟨0, rfl⟩
theorem hex2_err {l : List UInt8} {e : Int} (h : hex2 l = .error e) : ¬ e = 0 := by
  unfold hex2 at h
  repeat' split at h
  all_goals (cases h; try decide)
theorem oneB_err {c : UInt8} {l : List UInt8} {e : Int} (h : oneB c l = .error e) : ¬ e = 0 := by
  unfold oneB at h
  split at h
  · unfold escB at h
    split at h
    · cases h; decide
    repeat' split at h
    all_goals first | exact hex2_err h | (cases h; try decide)
  · cases h
theorem litB_fuel (q : UInt8) : ∀ (f f' : Nat) (l out : List UInt8), l.length < f → l.length < f' → litB q f l out = litB q f' l out
  | 0, _, _, _, h, _ => by omega
  | _, 0, _, _, _, h => by omega
  | f + 1, f' + 1, [], out, _, _ => rfl
  | f + 1, f' + 1, c :: r, out, h, h' => by
    rw [List.length_cons] at h h'
    unfold litB
    split
    · rfl
    split
    · rfl
    split
    · rfl
    · rename_i b u hu
      have := oneB_len hu
      split
      · rfl
      · exact litB_fuel q f f' u _ (by omega) (by omega)
def readV (n : Nat) (r : Except Int (List UInt8 × List UInt8)) : List Value := match r with
  | .ok (t, u) => [.string (ofB t), .int .i64 ((n - u.length : Nat) : Int), .int .i64 0]
  | .error e => [.string ⟨#[]⟩, .int .i64 0, .int .i64 e]
attribute [local irreducible] G GC GQ GA GAop Calls IntKind.wrap Int.decLt Int.decLe
theorem lread_spec (s : ByteArray) (hs : s.size ≤ 1000000) (w : World) (μ : Mem) (hμ : MOk μ w) :
    Calls Tryd.prog 50 #[.string s, .int .i64 0] w fun e w' => e = .returned (.tuple (readV s.size (readL (bl s))).toArray) ∧ Below w.heap.size w w' := by
  refine call_intro (args := [.string s, .int .i64 0]) Tryd.func50 rfl Tryd.ntmps50 (by simp) hμ ?_
  by_cases h0 : 0 < s.size
  · obtain ⟨q, hq1, hq2⟩ := bl_at h0
    have hl : bl s = q :: (bl s).drop 1 := by have := drop_c hq1; rwa [List.drop_zero] at this
    by_cases hq : q.toNat = 34 ∨ q.toNat = 39
    · have hq' : q = 34 ∨ q = 39 := hq.imp (fun h => UInt8.toNat_inj.1 h) (fun h => UInt8.toNat_inj.1 h)
      obtain ⟨res, hres⟩ : ∃ res, readL (bl s) = res := ⟨_, rfl⟩
      rw [hres]
      rw [hl] at hres
      unfold readL at hres
      dsimp only at hres
      rw [if_pos hq'] at hres
      rw [litB_fuel q _ (((bl s).drop 1).length + 1) _ _ (Nat.lt_succ_self _) (Nat.lt_succ_self _)] at hres
      rcases hq with hq | hq
      all_goals
        repeat' (first | refine KO ?_ | (refine KV (b := by first | exact U2 0) (c := ?_)) | refine KI ?_ | refine NB fun b => ?_ | ((refine KB ?_ ?_ <;> intro hp)) | refine KG ?_ | fail)
        refine gc_nilR 5 1 ?_
        refine gc_loop (ι := Nat × List UInt8 × Value) (fun i => 1 ≤ i.1 ∧ i.1 ≤ s.size ∧ i.2.1.length ≤ 65536 ∧ litB q (((bl s).drop i.1).length + 1) ((bl s).drop i.1) i.2.1 = res) (fun i => s.size - i.1) (fun _ => μ)
          (fun i => [(0, .string s), (1, .int .i64 0), (7, i.2.2), (8, .int .i64 i.1)]) (fun i => [.inr ⟨i.2.2, 5, 1, i.2.1.length, byteCells i.2.1⟩]) (1, [], .slice none 0 0) ⟨Nat.le_refl _, h0, by simp, hres⟩ (fun a w hs => J5 hs) ?_
        rintro ⟨i, out, v⟩ ⟨h1, h2, h3, hrun⟩
        dsimp only at h1 h2 h3 hrun ⊢
        by_cases hlt : i < s.size
        · obtain ⟨c, hb1, hb2⟩ := bl_at hlt
          have hone := fun (w : World) (μ : Mem) (hμ : MOk μ w) => lone_spec s hs i c hlt hb1 hb2 w μ hμ
          have hdl := drop_n s (i + 1)
          rw [drop_c hb1, litB] at hrun
          refine gc_rowOk 0 rfl ?_
          rintro A cap rfl hok
          repeat' (first | refine KK ?_ | refine NB fun b => ?_ | ((refine KB ?_ ?_ <;> intro hp)) | refine KG ?_ | fail)
          refine gc_draw 7 _ (by kernel_rfl) rfl (List.Sublist.cons_cons _ (List.nil_sublist _)) ?_
          all_goals refine DD 0 ?_
          all_goals refine DD 1 ?_
          all_goals (first | refine D1 2 ?_ | (refine DV (k := 2) (b := by first | exact U2 i | exact U2 0) (c := ?_)) | refine DD 2 ?_ | fail)
          all_goals refine DD 3 ?_
          all_goals refine DD 4 ?_
          all_goals (first | refine D1 5 ?_ | (refine DV (k := 5) (b := by first | exact U2 i | exact U2 0) (c := ?_)) | refine DD 5 ?_ | fail)
          all_goals (first | refine D1 6 ?_ | (refine DV (k := 6) (b := by first | exact U2 i | exact U2 0) (c := ?_)) | refine DD 6 ?_ | fail)
          all_goals refine D8 ?_
          by_cases hcq : c.toNat = q.toNat
          · have hcq' : c = q := UInt8.toNat_inj.1 hcq
            rw [if_pos hcq'] at hrun
            subst hrun
            have hE : readV s.size (.ok (out, (bl s).drop (i + 1))) = [.string ⟨out.toArray⟩, .int .i64 ((i : Int) + 1), .int .i64 0] := by
              unfold readV
              dsimp only
              rw [hdl, show ((s.size - (s.size - (i + 1)) : Nat) : Int) = (i : Int) + 1 by omega]
              rfl
            rw [hE]
            repeat' (first | refine KO ?_ | (refine KV (b := by first | ((with_reducible apply v_rowstr 0); exact rfl; exact rfl; exact rfl; exact rfl; exact rfl)) (c := ?_)) | refine KI ?_ | refine NB fun b => ?_ | ((refine KB ?_ ?_ <;> intro hp)) | refine KG ?_ | fail)
            all_goals first | (exfalso; omega) | exact ret_vn rfl (by repeat first | exact rvs_nil | refine rvs_cons (by first | exact rv_tmp rfl | exact (rv_agg 0 rfl rfl rfl rfl rfl (by repeat first | exact lc_nil | refine lc_cons rfl ?_)) | exact (rv_agg 1 rfl rfl rfl rfl rfl (by repeat first | exact lc_nil | refine lc_cons rfl ?_)) | exact (rv_agg 2 rfl rfl rfl rfl rfl (by repeat first | exact lc_nil | refine lc_cons rfl ?_)) | exact (rv_agg 3 rfl rfl rfl rfl rfl (by repeat first | exact lc_nil | refine lc_cons rfl ?_))) ?_) rfl rfl
          · have hcq' : ¬ c = q := fun h => hcq (by rw [h])
            rw [if_neg hcq'] at hrun
            by_cases h10 : c.toNat = 10 ∨ c.toNat = 13
            · rw [if_pos (h10.imp (fun h => UInt8.toNat_inj.1 h) (fun h => UInt8.toNat_inj.1 h))] at hrun
              subst hrun
              unfold readV
              dsimp only
              rcases h10 with h10 | h10
              all_goals repeat' (first | refine KO ?_ | (refine KV (b := by first | exact U2 i) (c := ?_)) | refine KI ?_ | refine NB fun b => ?_ | ((refine KB ?_ ?_ <;> intro hp)) | refine KG ?_ | fail)
              all_goals first | (exfalso; omega) | exact ret_vn rfl (by repeat first | exact rvs_nil | refine rvs_cons (by first | exact rv_tmp rfl | exact (rv_agg 0 rfl rfl rfl rfl rfl (by repeat first | exact lc_nil | refine lc_cons rfl ?_)) | exact (rv_agg 1 rfl rfl rfl rfl rfl (by repeat first | exact lc_nil | refine lc_cons rfl ?_)) | exact (rv_agg 2 rfl rfl rfl rfl rfl (by repeat first | exact lc_nil | refine lc_cons rfl ?_)) | exact (rv_agg 3 rfl rfl rfl rfl rfl (by repeat first | exact lc_nil | refine lc_cons rfl ?_))) ?_) rfl rfl
            · rw [if_neg (fun h => h10 (h.imp (fun h => by rw [h]; rfl) (fun h => by rw [h]; rfl)))] at hrun
              cases ho : oneB c ((bl s).drop (i + 1)) with
              | error e =>
                have he := oneB_err ho
                rw [ho] at hrun hone
                dsimp only at hrun
                subst hrun
                unfold oneV at hone
                dsimp only at hone
                unfold readV
                dsimp only
                repeat' (first | refine KO ?_ | ((with_reducible apply F1 58); exact rfl; exact EN; (exact fun w μc hw hse => hone w μc hw)) | (refine KV (b := by first | exact U2 i) (c := ?_)) | refine KI ?_ | refine NB fun b => ?_ | ((refine KB ?_ ?_ <;> intro hp)) | refine KG ?_ | fail)
                all_goals first | (exfalso; omega) | exact ret_vn rfl (by repeat first | exact rvs_nil | refine rvs_cons (by first | exact rv_tmp rfl | exact (rv_agg 0 rfl rfl rfl rfl rfl (by repeat first | exact lc_nil | refine lc_cons rfl ?_)) | exact (rv_agg 1 rfl rfl rfl rfl rfl (by repeat first | exact lc_nil | refine lc_cons rfl ?_)) | exact (rv_agg 2 rfl rfl rfl rfl rfl (by repeat first | exact lc_nil | refine lc_cons rfl ?_)) | exact (rv_agg 3 rfl rfl rfl rfl rfl (by repeat first | exact lc_nil | refine lc_cons rfl ?_))) ?_) rfl rfl
              | ok p =>
                obtain ⟨b0, u0⟩ := p
                have hul := oneB_len ho
                rw [ho] at hrun hone
                dsimp only at hrun
                unfold oneV at hone
                dsimp only at hone
                by_cases hlong : 65536 < out.length + 1
                · rw [if_pos hlong] at hrun
                  subst hrun
                  unfold readV
                  dsimp only
                  repeat' (first | refine KO ?_ | ((with_reducible apply F1 58); exact rfl; exact EN; (exact fun w μc hw hse => hone w μc hw)) | (first | ((with_reducible apply g_ap); exact rfl; exact rfl; exact rfl; (repeat first | with_reducible exact rowup_hd | with_reducible apply rowup_tl); (iterate 6 exact rfl); (first | ((with_reducible apply src_in); exact rfl; (repeat first | with_reducible exact inb_hd | with_reducible apply inb_tl); exact rfl)); (first | exact rfl | omega | simp); (first | assumption | (exact ones_mem (by (repeat first | with_reducible exact ones_nil | ((with_reducible apply ones_cons); (first | exact rfl | assumption))))) | simp [Value.oneCell']); omega; omega; intro v; ((with_reducible apply g_rowSlice 1); exact rfl); (rintro A2 cap2 rfl)) | ((with_reducible apply g_append0); (iterate 9 exact rfl); (first | ((with_reducible apply src_in); exact rfl; (repeat first | with_reducible exact inb_hd | with_reducible apply inb_tl); exact rfl)); (first | exact rfl | omega | simp); (first | assumption | (exact ones_mem (by (repeat first | with_reducible exact ones_nil | ((with_reducible apply ones_cons); (first | exact rfl | assumption))))) | simp [Value.oneCell']); omega; omega; intro v; ((with_reducible apply g_rowSlice 1); exact rfl); (rintro A2 cap2 rfl))) | (refine KV (b := by first | exact U2 i) (c := ?_)) | refine KI ?_ | refine NB fun b => ?_ | ((refine KB ?_ ?_ <;> intro hp)) | refine KG ?_ | fail)
                  all_goals first | (exfalso; omega) | exact ret_vn rfl (by repeat first | exact rvs_nil | refine rvs_cons (by first | exact rv_tmp rfl | exact (rv_agg 0 rfl rfl rfl rfl rfl (by repeat first | exact lc_nil | refine lc_cons rfl ?_)) | exact (rv_agg 1 rfl rfl rfl rfl rfl (by repeat first | exact lc_nil | refine lc_cons rfl ?_)) | exact (rv_agg 2 rfl rfl rfl rfl rfl (by repeat first | exact lc_nil | refine lc_cons rfl ?_)) | exact (rv_agg 3 rfl rfl rfl rfl rfl (by repeat first | exact lc_nil | refine lc_cons rfl ?_))) ?_) rfl rfl
                · rw [if_neg hlong] at hrun
                  have hud : u0 = (bl s).drop (s.size - u0.length) := by
                    obtain ⟨n, hn⟩ := oneB_suf ho
                    rw [List.drop_drop] at hn
                    rw [hn, List.length_drop, bl_len]
                    by_cases hm : i + 1 + n ≤ s.size
                    · rw [show s.size - (s.size - (i + 1 + n)) = i + 1 + n by omega]
                    · rw [List.drop_eq_nil_of_le (by rw [bl_len]; omega), List.drop_eq_nil_of_le (by rw [bl_len]; omega)]
                  repeat' (first | refine KO ?_ | ((with_reducible apply F1 58); exact rfl; exact EN; (exact fun w μc hw hse => hone w μc hw)) | (first | ((with_reducible apply g_ap); exact rfl; exact rfl; exact rfl; (repeat first | with_reducible exact rowup_hd | with_reducible apply rowup_tl); (iterate 6 exact rfl); (first | ((with_reducible apply src_in); exact rfl; (repeat first | with_reducible exact inb_hd | with_reducible apply inb_tl); exact rfl)); (first | exact rfl | omega | simp); (first | assumption | (exact ones_mem (by (repeat first | with_reducible exact ones_nil | ((with_reducible apply ones_cons); (first | exact rfl | assumption))))) | simp [Value.oneCell']); omega; omega; intro v; ((with_reducible apply g_rowSlice 1); exact rfl); (rintro A2 cap2 rfl)) | ((with_reducible apply g_append0); (iterate 9 exact rfl); (first | ((with_reducible apply src_in); exact rfl; (repeat first | with_reducible exact inb_hd | with_reducible apply inb_tl); exact rfl)); (first | exact rfl | omega | simp); (first | assumption | (exact ones_mem (by (repeat first | with_reducible exact ones_nil | ((with_reducible apply ones_cons); (first | exact rfl | assumption))))) | simp [Value.oneCell']); omega; omega; intro v; ((with_reducible apply g_rowSlice 1); exact rfl); (rintro A2 cap2 rfl))) | (refine KV (b := by first | exact U2 i) (c := ?_)) | refine KI ?_ | refine NB fun b => ?_ | ((refine KB ?_ ?_ <;> intro hp)) | refine KG ?_ | fail)
                  all_goals try (exfalso; omega)
                  all_goals refine gq_rowEq (n' := (out ++ [b0]).length) (xs' := byteCells (out ++ [b0])) 1 rfl (by simp) (by rw [byteCells_app]; rfl) ?_
                  all_goals refine J2 (s.size - u0.length, out ++ [b0], .slice A2 (out.length + 1) cap2) ⟨by dsimp only; omega, by dsimp only; omega, by dsimp only; simp; omega, ?_⟩ (by dsimp only; omega)
                  all_goals
                    dsimp only
                    rw [← hud]
                    rw [litB_fuel q _ _ _ _ (Nat.lt_succ_self _) (show u0.length < ((bl s).drop (i + 1)).length + 1 by omega)]
                    exact hrun
        · have hi : (bl s).drop i = [] := List.drop_eq_nil_of_le (by rw [bl_len]; omega)
          rw [hi] at hrun
          have : res = .error 8 := hrun.symm
          subst this
          unfold readV
          dsimp only
          repeat' (first | refine KK ?_ | refine NB fun b => ?_ | ((refine KB ?_ ?_ <;> intro hp)) | refine KG ?_ | fail)
          all_goals first | (exfalso; omega) | exact ret_vn rfl (by repeat first | exact rvs_nil | refine rvs_cons (by first | exact rv_tmp rfl | exact (rv_agg 0 rfl rfl rfl rfl rfl (by repeat first | exact lc_nil | refine lc_cons rfl ?_)) | exact (rv_agg 1 rfl rfl rfl rfl rfl (by repeat first | exact lc_nil | refine lc_cons rfl ?_)) | exact (rv_agg 2 rfl rfl rfl rfl rfl (by repeat first | exact lc_nil | refine lc_cons rfl ?_)) | exact (rv_agg 3 rfl rfl rfl rfl rfl (by repeat first | exact lc_nil | refine lc_cons rfl ?_))) ?_) rfl rfl
    · have hE : readL (bl s) = .error 1 := by
        rw [hl]
        unfold readL
        dsimp only
        rw [if_neg (fun h => hq (h.imp (fun h => by rw [h]; rfl) (fun h => by rw [h]; rfl)))]
      rw [hE]
      unfold readV
      dsimp only
      repeat' (first | refine KO ?_ | (refine KV (b := by first | exact U2 0) (c := ?_)) | refine KI ?_ | refine NB fun b => ?_ | ((refine KB ?_ ?_ <;> intro hp)) | refine KG ?_ | fail)
      all_goals first | (exfalso; omega) | exact ret_vn rfl (by repeat first | exact rvs_nil | refine rvs_cons (by first | exact rv_tmp rfl | exact (rv_agg 0 rfl rfl rfl rfl rfl (by repeat first | exact lc_nil | refine lc_cons rfl ?_)) | exact (rv_agg 1 rfl rfl rfl rfl rfl (by repeat first | exact lc_nil | refine lc_cons rfl ?_)) | exact (rv_agg 2 rfl rfl rfl rfl rfl (by repeat first | exact lc_nil | refine lc_cons rfl ?_)) | exact (rv_agg 3 rfl rfl rfl rfl rfl (by repeat first | exact lc_nil | refine lc_cons rfl ?_))) ?_) rfl rfl
  · have hE : readL (bl s) = .error 1 := by
      have : bl s = [] := List.eq_nil_of_length_eq_zero (by rw [bl_len]; omega)
      rw [this]; rfl
    rw [hE]
    unfold readV
    dsimp only
    repeat' (first | refine KK ?_ | refine NB fun b => ?_ | ((refine KB ?_ ?_ <;> intro hp)) | refine KG ?_ | fail)
    all_goals first | (exfalso; omega) | exact ret_vn rfl (by repeat first | exact rvs_nil | refine rvs_cons (by first | exact rv_tmp rfl | exact (rv_agg 0 rfl rfl rfl rfl rfl (by repeat first | exact lc_nil | refine lc_cons rfl ?_)) | exact (rv_agg 1 rfl rfl rfl rfl rfl (by repeat first | exact lc_nil | refine lc_cons rfl ?_)) | exact (rv_agg 2 rfl rfl rfl rfl rfl (by repeat first | exact lc_nil | refine lc_cons rfl ?_)) | exact (rv_agg 3 rfl rfl rfl rfl rfl (by repeat first | exact lc_nil | refine lc_cons rfl ?_))) ?_) rfl rfl
end Go.Proofs.YtmihpkdhfomcgaaDoor
