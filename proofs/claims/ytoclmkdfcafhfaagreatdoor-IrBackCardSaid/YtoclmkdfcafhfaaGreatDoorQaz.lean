/- Package literal: a string literal is read: Read. -/
import Derived.Test.YtoclmkdfcafhfaaGreatDoorQay
import Derived.Shelf.Small.Strs
set_option maxRecDepth 20000
set_option maxHeartbeats 2000000
namespace Go.Proofs.YtoclmkdfcafhfaaGreatDoor
section
open Go.RowKit Go.Vcg Ou
open Go.Lib (byteCells)
theorem hex2_len {l : List UInt8} {b : UInt8} {u : List UInt8} (h : hex2 l = .ok (b, u)) : u.length ≤ l.length := by
  unfold hex2 at h
  repeat' split at h
  all_goals first | cases h | skip
  all_goals (simp; omega)
theorem escB_len {l : List UInt8} {b : UInt8} {u : List UInt8} (h : escB l = .ok (b, u)) : u.length ≤ l.length := by
  unfold escB at h
  split at h
  · cases h
  repeat' split at h
  all_goals first | (cases h; done) | (cases h; simp; done) | (have := hex2_len h; simp; omega)
theorem oneB_len {c : UInt8} {l : List UInt8} {b : UInt8} {u : List UInt8} (h : oneB c l = .ok (b, u)) : u.length ≤ l.length := by
  unfold oneB at h
  split at h
  · exact escB_len h
  · cases h; exact Nat.le_refl _
theorem hex2_suf {l : List UInt8} {b : UInt8} {u : List UInt8} (h : hex2 l = .ok (b, u)) : ∃ n, u = l.drop n := by
  unfold hex2 at h
  repeat' split at h
  all_goals first | (cases h; done) | skip
  all_goals (cases h; exact ⟨2, rfl⟩)
theorem oneB_suf {c : UInt8} {l : List UInt8} {b : UInt8} {u : List UInt8} (h : oneB c l = .ok (b, u)) : ∃ n, u = l.drop n := by
  unfold oneB at h
  split at h
  · unfold escB at h
    split at h
    · cases h
    repeat' split at h
    all_goals first | (cases h; done) | (cases h; exact ⟨1, rfl⟩) | (obtain ⟨n, hn⟩ := hex2_suf h; exact ⟨n + 1, hn⟩)
  · cases h; exact ⟨0, rfl⟩
theorem hex2_err {l : List UInt8} {e : Int} (h : hex2 l = .error e) : ¬ e = 0 := by
  unfold hex2 at h
  repeat' split at h
  all_goals (cases h; try decide)
theorem oneB_err {c : UInt8} {l : List UInt8} {e : Int} (h : oneB c l = .error e) : ¬ e = 0 := by
  unfold oneB at h
  split at h
  · unfold escB at h
    split at h
    · cases h; decide
    repeat' split at h
    all_goals first | exact hex2_err h | (cases h; try decide)
  · cases h
theorem litB_fuel (q : UInt8) : ∀ (f f' : Nat) (l out : List UInt8), l.length < f → l.length < f' → litB q f l out = litB q f' l out
  | 0, _, _, _, h, _ => by omega
  | _, 0, _, _, _, h => by omega
  | f + 1, f' + 1, [], out, _, _ => rfl
  | f + 1, f' + 1, c :: r, out, h, h' => by
    rw [List.length_cons] at h h'
    unfold litB
    split
    · rfl
    split
    · rfl
    split
    · rfl
    · rename_i b u hu
      have := oneB_len hu
      split
      · rfl
      · exact litB_fuel q f f' u _ (by omega) (by omega)
def readV (n : Nat) (r : Except Int (List UInt8 × List UInt8)) : List Value := match r with
  | .ok (t, u) => [.string (ofB t), .int .i64 ((n - u.length : Nat) : Int), .int .i64 0]
  | .error e => [.string ⟨#[]⟩, .int .i64 0, .int .i64 e]
attribute [local irreducible] G GC GQ GA GAop Calls IntKind.wrap Int.decLt Int.decLe
theorem lread_spec (s : ByteArray) (hs : s.size ≤ 1000000) (w : World) (μ : Mem) (hμ : MOk μ w) :
    Calls Tryz.prog 94 #[.string s, .int .i64 0] w fun e w' => e = .returned (.tuple (readV s.size (readL (bl s))).toArray) ∧ Below w.heap.size w w' := by
  refine call_intro (args := [.string s, .int .i64 0]) Tryz.func94 rfl Tryz.ntmps94 (by simp) hμ ?_
  by_cases h0 : 0 < s.size
  · obtain ⟨q, hq1, hq2⟩ := bl_at h0
    have hl : bl s = q :: (bl s).drop 1 := by have := drop_c hq1; rwa [List.drop_zero] at this
    by_cases hq : q.toNat = 34 ∨ q.toNat = 39
    · have hq' : q = 34 ∨ q = 39 := hq.imp (fun h => UInt8.toNat_inj.1 h) (fun h => UInt8.toNat_inj.1 h)
      obtain ⟨res, hres⟩ : ∃ res, readL (bl s) = res := ⟨_, rfl⟩
      rw [hres]
      rw [hl] at hres
      unfold readL at hres
      dsimp only at hres
      rw [if_pos hq'] at hres
      rw [litB_fuel q _ (((bl s).drop 1).length + 1) _ _ (Nat.lt_succ_self _) (Nat.lt_succ_self _)] at hres
      rcases hq with hq | hq
      all_goals
        repeat' (first | refine KO ?_ | (refine KV (b := by first | exact U2 0) (c := ?_)) | refine KI ?_ | refine NB fun b => ?_ | (refine KB ?_ ?_ <;> intro hp) | refine KG ?_ | fail)
        refine gc_nilR 5 1 ?_
        refine gc_loop (ι := Nat × List UInt8 × Value) (fun i => 1 ≤ i.1 ∧ i.1 ≤ s.size ∧ i.2.1.length ≤ 65536 ∧ litB q (((bl s).drop i.1).length + 1) ((bl s).drop i.1) i.2.1 = res) (fun i => s.size - i.1) (fun _ => μ)
          (fun i => [(0, .string s), (1, .int .i64 0), (7, i.2.2), (8, .int .i64 i.1)]) (fun i => [.inr ⟨i.2.2, 5, 1, i.2.1.length, byteCells i.2.1⟩]) (1, [], .slice none 0 0) ⟨Nat.le_refl _, h0, by simp, hres⟩ (fun a w hs => J5 hs) ?_
        rintro ⟨i, out, v⟩ ⟨h1, h2, h3, hrun⟩
        dsimp only at h1 h2 h3 hrun ⊢
        by_cases hlt : i < s.size
        · obtain ⟨c, hb1, hb2⟩ := bl_at hlt
          have hone := fun (w : World) (μ : Mem) (hμ : MOk μ w) => lone_spec s hs i c hlt hb1 hb2 w μ hμ
          have hdl := drop_n s (i + 1)
          rw [drop_c hb1, litB] at hrun
          refine gc_rowOk 0 rfl ?_
          rintro A cap rfl hok
          repeat' (first | refine KK ?_ | refine NB fun b => ?_ | (refine KB ?_ ?_ <;> intro hp) | refine KG ?_ | fail)
          refine gc_draw 7 _ (by kernel_rfl) rfl (List.Sublist.cons_cons _ (List.nil_sublist _)) ?_
          all_goals refine DD 0 ?_
          all_goals refine DD 1 ?_
          all_goals (first | refine D1 2 ?_ | (refine DV (k := 2) (b := by first | exact U2 i | exact U2 0) (c := ?_)) | refine DD 2 ?_ | fail)
          all_goals refine DD 3 ?_
          all_goals refine DD 4 ?_
          all_goals (first | refine D1 5 ?_ | (refine DV (k := 5) (b := by first | exact U2 i | exact U2 0) (c := ?_)) | refine DD 5 ?_ | fail)
          all_goals (first | refine D1 6 ?_ | (refine DV (k := 6) (b := by first | exact U2 i | exact U2 0) (c := ?_)) | refine DD 6 ?_ | fail)
          all_goals refine D8 ?_
          by_cases hcq : c.toNat = q.toNat
          · have hcq' : c = q := UInt8.toNat_inj.1 hcq
            rw [if_pos hcq'] at hrun
            subst hrun
            have hE : readV s.size (.ok (out, (bl s).drop (i + 1))) = [.string ⟨out.toArray⟩, .int .i64 ((i : Int) + 1), .int .i64 0] := by
              unfold readV
              dsimp only
              rw [hdl, show ((s.size - (s.size - (i + 1)) : Nat) : Int) = (i : Int) + 1 by omega]
              rfl
            rw [hE]
            repeat' (first | refine KO ?_ | (refine KV (b := by first | ((with_reducible apply v_rowstr 0); exact rfl; exact rfl; exact rfl; exact rfl; exact rfl)) (c := ?_)) | refine KI ?_ | refine NB fun b => ?_ | (refine KB ?_ ?_ <;> intro hp) | refine KG ?_ | fail)
            all_goals first | (exfalso; omega) | exact ret_vn rfl (by repeat first | exact rvs_nil | refine rvs_cons (by first | exact rv_tmp rfl | exact (RG 0 rfl rfl rfl rfl rfl) | exact (RG 1 rfl rfl rfl rfl rfl) | exact (RG 2 rfl rfl rfl rfl rfl) | exact (RG 3 rfl rfl rfl rfl rfl)) ?_) rfl rfl
          · have hcq' : ¬ c = q := fun h => hcq (by rw [h])
            rw [if_neg hcq'] at hrun
            by_cases h10 : c.toNat = 10 ∨ c.toNat = 13
            · rw [if_pos (h10.imp (fun h => UInt8.toNat_inj.1 h) (fun h => UInt8.toNat_inj.1 h))] at hrun
              subst hrun
              unfold readV
              dsimp only
              rcases h10 with h10 | h10
              all_goals repeat' (first | refine KO ?_ | (refine KV (b := by first | exact U2 i) (c := ?_)) | refine KI ?_ | refine NB fun b => ?_ | (refine KB ?_ ?_ <;> intro hp) | refine KG ?_ | fail)
              all_goals first | (exfalso; omega) | exact ret_vn rfl (by repeat first | exact rvs_nil | refine rvs_cons (by first | exact rv_tmp rfl | exact (RG 0 rfl rfl rfl rfl rfl) | exact (RG 1 rfl rfl rfl rfl rfl) | exact (RG 2 rfl rfl rfl rfl rfl) | exact (RG 3 rfl rfl rfl rfl rfl)) ?_) rfl rfl
            · rw [if_neg (fun h => h10 (h.imp (fun h => by rw [h]; rfl) (fun h => by rw [h]; rfl)))] at hrun
              cases ho : oneB c ((bl s).drop (i + 1)) with
              | error e =>
                have he := oneB_err ho
                rw [ho] at hrun hone
                dsimp only at hrun
                subst hrun
                unfold oneV at hone
                dsimp only at hone
                unfold readV
                dsimp only
                repeat' (first | refine KO ?_ | ((with_reducible apply F1 128); exact rfl; exact EN; (exact fun w μc hw hse => hone w μc hw)) | (refine KV (b := by first | exact U2 i) (c := ?_)) | refine KI ?_ | refine NB fun b => ?_ | (refine KB ?_ ?_ <;> intro hp) | refine KG ?_ | fail)
                all_goals first | (exfalso; omega) | exact ret_vn rfl (by repeat first | exact rvs_nil | refine rvs_cons (by first | exact rv_tmp rfl | exact (RG 0 rfl rfl rfl rfl rfl) | exact (RG 1 rfl rfl rfl rfl rfl) | exact (RG 2 rfl rfl rfl rfl rfl) | exact (RG 3 rfl rfl rfl rfl rfl)) ?_) rfl rfl
              | ok p =>
                obtain ⟨b0, u0⟩ := p
                have hul := oneB_len ho
                rw [ho] at hrun hone
                dsimp only at hrun
                unfold oneV at hone
                dsimp only at hone
                by_cases hlong : 65536 < out.length + 1
                · rw [if_pos hlong] at hrun
                  subst hrun
                  unfold readV
                  dsimp only
                  repeat' (first | refine KO ?_ | ((with_reducible apply F1 128); exact rfl; exact EN; (exact fun w μc hw hse => hone w μc hw)) | (first | ((with_reducible apply g_ap); exact rfl; exact rfl; exact rfl; (repeat first | with_reducible exact rowup_hd | with_reducible apply rowup_tl); (iterate 6 exact rfl); (first | ((with_reducible apply src_in); exact rfl; (repeat first | with_reducible exact inb_hd | with_reducible apply inb_tl); exact rfl)); (first | exact rfl | omega | simp); (first | assumption | (exact ones_mem (by (repeat first | with_reducible exact ones_nil | ((with_reducible apply ones_cons); (first | exact rfl | assumption))))) | simp [Value.oneCell']); omega; omega; intro v; ((with_reducible apply g_rowSlice 1); exact rfl); (rintro A2 cap2 rfl)) | ((with_reducible apply g_append0); (iterate 9 exact rfl); (first | ((with_reducible apply src_in); exact rfl; (repeat first | with_reducible exact inb_hd | with_reducible apply inb_tl); exact rfl)); (first | exact rfl | omega | simp); (first | assumption | (exact ones_mem (by (repeat first | with_reducible exact ones_nil | ((with_reducible apply ones_cons); (first | exact rfl | assumption))))) | simp [Value.oneCell']); omega; omega; intro v; ((with_reducible apply g_rowSlice 1); exact rfl); (rintro A2 cap2 rfl))) | (refine KV (b := by first | exact U2 i) (c := ?_)) | refine KI ?_ | refine NB fun b => ?_ | (refine KB ?_ ?_ <;> intro hp) | refine KG ?_ | fail)
                  all_goals first | (exfalso; omega) | exact ret_vn rfl (by repeat first | exact rvs_nil | refine rvs_cons (by first | exact rv_tmp rfl | exact (RG 0 rfl rfl rfl rfl rfl) | exact (RG 1 rfl rfl rfl rfl rfl) | exact (RG 2 rfl rfl rfl rfl rfl) | exact (RG 3 rfl rfl rfl rfl rfl)) ?_) rfl rfl
                · rw [if_neg hlong] at hrun
                  have hud : u0 = (bl s).drop (s.size - u0.length) := by
                    obtain ⟨n, hn⟩ := oneB_suf ho
                    rw [List.drop_drop] at hn
                    rw [hn, List.length_drop, bl_len]
                    by_cases hm : i + 1 + n ≤ s.size
                    · rw [show s.size - (s.size - (i + 1 + n)) = i + 1 + n by omega]
                    · rw [List.drop_eq_nil_of_le (by rw [bl_len]; omega), List.drop_eq_nil_of_le (by rw [bl_len]; omega)]
                  repeat' (first | refine KO ?_ | ((with_reducible apply F1 128); exact rfl; exact EN; (exact fun w μc hw hse => hone w μc hw)) | (first | ((with_reducible apply g_ap); exact rfl; exact rfl; exact rfl; (repeat first | with_reducible exact rowup_hd | with_reducible apply rowup_tl); (iterate 6 exact rfl); (first | ((with_reducible apply src_in); exact rfl; (repeat first | with_reducible exact inb_hd | with_reducible apply inb_tl); exact rfl)); (first | exact rfl | omega | simp); (first | assumption | (exact ones_mem (by (repeat first | with_reducible exact ones_nil | ((with_reducible apply ones_cons); (first | exact rfl | assumption))))) | simp [Value.oneCell']); omega; omega; intro v; ((with_reducible apply g_rowSlice 1); exact rfl); (rintro A2 cap2 rfl)) | ((with_reducible apply g_append0); (iterate 9 exact rfl); (first | ((with_reducible apply src_in); exact rfl; (repeat first | with_reducible exact inb_hd | with_reducible apply inb_tl); exact rfl)); (first | exact rfl | omega | simp); (first | assumption | (exact ones_mem (by (repeat first | with_reducible exact ones_nil | ((with_reducible apply ones_cons); (first | exact rfl | assumption))))) | simp [Value.oneCell']); omega; omega; intro v; ((with_reducible apply g_rowSlice 1); exact rfl); (rintro A2 cap2 rfl))) | (refine KV (b := by first | exact U2 i) (c := ?_)) | refine KI ?_ | refine NB fun b => ?_ | (refine KB ?_ ?_ <;> intro hp) | refine KG ?_ | fail)
                  all_goals try (exfalso; omega)
                  all_goals refine gq_rowEq (n' := (out ++ [b0]).length) (xs' := byteCells (out ++ [b0])) 1 rfl (by simp) (by rw [byteCells_app]; rfl) ?_
                  all_goals refine J2 (s.size - u0.length, out ++ [b0], .slice A2 (out.length + 1) cap2) ⟨by dsimp only; omega, by dsimp only; omega, by dsimp only; simp; omega, ?_⟩ (by dsimp only; omega)
                  all_goals
                    dsimp only
                    rw [← hud]
                    rw [litB_fuel q _ _ _ _ (Nat.lt_succ_self _) (show u0.length < ((bl s).drop (i + 1)).length + 1 by omega)]
                    exact hrun
        · have hi : (bl s).drop i = [] := List.drop_eq_nil_of_le (by rw [bl_len]; omega)
          rw [hi] at hrun
          have : res = .error 8 := hrun.symm
          subst this
          unfold readV
          dsimp only
          repeat' (first | refine KK ?_ | refine NB fun b => ?_ | (refine KB ?_ ?_ <;> intro hp) | refine KG ?_ | fail)
          all_goals first | (exfalso; omega) | exact ret_vn rfl (by repeat first | exact rvs_nil | refine rvs_cons (by first | exact rv_tmp rfl | exact (RG 0 rfl rfl rfl rfl rfl) | exact (RG 1 rfl rfl rfl rfl rfl) | exact (RG 2 rfl rfl rfl rfl rfl) | exact (RG 3 rfl rfl rfl rfl rfl)) ?_) rfl rfl
    · have hE : readL (bl s) = .error 1 := by
        rw [hl]
        unfold readL
        dsimp only
        rw [if_neg (fun h => hq (h.imp (fun h => by rw [h]; rfl) (fun h => by rw [h]; rfl)))]
      rw [hE]
      unfold readV
      dsimp only
      repeat' (first | refine KO ?_ | (refine KV (b := by first | exact U2 0) (c := ?_)) | refine KI ?_ | refine NB fun b => ?_ | (refine KB ?_ ?_ <;> intro hp) | refine KG ?_ | fail)
      all_goals first | (exfalso; omega) | exact ret_vn rfl (by repeat first | exact rvs_nil | refine rvs_cons (by first | exact rv_tmp rfl | exact (RG 0 rfl rfl rfl rfl rfl) | exact (RG 1 rfl rfl rfl rfl rfl) | exact (RG 2 rfl rfl rfl rfl rfl) | exact (RG 3 rfl rfl rfl rfl rfl)) ?_) rfl rfl
  · have hE : readL (bl s) = .error 1 := by
      have : bl s = [] := List.eq_nil_of_length_eq_zero (by rw [bl_len]; omega)
      rw [this]; rfl
    rw [hE]
    unfold readV
    dsimp only
    repeat' (first | refine KK ?_ | refine NB fun b => ?_ | (refine KB ?_ ?_ <;> intro hp) | refine KG ?_ | fail)
    all_goals first | (exfalso; omega) | exact ret_vn rfl (by repeat first | exact rvs_nil | refine rvs_cons (by first | exact rv_tmp rfl | exact (RG 0 rfl rfl rfl rfl rfl) | exact (RG 1 rfl rfl rfl rfl rfl) | exact (RG 2 rfl rfl rfl rfl rfl) | exact (RG 3 rfl rfl rfl rfl rfl)) ?_) rfl rfl
end
section
open Go.RowKit Go.Vcg Ou
theorem ofB_inj {a b : List UInt8} (h : ofB a = ofB b) : a = b := by rw [← byS_ofB a, h, byS_ofB]
theorem ext_take (l : List UInt8) (k : Nat) : (ofB l).extract 0 k = ofB (l.take k) := bl_inj (by rw [bl_extract, bl_ofB, bl_ofB, List.drop_zero, Nat.sub_zero])
theorem ext_drop (l : List UInt8) (k : Nat) : (ofB l).extract k (ofB l).size = ofB (l.drop k) := bl_inj (by rw [bl_extract, bl_ofB, bl_ofB, ofB_size, List.take_of_length_le (by rw [List.length_drop]; omega)])
theorem litB_suf (q : UInt8) : ∀ (f : Nat) (l out t u : List UInt8), litB q f l out = .ok (t, u) → ∃ n, n ≤ l.length ∧ u = l.drop n
  | 0, _, _, _, _, h => by cases h
  | _ + 1, [], _, _, _, h => by cases h
  | f + 1, c :: r, out, t, u, h => by
    unfold litB at h
    split at h
    · cases h; exact ⟨1, by simp, rfl⟩
    split at h
    · cases h
    split at h
    · cases h
    · rename_i b u0 ho
      split at h
      · cases h
      · obtain ⟨n, hn, rfl⟩ := litB_suf q f u0 _ t u h
        obtain ⟨m, rfl⟩ := oneB_suf ho
        rw [List.length_drop] at hn
        by_cases hm : m ≤ r.length
        · exact ⟨m + n + 1, by rw [List.length_cons]; omega, by rw [List.drop_drop]; rfl⟩
        · have h0 : n = 0 := by omega
          subst h0
          refine ⟨r.length + 1, by simp, ?_⟩
          rw [List.drop_zero, List.drop_eq_nil_of_le (by omega), List.drop_eq_nil_of_le (by simp)]
theorem readL_suf {l t u : List UInt8} (h : readL l = .ok (t, u)) : u = l.drop (l.length - u.length) ∧ u.length ≤ l.length := by
  unfold readL at h
  split at h
  · cases h
  · rename_i q r
    split at h
    · obtain ⟨n, hn, rfl⟩ := litB_suf _ _ _ _ _ _ h
      rw [List.length_drop, List.length_cons]
      refine ⟨?_, by omega⟩
      rw [show r.length + 1 - (r.length - n) = n + 1 by omega]
      rfl
    · cases h
theorem litB_err (q : UInt8) : ∀ (f : Nat) (l out : List UInt8) (e : Int), litB q f l out = .error e → ¬ e = 0
  | 0, _, _, _, h => by cases h; decide
  | _ + 1, [], _, _, h => by cases h; decide
  | f + 1, c :: r, out, e, h => by
    unfold litB at h
    split at h
    · cases h
    split at h
    · cases h; decide
    split at h
    · rename_i e' ho
      cases h
      exact oneB_err ho
    · split at h
      · cases h; decide
      · exact litB_err q f _ _ e h
theorem readL_err {l : List UInt8} {e : Int} (h : readL l = .error e) : ¬ e = 0 := by
  unfold readL at h
  split at h
  · cases h; decide
  · split at h
    · exact litB_err _ _ _ _ _ h
    · cases h; decide
theorem quotedB_ok {l t u : List UInt8} (h : quotedB l = some (t, u)) : readL l = .ok (t, u) ∧ quoteB t ++ u = l ∧ t.length ≤ 65536 := by
  obtain ⟨h1, h2⟩ := quotedB_some h
  refine ⟨?_, h1, h2⟩
  rw [← h1]
  exact readL_quote t u h2
theorem readL_len {l t u : List UInt8} (h : readL l = .ok (t, u)) : t.length ≤ 65536 := by
  unfold readL at h
  split at h
  · cases h
  · split at h
    · exact litB_len _ _ _ _ _ (by simp) h
    · cases h
attribute [local irreducible] G GC GQ GA GAop Calls IntKind.wrap Int.decLt Int.decLe
theorem lread_ok {l t u : List UInt8} (h : readL l = .ok (t, u)) (hl : l.length ≤ 1000000) (w : World) (μ : Mem) (hμ : MOk μ w) :
    Calls Tryz.prog 94 #[.string (ofB l), .int .i64 0] w fun e w' => e = .returned (.tuple #[.string (ofB t), .int .i64 ((l.length - u.length : Nat) : Int), .int .i64 0]) ∧ Below w.heap.size w w' := by
  have := lread_spec (ofB l) (by rw [ofB_size]; exact hl) w μ hμ
  rw [bl_ofB, h, ofB_size] at this
  exact this
theorem lread_no {l : List UInt8} {e : Int} (h : readL l = .error e) (hl : l.length ≤ 1000000) (w : World) (μ : Mem) (hμ : MOk μ w) :
    Calls Tryz.prog 94 #[.string (ofB l), .int .i64 0] w fun en w' => en = .returned (.tuple #[.string ⟨#[]⟩, .int .i64 0, .int .i64 e]) ∧ Below w.heap.size w w' := by
  have := lread_spec (ofB l) (by rw [ofB_size]; exact hl) w μ hμ
  rw [bl_ofB, h, ofB_size] at this
  exact this
theorem quote_at (t : List UInt8) (ht : t.length ≤ 65536) (w : World) (μ : Mem) (hμ : MOk μ w) :
    Calls Tryz.prog 41 #[.string (ofB t)] w fun e w' => e = .returned (.string (ofB (quoteB t))) ∧ Below w.heap.size w w' := by
  have := lquote_spec (ofB t) (by rw [ofB_size]; omega) w μ hμ
  rw [byS_ofB] at this
  exact this
theorem lastB_ok {l t : List UInt8} (h : lastB l = some t) : quotedB l = some (t, []) := by
  unfold lastB at h
  split at h
  · rename_i t' hq; cases h; exact hq
  · cases h
end
end Go.Proofs.YtoclmkdfcafhfaaGreatDoor
namespace Go.Vcg
theorem g_sel {P : Program} {X : Ctx} {ops : Array Oper} {Q : Exit → Act → World → Prop} {rest : List Oper} {μ : Mem} {l l' : Slots} {L L' : List Bk} (hl : SubS l' l) (hL : Sel L' L) (h : G P X ops Q rest μ l' L') : G P X ops Q rest μ l L := fun a w hs => h a w (hs.sel hl hL)
theorem selR : ∀ L : List Bk, Sel L L
  | [] => .nil _
  | x :: r => sel_0 (BkLe.refl x) (selR r)
theorem g_swap {P : Program} {X : Ctx} {ops : Array Oper} {Q : Exit → Act → World → Prop} {rest : List Oper} {μ : Mem} {l : Slots} {x y : Bk} {L : List Bk} (h : G P X ops Q rest μ l (y :: x :: L)) : G P X ops Q rest μ l (x :: y :: L) := fun a w hs => h a w (hs.sel (fun _ _ h => h) (sel_1 (BkLe.refl y) (sel_0 (BkLe.refl x) (selR L))))
end Go.Vcg
namespace Go.Proofs.YtoclmkdfcafhfaaGreatDoor
section
open Go.RowKit Go.Vcg Ou
abbrev RI5 := List UInt8 × Int × Int × Int × Nat
abbrev rdI (rb : Nat) (S : RI5) : List Bk := [.inl ⟨rb, 55, 5, [(0, .string (ofB S.1)), (1, .int .i64 S.2.1), (2, .int .i64 S.2.2.1), (3, .int .i64 S.2.2.2.1), (4, .map (some S.2.2.2.2))]⟩]
abbrev RiK (M : List Nat) (w : World) (μ : Mem) (rb : Nat) (S : RI5) (P : Value → Prop) (en : Ending) (w' : World) : Prop := ∃ (r : Value) (μ' : Mem) (i : Unit), en = .returned r ∧ BackM M w w' μ (rdI rb S) μ' ∧ P r
def bump (e c : Int) : Int := if e = 0 then c else e
abbrev failS (S : RI5) (c : Int) : RI5 := (S.1, S.2.1, S.2.2.1, bump S.2.2.2.1 c, S.2.2.2.2)
def numIn (lo hi : Int) (s : List UInt8) : Option Int := match Iq.numZ s with
  | some n => if lo ≤ n ∧ n ≤ hi then some n else none
  | none => none
theorem textF_z {n : Int} (h : -9007199254740992 ≤ n ∧ n ≤ 9007199254740992) : textF (ofF n) = ofB (Lib.itoa n) := by
  have hi : inF n = true := by unfold inF; obtain ⟨h1, h2⟩ := h; simp; omega
  unfold textF ofF
  rw [if_pos hi, if_pos (by unfold wholeF; simp [hi, noS])]
  rfl
theorem num_ask (s : ByteArray) : (∃ n, Iq.numZ (byS s) = some n ∧ readF (bl s) = ⟨3, n, noS⟩ ∧ textF (readF (bl s)) = s) ∨
    (Iq.numZ (byS s) = none ∧ ((readF (bl s)).k ≠ 3 ∨ textF (readF (bl s)) ≠ s)) := by
  have hor : ∀ (r : Int × Bool) (g : Int), (∃ n, numOr r g = ofF n) ∨ numOr r g = nanV := fun r g => by
    unfold numOr
    split
    · exact .inl ⟨_, rfl⟩
    · exact .inr rfl
  have hform : (∃ n, readF (bl s) = ofF n) ∨ readF (bl s) = nanV := by
    unfold readF readT
    split
    · exact .inl ⟨_, rfl⟩
    split
    · exact hor _ _
    · exact hor _ _
  cases hn : Iq.numZ (byS s) with
  | some n =>
    obtain ⟨h1, h2⟩ := Iq.numZ_some hn
    have h3 : readF (bl s) = ofF n := by
      have := read_itoa n h1
      rw [← this, h2]
      rfl
    have hi : inF n = true := by unfold inF; obtain ⟨h1, h2⟩ := h1; simp; omega
    have h4 : ofF n = ⟨3, n, noS⟩ := by unfold ofF; rw [if_pos hi]
    refine .inl ⟨n, rfl, by rw [h3, h4], ?_⟩
    rw [h3, textF_z h1, h2]
    exact ofB_byS s
  | none =>
    refine .inr ⟨rfl, ?_⟩
    by_cases hk : (readF (bl s)).k = 3
    · refine .inr fun ht => ?_
      rcases hform with ⟨n, h⟩ | h
      · rw [h] at hk ht
        have hi : inF n = true := by
          unfold ofF at hk
          split at hk
          · rename_i h; exact h
          · exact absurd hk (by decide)
        have hb : -9007199254740992 ≤ n ∧ n ≤ 9007199254740992 := by unfold inF at hi; simp at hi; exact hi
        rw [textF_z hb] at ht
        have h6 : byS s = Lib.itoa n := by rw [← ht]; exact byS_ofB _
        rw [h6, Iq.numZ_itoa hb] at hn
        cases hn
      · rw [h] at hk
        exact absurd hk (by decide)
    · exact .inl hk
attribute [local irreducible] G GC GQ GA GAop Calls IntKind.wrap Int.decLt Int.decLe
theorem fail_spec (rb : Nat) (S : RI5) (c : Int) (w : World) (μ : Mem) (hμ : MOk μ w) (hO : Go.Vcg.Own μ (rdI rb S) w) :
    Calls Tryz.prog 30 #[.pointer (some ⟨rb, 0, none⟩), .int .i64 c] w (RiK (idsOf (rdI rb S)) w μ rb (failS S c) fun _ => True) := by
  have hcnt := ids_count hO.diff
  obtain ⟨s, p, line, e, m⟩ := S
  refine call_introM (args := [.pointer (some ⟨rb, 0, none⟩), .int .i64 c]) Tryz.func30 rfl Tryz.ntmps30 (by simp) hμ hO ?_
  show GC _ _ _ _ _ _ [.inl ⟨rb, 55, 5, [(0, .string (ofB s)), (1, .int .i64 p), (2, .int .i64 line), (3, .int .i64 e), (4, .map (some m))]⟩]
  by_cases he : e = 0
  · subst he
    repeat' (first | refine KK ?_ | (refine KB ?_ ?_ <;> intro hp) | refine KG ?_ | fail)
    all_goals first | (exfalso; first | omega | contradiction | exact absurd ‹_› ‹¬ _›) | skip
    refine gq_sel (l' := []) (L' := rdI rb (s, p, line, c, m)) PU PS ?_
    exact ret_bor0 (Post := fun _ _ _ => True) (Ls := fun _ : Unit => rdI rb (s, p, line, c, m)) 1 () (.inr rfl) hcnt rfl rfl rfl (fun _ _ _ => trivial)
  · have hb : bump e c = e := if_neg he
    show GC _ _ _ (bodyPost _ _ fun en w' => RiK _ _ _ _ (s, p, line, bump e c, m) _ en w') _ _ _
    rw [hb]
    repeat' (first | refine KK ?_ | (refine KB ?_ ?_ <;> intro hp) | refine KG ?_ | fail)
    all_goals first | (exfalso; first | omega | contradiction | exact absurd ‹_› ‹¬ _›) | skip
    refine gq_sel (l' := []) (L' := rdI rb (s, p, line, e, m)) PU PS ?_
    exact ret_bor0 (Post := fun _ _ _ => True) (Ls := fun _ : Unit => rdI rb (s, p, line, e, m)) 1 () (.inr rfl) hcnt rfl rfl rfl (fun _ _ _ => trivial)
theorem idx_cut (c : UInt8) : ∀ l : List UInt8, Lib.indexByte l c = match Ou.cutB c l with | some (a, _) => (a.length : Int) | none => -1
  | [] => rfl
  | x :: r => by
    have ih := idx_cut c r
    unfold Lib.indexByte Ou.cutB
    by_cases h : x = c
    · subst h
      simp
    · have hb : (x == c) = false := by simpa using h
      rw [hb, if_neg h, ih]
      cases hc : Ou.cutB c r with
      | none => simp
      | some p =>
        obtain ⟨a, b⟩ := p
        have : ((a.length : Int) == -1) = false := by simp
        simp [this]
theorem index10 (x : ByteArray) (w : World) (μ : Mem) (hμ : MOk μ w) : Calls Tryz.prog 59 #[.string x, .int .u8 10] w fun e w' => e = .returned (.int .i64 (Lib.indexByte (byS x) 10)) ∧ Below w.heap.size w w' :=
  (Any.strings_IndexByte Tryz.lays137 x 10 w).mono fun e w' ⟨h1, h2⟩ => ⟨h1, h2 ▸ Below.refl _ _⟩
theorem take_ok {l r : List UInt8} (rb : Nat) (s : List UInt8) (k : Nat) (line e : Int) (m : Nat) (h : Ou.cutB 10 (s.drop k) = some (l, r)) (hk : k ≤ s.length) (hs : s.length ≤ 2000000) (hl : 0 ≤ line ∧ line ≤ 2000000) (w : World) (μ : Mem) (hμ : MOk μ w) (hO : Go.Vcg.Own μ (rdI rb (s, (k : Int), line, e, m)) w) :
    Calls Tryz.prog 29 #[.pointer (some ⟨rb, 0, none⟩)] w (RiK (idsOf (rdI rb (s, (k : Int), line, e, m))) w μ rb (s, ((k + l.length + 1 : Nat) : Int), line + 1, e, m) fun r => r = .string (ofB l)) := by
  have hcnt := ids_count hO.diff
  refine call_introM (args := [.pointer (some ⟨rb, 0, none⟩)]) Tryz.func29 rfl Tryz.ntmps29 (by simp) hμ hO ?_
  show GC _ _ _ _ _ _ [.inl ⟨rb, 55, 5, [(0, .string (ofB s)), (1, .int .i64 (k : Int)), (2, .int .i64 line), (3, .int .i64 e), (4, .map (some m))]⟩]
  have hi : Lib.indexByte (byS ((ofB s).extract k (ofB s).size)) 10 = (l.length : Int) := by rw [ext_drop, byS_ofB, idx_cut, h]
  have hsz := ofB_size s
  have hlen : l.length + r.length + 1 + k = s.length := by
    have h1 := congrArg List.length (cutB_some h).1
    rw [List.length_drop, List.length_append, List.length_cons] at h1
    omega
  have hx : (ofB s).extract k (k + l.length) = ofB l := bl_inj (by
    rw [bl_extract, bl_ofB, bl_ofB, (cutB_some h).1, show k + l.length - k = l.length by omega, List.take_left])
  repeat' (first | refine KK ?_ | (refine KB ?_ ?_ <;> intro hp) | refine KG ?_ | fail)
  refine gc_draw 11 _ (by kernel_rfl) rfl (List.Sublist.cons_cons _ (List.nil_sublist _)) ?_
  all_goals refine DD 0 ?_
  all_goals refine DD 1 ?_
  all_goals (first | refine D1 2 ?_ | (refine DV (k := 2) (b := by first | ((with_reducible apply v_str_lo k); exact rfl; exact rfl; exact rfl; exact rfl; omega)) (c := ?_)) | refine DD 2 ?_ | fail)
  all_goals (first | refine D1 3 ?_ | (refine DV (k := 3) (b := by first | ((with_reducible apply v_str_lo k); exact rfl; exact rfl; exact rfl; exact rfl; omega)) (c := ?_)) | (refine D3 3 (DW (b := by first | ((with_reducible apply v_str_lo k); exact rfl; exact rfl; exact rfl; exact rfl; omega)) (c := ?_))) | refine DD 3 ?_ | fail)
  all_goals refine DD 4 ?_
  all_goals refine DD 5 ?_
  all_goals (first | refine D1 6 ?_ | (refine DV (k := 6) (b := by first | ((with_reducible apply v_str_lo k); exact rfl; exact rfl; exact rfl; exact rfl; omega)) (c := ?_)) | refine DD 6 ?_ | fail)
  all_goals (first | refine D1 7 ?_ | (refine DV (k := 7) (b := by first | ((with_reducible apply v_str_lo k); exact rfl; exact rfl; exact rfl; exact rfl; omega)) (c := ?_)) | (refine D3 7 (DW (b := by first | ((with_reducible apply v_str_lo k); exact rfl; exact rfl; exact rfl; exact rfl; omega)) (c := ?_))) | refine DD 7 ?_ | fail)
  all_goals (first | refine D1 8 ?_ | (refine DV (k := 8) (b := by first | ((with_reducible apply v_str_lo k); exact rfl; exact rfl; exact rfl; exact rfl; omega)) (c := ?_)) | refine DD 8 ?_ | fail)
  all_goals (first | (refine D3 9 ?_; refine D5 ?_; (with_reducible apply F1 59); exact rfl; exact EN; (exact fun w μc hw hse => index10 _ w μc hw); refine D9 ?_))
  all_goals refine DD 10 ?_
  all_goals refine D8 ?_
  rw [hi]
  repeat' (first | refine KK ?_ | (refine KB ?_ ?_ <;> intro hp) | refine KG ?_ | fail)
  all_goals first | (exfalso; first | omega | contradiction | exact absurd ‹_› ‹¬ _›) | skip
  refine gc_draw 16 _ (by kernel_rfl) rfl (List.Sublist.cons_cons _ (List.nil_sublist _)) ?_
  all_goals refine DD 0 ?_
  all_goals refine DD 1 ?_
  all_goals (first | refine D1 2 ?_ | (refine DV (k := 2) (b := by first | ((with_reducible apply v_str_both k (k + l.length)); exact rfl; exact rfl; exact rfl; exact rfl; exact rfl; omega; omega; omega)) (c := ?_)) | refine DD 2 ?_ | fail)
  all_goals (first | refine D1 3 ?_ | (refine DV (k := 3) (b := by first | ((with_reducible apply v_str_both k (k + l.length)); exact rfl; exact rfl; exact rfl; exact rfl; exact rfl; omega; omega; omega)) (c := ?_)) | (refine D3 3 (DW (b := by first | ((with_reducible apply v_str_both k (k + l.length)); exact rfl; exact rfl; exact rfl; exact rfl; exact rfl; omega; omega; omega)) (c := ?_))) | refine DD 3 ?_ | fail)
  all_goals refine DD 4 ?_
  all_goals refine DD 5 ?_
  all_goals (first | refine D1 6 ?_ | (refine DV (k := 6) (b := by first | ((with_reducible apply v_str_both k (k + l.length)); exact rfl; exact rfl; exact rfl; exact rfl; exact rfl; omega; omega; omega)) (c := ?_)) | refine DD 6 ?_ | fail)
  all_goals (first | refine D1 7 ?_ | (refine DV (k := 7) (b := by first | ((with_reducible apply v_str_both k (k + l.length)); exact rfl; exact rfl; exact rfl; exact rfl; exact rfl; omega; omega; omega)) (c := ?_)) | (refine D3 7 (DW (b := by first | ((with_reducible apply v_str_both k (k + l.length)); exact rfl; exact rfl; exact rfl; exact rfl; exact rfl; omega; omega; omega)) (c := ?_))) | refine DD 7 ?_ | fail)
  all_goals refine DD 8 ?_
  all_goals refine DD 9 ?_
  all_goals (first | refine D1 10 ?_ | (refine DV (k := 10) (b := by first | ((with_reducible apply v_str_both k (k + l.length)); exact rfl; exact rfl; exact rfl; exact rfl; exact rfl; omega; omega; omega)) (c := ?_)) | refine DD 10 ?_ | fail)
  all_goals (first | refine D1 11 ?_ | (refine DV (k := 11) (b := by first | ((with_reducible apply v_str_both k (k + l.length)); exact rfl; exact rfl; exact rfl; exact rfl; exact rfl; omega; omega; omega)) (c := ?_)) | (refine D3 11 (DW (b := by first | ((with_reducible apply v_str_both k (k + l.length)); exact rfl; exact rfl; exact rfl; exact rfl; exact rfl; omega; omega; omega)) (c := ?_))) | refine DD 11 ?_ | fail)
  all_goals refine DD 12 ?_
  all_goals (first | refine D1 13 ?_ | (refine DV (k := 13) (b := by first | ((with_reducible apply v_str_both k (k + l.length)); exact rfl; exact rfl; exact rfl; exact rfl; exact rfl; omega; omega; omega)) (c := ?_)) | refine DD 13 ?_ | fail)
  all_goals (first | refine D1 14 ?_ | (refine DV (k := 14) (b := by first | ((with_reducible apply v_str_both k (k + l.length)); exact rfl; exact rfl; exact rfl; exact rfl; exact rfl; omega; omega; omega)) (c := ?_)) | refine DD 14 ?_ | fail)
  all_goals refine DD 15 ?_
  all_goals refine D8 ?_
  rw [hx]
  repeat' (first | refine KK ?_ | (refine KB ?_ ?_ <;> intro hp) | refine KG ?_ | fail)
  all_goals first | (exfalso; first | omega | contradiction | exact absurd ‹_› ‹¬ _›) | skip
  refine gq_sel (l' := [(2, .string (ofB l))]) (L' := rdI rb (s, ((k + l.length + 1 : Nat) : Int), line + 1, e, m)) PU PS ?_
  exact ret_bor (Post := fun _ r _ => r = .string (ofB l)) (Ls := fun _ : Unit => rdI rb (s, ((k + l.length + 1 : Nat) : Int), line + 1, e, m)) 1 () hcnt rfl (rv_tmp rfl) rfl rfl (fun _ _ => rfl)
theorem take_no (rb : Nat) (s : List UInt8) (k : Nat) (line e : Int) (m : Nat) (h : Ou.cutB 10 (s.drop k) = none) (hk : k ≤ s.length) (hs : s.length ≤ 2000000) (hl : 0 ≤ line ∧ line ≤ 2000000) (w : World) (μ : Mem) (hμ : MOk μ w) (hO : Go.Vcg.Own μ (rdI rb (s, (k : Int), line, e, m)) w) :
    Calls Tryz.prog 29 #[.pointer (some ⟨rb, 0, none⟩)] w (RiK (idsOf (rdI rb (s, (k : Int), line, e, m))) w μ rb (failS (s, (k : Int), line + 1, e, m) 8) fun r => r = .string (ofB [])) := by
  have hcnt := ids_count hO.diff
  refine call_introM (args := [.pointer (some ⟨rb, 0, none⟩)]) Tryz.func29 rfl Tryz.ntmps29 (by simp) hμ hO ?_
  show GC _ _ _ _ _ _ [.inl ⟨rb, 55, 5, [(0, .string (ofB s)), (1, .int .i64 (k : Int)), (2, .int .i64 line), (3, .int .i64 e), (4, .map (some m))]⟩]
  have hi : Lib.indexByte (byS ((ofB s).extract k (ofB s).size)) 10 = -1 := by rw [ext_drop, byS_ofB, idx_cut, h]
  have hsz := ofB_size s
  repeat' (first | refine KK ?_ | (refine KB ?_ ?_ <;> intro hp) | refine KG ?_ | fail)
  refine gc_draw 11 _ (by kernel_rfl) rfl (List.Sublist.cons_cons _ (List.nil_sublist _)) ?_
  all_goals refine DD 0 ?_
  all_goals refine DD 1 ?_
  all_goals (first | refine D1 2 ?_ | (refine DV (k := 2) (b := by first | ((with_reducible apply v_str_lo k); exact rfl; exact rfl; exact rfl; exact rfl; omega)) (c := ?_)) | refine DD 2 ?_ | fail)
  all_goals (first | refine D1 3 ?_ | (refine DV (k := 3) (b := by first | ((with_reducible apply v_str_lo k); exact rfl; exact rfl; exact rfl; exact rfl; omega)) (c := ?_)) | (refine D3 3 (DW (b := by first | ((with_reducible apply v_str_lo k); exact rfl; exact rfl; exact rfl; exact rfl; omega)) (c := ?_))) | refine DD 3 ?_ | fail)
  all_goals refine DD 4 ?_
  all_goals refine DD 5 ?_
  all_goals (first | refine D1 6 ?_ | (refine DV (k := 6) (b := by first | ((with_reducible apply v_str_lo k); exact rfl; exact rfl; exact rfl; exact rfl; omega)) (c := ?_)) | refine DD 6 ?_ | fail)
  all_goals (first | refine D1 7 ?_ | (refine DV (k := 7) (b := by first | ((with_reducible apply v_str_lo k); exact rfl; exact rfl; exact rfl; exact rfl; omega)) (c := ?_)) | (refine D3 7 (DW (b := by first | ((with_reducible apply v_str_lo k); exact rfl; exact rfl; exact rfl; exact rfl; omega)) (c := ?_))) | refine DD 7 ?_ | fail)
  all_goals (first | refine D1 8 ?_ | (refine DV (k := 8) (b := by first | ((with_reducible apply v_str_lo k); exact rfl; exact rfl; exact rfl; exact rfl; omega)) (c := ?_)) | refine DD 8 ?_ | fail)
  all_goals (first | (refine D3 9 ?_; refine D5 ?_; (with_reducible apply F1 59); exact rfl; exact EN; (exact fun w μc hw hse => index10 _ w μc hw); refine D9 ?_))
  all_goals refine DD 10 ?_
  all_goals refine D8 ?_
  rw [hi]
  refine gq_sel (l' := [(3, .int .i64 (-1)), (0, .pointer (some ⟨rb, 0, none⟩))]) (L' := rdI rb (s, (k : Int), line + 1, e, m)) PU PS ?_
  repeat' (first | refine KO ?_ | (refine CF 30 ?_; (with_reducible apply g_enter_bor 1); exact rfl; exact rfl; exact rfl; ((with_reducible apply e_call2); kernel_rfl; exact rfl; exact rfl); exact rfl; (exact fun w hw hO => fail_spec rb (s, (k : Int), line + 1, e, m) 8 w _ hw hO); (rintro v2 μ2 ⟨⟩ hle2 hv); (dsimp only [List.cons_append, List.nil_append])) | refine KI ?_ | (refine KB ?_ ?_ <;> intro hp) | refine KG ?_ | fail)
  all_goals first | (exfalso; first | omega | contradiction | exact absurd ‹_› ‹¬ _›) | skip
  refine gq_sel (l' := [(2, .string (ofB []))]) (L' := rdI rb (failS (s, (k : Int), line + 1, e, m) 8)) PU PS ?_
  exact ret_bor (Post := fun _ r _ => r = .string (ofB [])) (Ls := fun _ : Unit => rdI rb (failS (s, (k : Int), line + 1, e, m) 8)) 1 () hcnt rfl (rv_tmp rfl) rfl rfl (fun _ _ => rfl)
end
section
open Go.RowKit Go.Vcg Ou
theorem inI_t1 {n lo hi : Int} (h : lo ≤ n ∧ n ≤ hi) : Iq.inI n lo hi = true := by unfold Iq.inI; simp; omega
theorem inI_f1 {n lo hi : Int} (h : ¬ (lo ≤ n ∧ n ≤ hi)) : Iq.inI n lo hi = false := by unfold Iq.inI; simp; omega
attribute [local irreducible] G GC GQ GA GAop Calls IntKind.wrap Int.decLt Int.decLe
theorem number_iok {x : List UInt8} {lo hi n : Int} (rb : Nat) (S : RI5) (h : numIn lo hi x = some n) (hx : x.length ≤ 1000000) (w : World) (μ : Mem) (hμ : MOk μ w) (hT : TabOk μ) (hO : Go.Vcg.Own μ (rdI rb S) w) :
    Calls Tryz.prog 31 #[.pointer (some ⟨rb, 0, none⟩), .string (ofB x), .int .i64 lo, .int .i64 hi] w (RiK (idsOf (rdI rb S)) w μ rb S fun r => r = .int .i64 n) := by
  have hcnt := ids_count hO.diff
  obtain ⟨s, p, line, e, m⟩ := S
  refine call_introM (args := [.pointer (some ⟨rb, 0, none⟩), .string (ofB x), .int .i64 lo, .int .i64 hi]) Tryz.func31 rfl Tryz.ntmps31 (by simp) hμ hO ?_
  show GC _ _ _ _ _ _ [.inl ⟨rb, 55, 5, [(0, .string (ofB s)), (1, .int .i64 p), (2, .int .i64 line), (3, .int .i64 e), (4, .map (some m))]⟩]
  have hsz := ofB_size x
  rcases num_ask (ofB x) with ⟨k, h1, h2, h3⟩ | ⟨h1, _⟩
  · rw [byS_ofB] at h1
    unfold numIn at h
    rw [h1] at h
    dsimp only at h
    have hin : lo ≤ k ∧ k ≤ hi := by
      by_cases hc : lo ≤ k ∧ k ≤ hi
      · exact hc
      · rw [if_neg hc] at h; cases h
    rw [if_pos hin] at h
    cases h
    have hrd := fun (w : World) (μ : Mem) (hμ : MOk μ w) => read_spec (ofB x) (by omega) w μ hμ
    rw [h2] at h3 hrd
    have hb := inI_t1 hin
    repeat' (first | refine KO ?_ | ((with_reducible apply F1 60); exact rfl; exact EN; (exact fun w μc hw hse => hrd w μc hw)) | ((with_reducible apply F1 61); exact rfl; exact EN; (exact fun w μc hw hse => text_spec w μc hw (hT.mono hse.le) _)) | ((with_reducible apply F1 47); exact rfl; exact EN; (exact fun w μc hw hse => pin_spec _ _ _ w μc hw)) | refine KI ?_ | refine NB fun b => ?_ | (refine KB ?_ ?_ <;> intro hp) | refine KG ?_ | fail)
    all_goals first | (exfalso; first | omega | contradiction | (exact absurd ‹_› ‹¬ _›) | (rw [hb] at *; contradiction)) | skip
    refine gq_sel (l' := [(8, .int .i64 n)]) (L' := rdI rb (s, p, line, e, m)) PU PS ?_
    exact ret_bor (Post := fun _ r _ => r = .int .i64 n) (Ls := fun _ : Unit => rdI rb (s, p, line, e, m)) 1 () hcnt rfl (rv_tmp rfl) rfl rfl (fun _ _ => rfl)
  · rw [byS_ofB] at h1
    unfold numIn at h
    rw [h1] at h
    cases h
theorem number_ino {x : List UInt8} {lo hi : Int} (rb : Nat) (S : RI5) (h : numIn lo hi x = none) (hx : x.length ≤ 1000000) (w : World) (μ : Mem) (hμ : MOk μ w) (hT : TabOk μ) (hO : Go.Vcg.Own μ (rdI rb S) w) :
    Calls Tryz.prog 31 #[.pointer (some ⟨rb, 0, none⟩), .string (ofB x), .int .i64 lo, .int .i64 hi] w (RiK (idsOf (rdI rb S)) w μ rb (failS S 7) fun r => r = .int .i64 0) := by
  have hcnt := ids_count hO.diff
  obtain ⟨s, p, line, e, m⟩ := S
  refine call_introM (args := [.pointer (some ⟨rb, 0, none⟩), .string (ofB x), .int .i64 lo, .int .i64 hi]) Tryz.func31 rfl Tryz.ntmps31 (by simp) hμ hO ?_
  show GC _ _ _ _ _ _ [.inl ⟨rb, 55, 5, [(0, .string (ofB s)), (1, .int .i64 p), (2, .int .i64 line), (3, .int .i64 e), (4, .map (some m))]⟩]
  have hsz := ofB_size x
  have hrd := fun (w : World) (μ : Mem) (hμ : MOk μ w) => read_spec (ofB x) (by omega) w μ hμ
  rcases num_ask (ofB x) with ⟨k, h1, h2, h3⟩ | ⟨h1, h2⟩
  · rw [byS_ofB] at h1
    unfold numIn at h
    rw [h1] at h
    dsimp only at h
    have hin : ¬ (lo ≤ k ∧ k ≤ hi) := fun hc => by rw [if_pos hc] at h; cases h
    rw [h2] at h3 hrd
    have hb := inI_f1 hin
    repeat' (first | refine KO ?_ | ((with_reducible apply F1 60); exact rfl; exact EN; (exact fun w μc hw hse => hrd w μc hw)) | ((with_reducible apply F1 61); exact rfl; exact EN; (exact fun w μc hw hse => text_spec w μc hw (hT.mono hse.le) _)) | ((with_reducible apply F1 47); exact rfl; exact EN; (exact fun w μc hw hse => pin_spec _ _ _ w μc hw)) | refine KI ?_ | refine NB fun b => ?_ | (refine KB ?_ ?_ <;> intro hp) | refine KG ?_ | fail)
    all_goals first | (exfalso; first | omega | contradiction | (exact absurd ‹_› ‹¬ _›) | (rw [hb] at *; contradiction)) | skip
    refine g_sel (l' := [(29, .pointer (some ⟨rb, 0, none⟩))]) (L' := rdI rb (s, p, line, e, m)) PU PS ?_
    repeat' (first | refine KO ?_ | (refine CF 30 ?_; (with_reducible apply g_enter_bor 1); exact rfl; exact rfl; exact rfl; ((with_reducible apply e_call2); kernel_rfl; exact rfl; exact rfl); exact rfl; (exact fun w hw hO => fail_spec rb (s, p, line, e, m) 7 w _ hw hO); (rintro v2 μ2 ⟨⟩ hle2 hv); (dsimp only [List.cons_append, List.nil_append])) | refine KI ?_ | refine NB fun b => ?_ | (refine KB ?_ ?_ <;> intro hp) | refine KG ?_ | fail)
    refine gq_sel (l' := [(8, .int .i64 0)]) (L' := rdI rb (failS (s, p, line, e, m) 7)) PU PS ?_
    exact ret_bor (Post := fun _ r _ => r = .int .i64 0) (Ls := fun _ : Unit => rdI rb (failS (s, p, line, e, m) 7)) 1 () hcnt rfl (rv_tmp rfl) rfl rfl (fun _ _ => rfl)
  · generalize readF (bl (ofB x)) = v at h2 hrd
    by_cases h3 : v.k = 3
    · have h4 : textF v ≠ ofB x := by rcases h2 with h2 | h2; exact absurd h3 h2; exact h2
      repeat' (first | refine KO ?_ | ((with_reducible apply F1 60); exact rfl; exact EN; (exact fun w μc hw hse => hrd w μc hw)) | ((with_reducible apply F1 61); exact rfl; exact EN; (exact fun w μc hw hse => text_spec w μc hw (hT.mono hse.le) _)) | ((with_reducible apply F1 47); exact rfl; exact EN; (exact fun w μc hw hse => pin_spec _ _ _ w μc hw)) | refine KI ?_ | refine NB fun b => ?_ | (refine KB ?_ ?_ <;> intro hp) | refine KG ?_ | fail)
      all_goals first | (exfalso; first | omega | contradiction | exact absurd ‹_› ‹¬ _›) | skip
      refine g_sel (l' := [(29, .pointer (some ⟨rb, 0, none⟩))]) (L' := rdI rb (s, p, line, e, m)) PU PS ?_
      repeat' (first | refine KO ?_ | (refine CF 30 ?_; (with_reducible apply g_enter_bor 1); exact rfl; exact rfl; exact rfl; ((with_reducible apply e_call2); kernel_rfl; exact rfl; exact rfl); exact rfl; (exact fun w hw hO => fail_spec rb (s, p, line, e, m) 7 w _ hw hO); (rintro v2 μ2 ⟨⟩ hle2 hv); (dsimp only [List.cons_append, List.nil_append])) | refine KI ?_ | refine NB fun b => ?_ | (refine KB ?_ ?_ <;> intro hp) | refine KG ?_ | fail)
      refine gq_sel (l' := [(8, .int .i64 0)]) (L' := rdI rb (failS (s, p, line, e, m) 7)) PU PS ?_
      exact ret_bor (Post := fun _ r _ => r = .int .i64 0) (Ls := fun _ : Unit => rdI rb (failS (s, p, line, e, m) 7)) 1 () hcnt rfl (rv_tmp rfl) rfl rfl (fun _ _ => rfl)
    · repeat' (first | refine KO ?_ | ((with_reducible apply F1 60); exact rfl; exact EN; (exact fun w μc hw hse => hrd w μc hw)) | ((with_reducible apply F1 61); exact rfl; exact EN; (exact fun w μc hw hse => text_spec w μc hw (hT.mono hse.le) _)) | ((with_reducible apply F1 47); exact rfl; exact EN; (exact fun w μc hw hse => pin_spec _ _ _ w μc hw)) | refine KI ?_ | refine NB fun b => ?_ | (refine KB ?_ ?_ <;> intro hp) | refine KG ?_ | fail)
      all_goals first | (exfalso; first | omega | contradiction | exact absurd ‹_› ‹¬ _›) | skip
      refine g_sel (l' := [(29, .pointer (some ⟨rb, 0, none⟩))]) (L' := rdI rb (s, p, line, e, m)) PU PS ?_
      repeat' (first | refine KO ?_ | (refine CF 30 ?_; (with_reducible apply g_enter_bor 1); exact rfl; exact rfl; exact rfl; ((with_reducible apply e_call2); kernel_rfl; exact rfl; exact rfl); exact rfl; (exact fun w hw hO => fail_spec rb (s, p, line, e, m) 7 w _ hw hO); (rintro v2 μ2 ⟨⟩ hle2 hv); (dsimp only [List.cons_append, List.nil_append])) | refine KI ?_ | refine NB fun b => ?_ | (refine KB ?_ ?_ <;> intro hp) | refine KG ?_ | fail)
      refine gq_sel (l' := [(8, .int .i64 0)]) (L' := rdI rb (failS (s, p, line, e, m) 7)) PU PS ?_
      exact ret_bor (Post := fun _ r _ => r = .int .i64 0) (Ls := fun _ : Unit => rdI rb (failS (s, p, line, e, m) 7)) 1 () hcnt rfl (rv_tmp rfl) rfl rfl (fun _ _ => rfl)
theorem quoted_iok {x t : List UInt8} (rb : Nat) (S : RI5) (h : lastB x = some t) (hx : x.length ≤ 1000000) (w : World) (μ : Mem) (hμ : MOk μ w) (hO : Go.Vcg.Own μ (rdI rb S) w) :
    Calls Tryz.prog 64 #[.pointer (some ⟨rb, 0, none⟩), .string (ofB x)] w (RiK (idsOf (rdI rb S)) w μ rb S fun r => r = .string (ofB t)) := by
  have hcnt := ids_count hO.diff
  obtain ⟨s, p, line, e, m⟩ := S
  refine call_introM (args := [.pointer (some ⟨rb, 0, none⟩), .string (ofB x)]) Tryz.func64 rfl Tryz.ntmps64 (by simp) hμ hO ?_
  show GC _ _ _ _ _ _ [.inl ⟨rb, 55, 5, [(0, .string (ofB s)), (1, .int .i64 p), (2, .int .i64 line), (3, .int .i64 e), (4, .map (some m))]⟩]
  have hsz := ofB_size x
  obtain ⟨h1, h2, ht⟩ := quotedB_ok (lastB_ok h)
  have hrd := fun (w : World) (μ : Mem) (hμ : MOk μ w) => lread_ok h1 hx w μ hμ
  rw [List.append_nil] at h2
  have hq : ofB (quoteB t) = ofB x := by rw [h2]
  rw [show x.length - ([] : List UInt8).length = x.length from rfl] at hrd
  repeat' (first | refine KO ?_ | ((with_reducible apply F1 94); exact rfl; exact EN; (exact fun w μc hw hse => hrd w μc hw)) | ((with_reducible apply F1 41); exact rfl; exact EN; (exact fun w μc hw hse => quote_at t ht w μc hw)) | refine KI ?_ | (refine KB ?_ ?_ <;> intro hp) | refine KG ?_ | fail)
  all_goals first | (exfalso; first | omega | contradiction | exact absurd ‹_› ‹¬ _›) | skip
  refine gq_sel (l' := [(4, .string (ofB t))]) (L' := rdI rb (s, p, line, e, m)) PU PS ?_
  exact ret_bor (Post := fun _ r _ => r = .string (ofB t)) (Ls := fun _ : Unit => rdI rb (s, p, line, e, m)) 1 () hcnt rfl (rv_tmp rfl) rfl rfl (fun _ _ => rfl)
theorem quoted_ino {x : List UInt8} (rb : Nat) (S : RI5) (h : lastB x = none) (hx : x.length ≤ 1000000) (w : World) (μ : Mem) (hμ : MOk μ w) (hO : Go.Vcg.Own μ (rdI rb S) w) :
    Calls Tryz.prog 64 #[.pointer (some ⟨rb, 0, none⟩), .string (ofB x)] w (RiK (idsOf (rdI rb S)) w μ rb (failS S 7) fun r => r = .string (ofB [])) := by
  have hcnt := ids_count hO.diff
  obtain ⟨s, p, line, e, m⟩ := S
  refine call_introM (args := [.pointer (some ⟨rb, 0, none⟩), .string (ofB x)]) Tryz.func64 rfl Tryz.ntmps64 (by simp) hμ hO ?_
  show GC _ _ _ _ _ _ [.inl ⟨rb, 55, 5, [(0, .string (ofB s)), (1, .int .i64 p), (2, .int .i64 line), (3, .int .i64 e), (4, .map (some m))]⟩]
  have hsz := ofB_size x
  cases h1 : readL x with
  | error c =>
    have hc := readL_err h1
    have hrd := fun (w : World) (μ : Mem) (hμ : MOk μ w) => lread_no h1 hx w μ hμ
    repeat' (first | refine KO ?_ | ((with_reducible apply F1 94); exact rfl; exact EN; (exact fun w μc hw hse => hrd w μc hw)) | refine KI ?_ | (refine KB ?_ ?_ <;> intro hp) | refine KG ?_ | fail)
    all_goals first | (exfalso; first | omega | contradiction | exact absurd ‹_› ‹¬ _›) | skip
    refine g_sel (l' := [(28, .pointer (some ⟨rb, 0, none⟩))]) (L' := rdI rb (s, p, line, e, m)) PU PS ?_
    repeat' (first | refine KO ?_ | (refine CF 30 ?_; (with_reducible apply g_enter_bor 1); exact rfl; exact rfl; exact rfl; ((with_reducible apply e_call2); kernel_rfl; exact rfl; exact rfl); exact rfl; (exact fun w hw hO => fail_spec rb (s, p, line, e, m) 7 w _ hw hO); (rintro v2 μ2 ⟨⟩ hle2 hv); (dsimp only [List.cons_append, List.nil_append])) | refine KI ?_ | (refine KB ?_ ?_ <;> intro hp) | refine KG ?_ | fail)
    refine gq_sel (l' := [(4, .string (ofB []))]) (L' := rdI rb (failS (s, p, line, e, m) 7)) PU PS ?_
    exact ret_bor (Post := fun _ r _ => r = .string (ofB [])) (Ls := fun _ : Unit => rdI rb (failS (s, p, line, e, m) 7)) 1 () hcnt rfl (rv_tmp rfl) rfl rfl (fun _ _ => rfl)
  | ok q =>
    obtain ⟨t, u⟩ := q
    have ht := readL_len h1
    have hrd := fun (w : World) (μ : Mem) (hμ : MOk μ w) => lread_ok h1 hx w μ hμ
    obtain ⟨g1, g2⟩ := readL_suf h1
    by_cases hu : u = []
    · subst hu
      have hq : ¬ ofB (quoteB t) = ofB x := fun hh => by
        have h2 := ofB_inj hh
        unfold lastB quotedB at h
        rw [h1] at h
        dsimp only at h
        rw [List.append_nil, if_pos h2] at h
        cases h
      rw [show x.length - ([] : List UInt8).length = x.length from rfl] at hrd
      repeat' (first | refine KO ?_ | ((with_reducible apply F1 94); exact rfl; exact EN; (exact fun w μc hw hse => hrd w μc hw)) | ((with_reducible apply F1 41); exact rfl; exact EN; (exact fun w μc hw hse => quote_at t ht w μc hw)) | refine KI ?_ | (refine KB ?_ ?_ <;> intro hp) | refine KG ?_ | fail)
      all_goals first | (exfalso; first | omega | contradiction | exact absurd ‹_› ‹¬ _›) | skip
      refine g_sel (l' := [(28, .pointer (some ⟨rb, 0, none⟩))]) (L' := rdI rb (s, p, line, e, m)) PU PS ?_
      repeat' (first | refine KO ?_ | (refine CF 30 ?_; (with_reducible apply g_enter_bor 1); exact rfl; exact rfl; exact rfl; ((with_reducible apply e_call2); kernel_rfl; exact rfl; exact rfl); exact rfl; (exact fun w hw hO => fail_spec rb (s, p, line, e, m) 7 w _ hw hO); (rintro v2 μ2 ⟨⟩ hle2 hv); (dsimp only [List.cons_append, List.nil_append])) | refine KI ?_ | (refine KB ?_ ?_ <;> intro hp) | refine KG ?_ | fail)
      refine gq_sel (l' := [(4, .string (ofB []))]) (L' := rdI rb (failS (s, p, line, e, m) 7)) PU PS ?_
      exact ret_bor (Post := fun _ r _ => r = .string (ofB [])) (Ls := fun _ : Unit => rdI rb (failS (s, p, line, e, m) 7)) 1 () hcnt rfl (rv_tmp rfl) rfl rfl (fun _ _ => rfl)
    · have hul : 0 < u.length := List.length_pos_iff.2 hu
      generalize hk : x.length - u.length = k at hrd
      repeat' (first | refine KO ?_ | ((with_reducible apply F1 94); exact rfl; exact EN; (exact fun w μc hw hse => hrd w μc hw)) | ((with_reducible apply F1 41); exact rfl; exact EN; (exact fun w μc hw hse => quote_at t ht w μc hw)) | refine KI ?_ | (refine KB ?_ ?_ <;> intro hp) | refine KG ?_ | fail)
      all_goals first | (exfalso; first | omega | contradiction | exact absurd ‹_› ‹¬ _›) | skip
      refine g_sel (l' := [(28, .pointer (some ⟨rb, 0, none⟩))]) (L' := rdI rb (s, p, line, e, m)) PU PS ?_
      repeat' (first | refine KO ?_ | (refine CF 30 ?_; (with_reducible apply g_enter_bor 1); exact rfl; exact rfl; exact rfl; ((with_reducible apply e_call2); kernel_rfl; exact rfl; exact rfl); exact rfl; (exact fun w hw hO => fail_spec rb (s, p, line, e, m) 7 w _ hw hO); (rintro v2 μ2 ⟨⟩ hle2 hv); (dsimp only [List.cons_append, List.nil_append])) | refine KI ?_ | (refine KB ?_ ?_ <;> intro hp) | refine KG ?_ | fail)
      refine gq_sel (l' := [(4, .string (ofB []))]) (L' := rdI rb (failS (s, p, line, e, m) 7)) PU PS ?_
      exact ret_bor (Post := fun _ r _ => r = .string (ofB [])) (Ls := fun _ : Unit => rdI rb (failS (s, p, line, e, m) 7)) 1 () hcnt rfl (rv_tmp rfl) rfl rfl (fun _ _ => rfl)
end
end Go.Proofs.YtoclmkdfcafhfaaGreatDoor
