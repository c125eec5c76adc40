/- Package outcome: the names of errors, completions and events. No statement of the seat is proved here. -/
import Derived.Test.YtmihpkdhfomcgaaDoorMa
import Derived.Test.YtmihpkdhfomcgaaDoorVm
import Derived.Test.YtmihpkdhfomcgaaDoorVs
import Derived.Test.YtmihpkdhfomcgaaDoorBor
import Derived.Test.YtmihpkdhfomcgaaDoorSel
import Derived.Test.YtmihpkdhfomcgaaDoorBlw
import Derived.Test.YtmihpkdhfomcgaaDoorSt
set_option maxRecDepth 20000
set_option maxHeartbeats 2000000
namespace Go.Proofs.YtmihpkdhfomcgaaDoor
open Go.RowKit Go.Vcg Go.MapKept Ou
def mkE : List (Int × List UInt8) → Nat → List MapEntry
  | [], _ => []
  | (k, v) :: r, j => MapEntry.mk (.int .i64 k) (.string (ofB v)) j :: mkE r (j + 1)
def errM : List MapEntry := mkE errT 0
def foundB : List (Int × List UInt8) → Int → Bool
  | [], _ => false
  | (k, _) :: r, n => if n = k then true else foundB r n
theorem look_tab {P : Program} {et : TypeId} (hz : zeroT P et = some (.string ⟨#[]⟩)) (e : Int) : ∀ (l : List (Int × List UInt8)) (j i : Nat), lookV P et (Instr.findNow (.int .i64) (.int .i64 e) (mkE l j) i) = some (.string (ofB (tabB l e)), foundB l e)
  | [], j, i => by
    simp [mkE, Instr.findNow, lookV, hz, tabB, foundB]
    rfl
  | (k, v) :: r, j, i => by
    have ih := look_tab hz e r (j + 1) (i + 1)
    unfold mkE Instr.findNow tabB foundB
    by_cases h : e = k
    · subst h
      simp [Instr.sameNow, lookV]
    · have hk : (e == k) = false := by simpa using h
      simp [Instr.sameNow, hk, h]
      exact ih
attribute [local irreducible] G GC GQ GA GAop Calls IntKind.wrap Int.decLt Int.decLe
theorem errnos_spec (w : World) (μ : Mem) (hμ : MOk μ w) : Calls Tryd.prog 30 #[] w fun e w' => ∃ v μ', ∃ i : Nat, e = .returned v ∧ BackM [] w w' μ [.mp ⟨i, errM, 30⟩] μ' ∧ v = .map (some i) := by
  refine call_introM (args := []) (LB := []) Tryd.func30 rfl Tryd.ntmps30 (by simp) hμ ⟨by simp, by simp, List.Pairwise.nil⟩ ?_
  repeat' (first | refine KK ?_ | ((with_reducible apply g_mkmap); exact rfl; exact rfl; intro b) | ((with_reducible apply g_mapset); (first | exact .inl rfl | exact .inr rfl); (iterate 6 exact rfl); (first | exact trivial | exact rfl); (repeat first | with_reducible exact upm_hd | with_reducible apply upm_tl); exact rfl) | ((refine KB ?_ ?_ <;> intro hp)) | refine KG ?_ | fail)
  exact ret_bor (Ls := fun i => [.mp ⟨i, errM, 30⟩]) 1 b (by simp [idsOf]) rfl (by first | exact rv_tmp rfl | exact (rv_agg 0 rfl rfl rfl rfl rfl (by repeat first | exact lc_nil | refine lc_cons rfl ?_)) | exact (rv_agg 1 rfl rfl rfl rfl rfl (by repeat first | exact lc_nil | refine lc_cons rfl ?_)) | exact (rv_agg 2 rfl rfl rfl rfl rfl (by repeat first | exact lc_nil | refine lc_cons rfl ?_)) | exact (rv_agg 3 rfl rfl rfl rfl rfl (by repeat first | exact lc_nil | refine lc_cons rfl ?_))) rfl rfl (fun _ _ => rfl)
theorem errno_spec (e : Int) (w : World) (μ : Mem) (hμ : MOk μ w) : Calls Tryd.prog 13 #[.int .i64 e] w fun en w' => en = .returned (.string (ofB (errB e))) ∧ Below w.heap.size w w' := by
  refine call_intro (args := [.int .i64 e]) Tryd.func13 rfl Tryd.ntmps13 (by simp) hμ ?_
  have hl := look_tab (P := Tryd.prog) (et := 9) (by kernel_rfl) e errT 0 0
  repeat' (first | refine KO ?_ | (refine CF 30 ?_; (with_reducible apply g_enter_bor (Ls := fun i => [.mp ⟨i, errM, 30⟩]) 0); exact rfl; exact rfl; exact rfl; ((with_reducible apply e_call0); kernel_rfl); exact rfl; (exact fun w hw _ => errnos_spec w _ hw); (rintro v2 μ2 i hle2 rfl); (dsimp only [List.cons_append, List.nil_append])) | (refine KV (b := by first | ((with_reducible apply v_lookup); exact rfl; exact rfl; exact rfl; exact rfl; (first | exact trivial | exact rfl); (repeat first | with_reducible exact inm_hd | with_reducible apply inm_tl); exact hl) | ((with_reducible apply v_lookup); exact rfl; exact rfl; exact rfl; exact rfl; (first | exact trivial | exact rfl); (repeat first | with_reducible exact inm_hd | with_reducible apply inm_tl); exact rfl) | ((with_reducible apply v_lookup2); exact rfl; exact rfl; exact rfl; exact rfl; (first | exact trivial | exact rfl); (repeat first | with_reducible exact inm_hd | with_reducible apply inm_tl); exact rfl)) (c := ?_)) | refine KI ?_ | ((refine KB ?_ ?_ <;> intro hp)) | refine KG ?_ | fail)
  exact ret_s rfl rfl rfl
theorem ends_spec (k : Int) (w : World) (μ : Mem) (hμ : MOk μ w) : Calls Tryd.prog 15 #[.int .i64 k] w fun en w' => en = .returned (.string (ofB (endB k))) ∧ Below w.heap.size w w' := by
  have he : endB k = if k = 0 then [110, 111, 114, 109, 97, 108] else if k = 1 then [116, 104, 114, 111, 119] else if k = 6 then [115, 116, 111, 112] else [] := rfl
  refine call_intro (args := [.int .i64 k]) Tryd.func15 rfl Tryd.ntmps15 (by simp) hμ ?_
  rw [he]
  by_cases h0 : k = 0
  · rw [if_pos h0]
    repeat' (first | refine KK ?_ | ((refine KB ?_ ?_ <;> intro hp)) | refine KG ?_ | fail)
    all_goals first | (exfalso; omega) | exact ret_s rfl rfl rfl
  rw [if_neg h0]
  by_cases h1 : k = 1
  · rw [if_pos h1]
    repeat' (first | refine KK ?_ | ((refine KB ?_ ?_ <;> intro hp)) | refine KG ?_ | fail)
    all_goals first | (exfalso; omega) | exact ret_s rfl rfl rfl
  rw [if_neg h1]
  by_cases h6 : k = 6
  · rw [if_pos h6]
    repeat' (first | refine KK ?_ | ((refine KB ?_ ?_ <;> intro hp)) | refine KG ?_ | fail)
    all_goals first | (exfalso; omega) | exact ret_s rfl rfl rfl
  rw [if_neg h6]
  repeat' (first | refine KK ?_ | ((refine KB ?_ ?_ <;> intro hp)) | refine KG ?_ | fail)
  all_goals first | (exfalso; omega) | exact ret_s rfl rfl rfl
def evV : List Value := evT.map fun l => .string (ofB l)
theorem events_spec (w : World) (μ : Mem) (hμ : MOk μ w) : Calls Tryd.prog 17 #[] w fun e w' => ∃ v μ', ∃ i : Nat, e = .returned v ∧ BackM [] w w' μ [.inl ⟨i, 9, 13, idx 0 evV⟩] μ' ∧ v = .slice (some ⟨i, 0, none⟩) 13 13 := by
  refine call_introM (args := []) (LB := []) Tryd.func17 rfl Tryd.ntmps17 (by simp) hμ ⟨by simp, by simp, List.Pairwise.nil⟩ ?_
  repeat' (first | refine KK ?_ | refine NB fun b => ?_ | ((refine KB ?_ ?_ <;> intro hp)) | refine KG ?_ | fail)
  exact ret_bor (Ls := fun i => [.inl ⟨i, 9, 13, idx 0 evV⟩]) 1 b (by simp [idsOf]) rfl (by first | exact rv_tmp rfl | exact (rv_agg 0 rfl rfl rfl rfl rfl (by repeat first | exact lc_nil | refine lc_cons rfl ?_)) | exact (rv_agg 1 rfl rfl rfl rfl rfl (by repeat first | exact lc_nil | refine lc_cons rfl ?_)) | exact (rv_agg 2 rfl rfl rfl rfl rfl (by repeat first | exact lc_nil | refine lc_cons rfl ?_)) | exact (rv_agg 3 rfl rfl rfl rfl rfl (by repeat first | exact lc_nil | refine lc_cons rfl ?_))) rfl rfl (fun _ _ => rfl)
instance (n : Int) : Decidable (inB n) := by unfold inB; infer_instance
theorem oin_spec (n : Int) (w : World) (μ : Mem) (hμ : MOk μ w) : Calls Tryd.prog 28 #[.int .i64 n] w fun en w' => en = .returned (.bool (decide (inB n))) ∧ Below w.heap.size w w' := by
  refine call_intro (args := [.int .i64 n]) Tryd.func28 rfl Tryd.ntmps28 (by simp) hμ ?_
  by_cases h : inB n
  · rw [decide_eq_true h]
    obtain ⟨h1, h2⟩ := h
    repeat' (first | refine KK ?_ | ((refine KB ?_ ?_ <;> intro hp)) | refine KG ?_ | fail)
    all_goals first | (exfalso; omega) | exact ret_s rfl rfl rfl | (refine ret_s rfl rfl ?_; rw [decide_eq_true h2])
  · rw [decide_eq_false h]
    unfold inB at h
    repeat' (first | refine KK ?_ | ((refine KB ?_ ?_ <;> intro hp)) | refine KG ?_ | fail)
    all_goals first | (exfalso; omega) | exact ret_s rfl rfl rfl | (refine ret_s rfl rfl ?_; rw [decide_eq_false (by omega)])
end Go.Proofs.YtmihpkdhfomcgaaDoor
