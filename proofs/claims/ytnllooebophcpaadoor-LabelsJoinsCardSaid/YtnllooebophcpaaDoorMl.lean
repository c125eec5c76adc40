/- The reference's fn. (and what leans on it). No statement of the seat is proved here. -/
import Derived.Test.YtnllooebophcpaaDoorMk
import Derived.Test.YtnllooebophcpaaDoorSt
set_option maxRecDepth 20000
set_option maxHeartbeats 2000000
namespace Go.Proofs.YtnllooebophcpaaDoor
open Go.RowKit Go.Vcg
noncomputable def fnT (t : T) : Bool :=
  if t.n < 0 ∨ 255 < t.n ∨ t.s ≠ ⟨#[]⟩ ∧ formB t.s = false then false
  else (if 1 < whatT (bitT t) 5 ∨ bitT t 4 = true ∧ (bitT t 2 = true ∨ bitT t 16 = true ∨ bitT t 32 = true) ∨ bitT t 128 = true ∧ bitT t 2 = false then false else if bitT t 1 = true then decide (t.s ≠ ⟨#[]⟩) else decide (whatT (bitT t) 5 = 0) || decide (t.s = ⟨#[]⟩))
attribute [local irreducible] formB bitT whatT G GC GQ GA GAop Calls IntKind.wrap Int.decLt Int.decLe
theorem fn_spec (t : T) (u : Value) (w : World) (μ : Mem) (hμ : MOk μ w) (hk : KR μ t.kids u) (hs : t.size ≤ 100000) (hss : t.s.size ≤ 65536) :
    Calls Tryd.prog 42 #[.agg (encT t u).toArray] w fun e w' => e = .returned (.bool (fnT t)) ∧ Below w.heap.size w w' := by
  have ho := hk.one
  refine call_intro (args := [.agg (encT t u).toArray]) Tryd.func42 rfl Tryd.ntmps42 (by simp) hμ ?_
  have hform := fun (w : World) (μc : Mem) (hw : MOk μc w) => rForm_spec t.s hss w μc hw
  have hhas := fun (m : Int) (hm : m ≠ 0) (w : World) (μc : Mem) (hw : MOk μc w) (hle : MLe μ μc) => rBit_spec m hm t u w μc hw (hk.mono hle)
  by_cases h1 : t.n < 0 ∨ 255 < t.n ∨ t.s ≠ ⟨#[]⟩ ∧ formB t.s = false
  · have hg : fnT t = false := by unfold fnT; rw [if_pos h1]
    rw [hg]
    repeat' (first | ((with_reducible show GC _ _ (Code.seq (Code.region 3 _ _) _) _ _ _ _); (apply gc_stop)) | refine KO ?_ | ((with_reducible apply F1 68); exact rfl; exact EN; (exact fun w μc hw hse => hform w μc hw)) | refine KI ?_ | refine NB fun b => ?_ | ((refine KB ?_ ?_ <;> intro hp)) | refine KG ?_ | fail)
    all_goals first | exact ret_s rfl rfl rfl | (exfalso; omega) | (exfalso; simp_all; try omega)
  · repeat' (first | ((with_reducible show GC _ _ (Code.seq (Code.region 3 _ _) _) _ _ _ _); (apply gc_stop)) | refine KO ?_ | ((with_reducible apply F1 68); exact rfl; exact EN; (exact fun w μc hw hse => hform w μc hw)) | refine KI ?_ | refine NB fun b => ?_ | ((refine KB ?_ ?_ <;> intro hp)) | refine KG ?_ | fail)
    rotate_left
    · exfalso
      simp_all
    rotate_left
    all_goals
      refine gcs ?_
      rename Nat => ba
      have hg : fnT t = (if 1 < whatT (bitT t) 5 ∨ bitT t 4 = true ∧ (bitT t 2 = true ∨ bitT t 16 = true ∨ bitT t 32 = true) ∨ bitT t 128 = true ∧ bitT t 2 = false then false else if bitT t 1 = true then decide (t.s ≠ ⟨#[]⟩) else decide (whatT (bitT t) 5 = 0) || decide (t.s = ⟨#[]⟩)) := by unfold fnT; rw [if_neg h1]
      have hw5 := whatT_le (bitT t) 5
      repeat' (first | refine KK ?_ | refine NB fun b => ?_ | ((refine KB ?_ ?_ <;> intro hp)) | refine KG ?_ | fail)
      refine gc_loop (ι := Nat) (fun i => i ≤ 5) (fun i => 5 - i) (fun _ => μ) (fun i => [(5, .int .i64 i), (4, .slice (some ⟨b, 0, none⟩) 5 5), (3, .int .i64 (whatT (bitT t) i)), (1, .pointer (some ⟨ba, 0, none⟩))]) (fun _ => [.inl ⟨b, 3, 5, idx 0 [.int .i64 1, .int .i64 2, .int .i64 8, .int .i64 16, .int .i64 32]⟩, .inl ⟨ba, 24, 6, idx 0 (encT t u)⟩]) 0 (by decide) (fun a w hs => by rw [whatT_0]; exact J5 hs) ?_
      intro i hi
      have hwi := whatT_le (bitT t) i
      rcases (by omega : i = 5 ∨ i = 0 ∨ i = 1 ∨ i = 2 ∨ i = 3 ∨ i = 4) with rfl | rfl | rfl | rfl | rfl | rfl
      · rw [hg]
        clear hg h1
        repeat' (first | refine KO ?_ | ((with_reducible apply F1 69); exact rfl; exact EN; (exact fun w μc hw hse => hhas _ (by decide) w μc hw hse.le)) | refine KI ?_ | refine NB fun b => ?_ | ((refine KB ?_ ?_ <;> intro hp)) | refine KG ?_ | fail)
        all_goals clear hform hhas hk ho
        all_goals first | (refine ret_s rfl rfl ?_; simp_all; done) | (refine ret_s rfl rfl ?_; simp_all; omega) | (exfalso; simp_all; done)
      · have hn : whatT (bitT t) 1 = whatT (bitT t) 0 + (if bitT t 1 = true then 1 else 0) := whatT_s (k := 0) rfl
        cases hh : bitT t 1
        · rw [hh, if_neg (by simp), Nat.add_zero] at hn
          repeat' (first | refine KK ?_ | refine NB fun b => ?_ | ((refine KB ?_ ?_ <;> intro hp)) | refine KG ?_ | fail)
          refine gc_draw 6 _ (by kernel_rfl) rfl (List.Sublist.cons_cons _ (List.Sublist.cons_cons _ (List.nil_sublist _))) ?_
          all_goals (first | refine D1 0 ?_ | (refine DV (k := 0) (b := by first | exact U1 0) (c := ?_)) | (refine D3 0 (DW (b := by first | exact U1 0) (c := ?_))) | refine DD 0 ?_ | fail)
          all_goals refine DD 1 ?_
          all_goals refine DD 2 ?_
          all_goals (first | refine D1 3 ?_ | (refine DV (k := 3) (b := by first | exact U1 0) (c := ?_)) | refine DD 3 ?_ | fail)
          all_goals (first | refine D1 4 ?_ | (refine DV (k := 4) (b := by first | exact U1 0) (c := ?_)) | (refine D3 4 (DW (b := by first | exact U1 0) (c := ?_))) | refine DD 4 ?_ | fail)
          all_goals (first | (refine D3 5 ?_; refine D5 ?_; (with_reducible apply F1 69); exact rfl; exact EN; (exact fun w μc hw hse => hh ▸ hhas 1 (by decide) w μc hw hse.le); refine D9 ?_))
          all_goals refine D8 ?_
          repeat' (first | refine KK ?_ | refine NB fun b => ?_ | ((refine KB ?_ ?_ <;> intro hp)) | refine KG ?_ | fail)
          all_goals first | (rw [← hn]; exact J2 1 (by decide) (by decide)) | (exfalso; omega)
        · rw [hh, if_pos rfl] at hn
          repeat' (first | refine KK ?_ | refine NB fun b => ?_ | ((refine KB ?_ ?_ <;> intro hp)) | refine KG ?_ | fail)
          refine gc_draw 6 _ (by kernel_rfl) rfl (List.Sublist.cons_cons _ (List.Sublist.cons_cons _ (List.nil_sublist _))) ?_
          all_goals (first | refine D1 0 ?_ | (refine DV (k := 0) (b := by first | exact U1 0) (c := ?_)) | (refine D3 0 (DW (b := by first | exact U1 0) (c := ?_))) | refine DD 0 ?_ | fail)
          all_goals refine DD 1 ?_
          all_goals refine DD 2 ?_
          all_goals (first | refine D1 3 ?_ | (refine DV (k := 3) (b := by first | exact U1 0) (c := ?_)) | refine DD 3 ?_ | fail)
          all_goals (first | refine D1 4 ?_ | (refine DV (k := 4) (b := by first | exact U1 0) (c := ?_)) | (refine D3 4 (DW (b := by first | exact U1 0) (c := ?_))) | refine DD 4 ?_ | fail)
          all_goals (first | (refine D3 5 ?_; refine D5 ?_; (with_reducible apply F1 69); exact rfl; exact EN; (exact fun w μc hw hse => hh ▸ hhas 1 (by decide) w μc hw hse.le); refine D9 ?_))
          all_goals refine D8 ?_
          repeat' (first | refine KK ?_ | refine NB fun b => ?_ | ((refine KB ?_ ?_ <;> intro hp)) | refine KG ?_ | fail)
          all_goals first | (rw [show ((whatT (bitT t) 0 : Nat) : Int) + 1 = ((whatT (bitT t) 1 : Nat) : Int) from by omega]; exact J2 1 (by decide) (by decide)) | (exfalso; omega)
      · have hn : whatT (bitT t) 2 = whatT (bitT t) 1 + (if bitT t 2 = true then 1 else 0) := whatT_s (k := 1) rfl
        cases hh : bitT t 2
        · rw [hh, if_neg (by simp), Nat.add_zero] at hn
          repeat' (first | refine KK ?_ | refine NB fun b => ?_ | ((refine KB ?_ ?_ <;> intro hp)) | refine KG ?_ | fail)
          refine gc_draw 6 _ (by kernel_rfl) rfl (List.Sublist.cons_cons _ (List.Sublist.cons_cons _ (List.nil_sublist _))) ?_
          all_goals (first | refine D1 0 ?_ | (refine DV (k := 0) (b := by first | exact U1 1) (c := ?_)) | (refine D3 0 (DW (b := by first | exact U1 1) (c := ?_))) | refine DD 0 ?_ | fail)
          all_goals refine DD 1 ?_
          all_goals refine DD 2 ?_
          all_goals (first | refine D1 3 ?_ | (refine DV (k := 3) (b := by first | exact U1 1) (c := ?_)) | refine DD 3 ?_ | fail)
          all_goals (first | refine D1 4 ?_ | (refine DV (k := 4) (b := by first | exact U1 1) (c := ?_)) | (refine D3 4 (DW (b := by first | exact U1 1) (c := ?_))) | refine DD 4 ?_ | fail)
          all_goals (first | (refine D3 5 ?_; refine D5 ?_; (with_reducible apply F1 69); exact rfl; exact EN; (exact fun w μc hw hse => hh ▸ hhas 2 (by decide) w μc hw hse.le); refine D9 ?_))
          all_goals refine D8 ?_
          repeat' (first | refine KK ?_ | refine NB fun b => ?_ | ((refine KB ?_ ?_ <;> intro hp)) | refine KG ?_ | fail)
          all_goals first | (rw [← hn]; exact J2 2 (by decide) (by decide)) | (exfalso; omega)
        · rw [hh, if_pos rfl] at hn
          repeat' (first | refine KK ?_ | refine NB fun b => ?_ | ((refine KB ?_ ?_ <;> intro hp)) | refine KG ?_ | fail)
          refine gc_draw 6 _ (by kernel_rfl) rfl (List.Sublist.cons_cons _ (List.Sublist.cons_cons _ (List.nil_sublist _))) ?_
          all_goals (first | refine D1 0 ?_ | (refine DV (k := 0) (b := by first | exact U1 1) (c := ?_)) | (refine D3 0 (DW (b := by first | exact U1 1) (c := ?_))) | refine DD 0 ?_ | fail)
          all_goals refine DD 1 ?_
          all_goals refine DD 2 ?_
          all_goals (first | refine D1 3 ?_ | (refine DV (k := 3) (b := by first | exact U1 1) (c := ?_)) | refine DD 3 ?_ | fail)
          all_goals (first | refine D1 4 ?_ | (refine DV (k := 4) (b := by first | exact U1 1) (c := ?_)) | (refine D3 4 (DW (b := by first | exact U1 1) (c := ?_))) | refine DD 4 ?_ | fail)
          all_goals (first | (refine D3 5 ?_; refine D5 ?_; (with_reducible apply F1 69); exact rfl; exact EN; (exact fun w μc hw hse => hh ▸ hhas 2 (by decide) w μc hw hse.le); refine D9 ?_))
          all_goals refine D8 ?_
          repeat' (first | refine KK ?_ | refine NB fun b => ?_ | ((refine KB ?_ ?_ <;> intro hp)) | refine KG ?_ | fail)
          all_goals first | (rw [show ((whatT (bitT t) 1 : Nat) : Int) + 1 = ((whatT (bitT t) 2 : Nat) : Int) from by omega]; exact J2 2 (by decide) (by decide)) | (exfalso; omega)
      · have hn : whatT (bitT t) 3 = whatT (bitT t) 2 + (if bitT t 8 = true then 1 else 0) := whatT_s (k := 2) rfl
        cases hh : bitT t 8
        · rw [hh, if_neg (by simp), Nat.add_zero] at hn
          repeat' (first | refine KK ?_ | refine NB fun b => ?_ | ((refine KB ?_ ?_ <;> intro hp)) | refine KG ?_ | fail)
          refine gc_draw 6 _ (by kernel_rfl) rfl (List.Sublist.cons_cons _ (List.Sublist.cons_cons _ (List.nil_sublist _))) ?_
          all_goals (first | refine D1 0 ?_ | (refine DV (k := 0) (b := by first | exact U1 2) (c := ?_)) | (refine D3 0 (DW (b := by first | exact U1 2) (c := ?_))) | refine DD 0 ?_ | fail)
          all_goals refine DD 1 ?_
          all_goals refine DD 2 ?_
          all_goals (first | refine D1 3 ?_ | (refine DV (k := 3) (b := by first | exact U1 2) (c := ?_)) | refine DD 3 ?_ | fail)
          all_goals (first | refine D1 4 ?_ | (refine DV (k := 4) (b := by first | exact U1 2) (c := ?_)) | (refine D3 4 (DW (b := by first | exact U1 2) (c := ?_))) | refine DD 4 ?_ | fail)
          all_goals (first | (refine D3 5 ?_; refine D5 ?_; (with_reducible apply F1 69); exact rfl; exact EN; (exact fun w μc hw hse => hh ▸ hhas 8 (by decide) w μc hw hse.le); refine D9 ?_))
          all_goals refine D8 ?_
          repeat' (first | refine KK ?_ | refine NB fun b => ?_ | ((refine KB ?_ ?_ <;> intro hp)) | refine KG ?_ | fail)
          all_goals first | (rw [← hn]; exact J2 3 (by decide) (by decide)) | (exfalso; omega)
        · rw [hh, if_pos rfl] at hn
          repeat' (first | refine KK ?_ | refine NB fun b => ?_ | ((refine KB ?_ ?_ <;> intro hp)) | refine KG ?_ | fail)
          refine gc_draw 6 _ (by kernel_rfl) rfl (List.Sublist.cons_cons _ (List.Sublist.cons_cons _ (List.nil_sublist _))) ?_
          all_goals (first | refine D1 0 ?_ | (refine DV (k := 0) (b := by first | exact U1 2) (c := ?_)) | (refine D3 0 (DW (b := by first | exact U1 2) (c := ?_))) | refine DD 0 ?_ | fail)
          all_goals refine DD 1 ?_
          all_goals refine DD 2 ?_
          all_goals (first | refine D1 3 ?_ | (refine DV (k := 3) (b := by first | exact U1 2) (c := ?_)) | refine DD 3 ?_ | fail)
          all_goals (first | refine D1 4 ?_ | (refine DV (k := 4) (b := by first | exact U1 2) (c := ?_)) | (refine D3 4 (DW (b := by first | exact U1 2) (c := ?_))) | refine DD 4 ?_ | fail)
          all_goals (first | (refine D3 5 ?_; refine D5 ?_; (with_reducible apply F1 69); exact rfl; exact EN; (exact fun w μc hw hse => hh ▸ hhas 8 (by decide) w μc hw hse.le); refine D9 ?_))
          all_goals refine D8 ?_
          repeat' (first | refine KK ?_ | refine NB fun b => ?_ | ((refine KB ?_ ?_ <;> intro hp)) | refine KG ?_ | fail)
          all_goals first | (rw [show ((whatT (bitT t) 2 : Nat) : Int) + 1 = ((whatT (bitT t) 3 : Nat) : Int) from by omega]; exact J2 3 (by decide) (by decide)) | (exfalso; omega)
      · have hn : whatT (bitT t) 4 = whatT (bitT t) 3 + (if bitT t 16 = true then 1 else 0) := whatT_s (k := 3) rfl
        cases hh : bitT t 16
        · rw [hh, if_neg (by simp), Nat.add_zero] at hn
          repeat' (first | refine KK ?_ | refine NB fun b => ?_ | ((refine KB ?_ ?_ <;> intro hp)) | refine KG ?_ | fail)
          refine gc_draw 6 _ (by kernel_rfl) rfl (List.Sublist.cons_cons _ (List.Sublist.cons_cons _ (List.nil_sublist _))) ?_
          all_goals (first | refine D1 0 ?_ | (refine DV (k := 0) (b := by first | exact U1 3) (c := ?_)) | (refine D3 0 (DW (b := by first | exact U1 3) (c := ?_))) | refine DD 0 ?_ | fail)
          all_goals refine DD 1 ?_
          all_goals refine DD 2 ?_
          all_goals (first | refine D1 3 ?_ | (refine DV (k := 3) (b := by first | exact U1 3) (c := ?_)) | refine DD 3 ?_ | fail)
          all_goals (first | refine D1 4 ?_ | (refine DV (k := 4) (b := by first | exact U1 3) (c := ?_)) | (refine D3 4 (DW (b := by first | exact U1 3) (c := ?_))) | refine DD 4 ?_ | fail)
          all_goals (first | (refine D3 5 ?_; refine D5 ?_; (with_reducible apply F1 69); exact rfl; exact EN; (exact fun w μc hw hse => hh ▸ hhas 16 (by decide) w μc hw hse.le); refine D9 ?_))
          all_goals refine D8 ?_
          repeat' (first | refine KK ?_ | refine NB fun b => ?_ | ((refine KB ?_ ?_ <;> intro hp)) | refine KG ?_ | fail)
          all_goals first | (rw [← hn]; exact J2 4 (by decide) (by decide)) | (exfalso; omega)
        · rw [hh, if_pos rfl] at hn
          repeat' (first | refine KK ?_ | refine NB fun b => ?_ | ((refine KB ?_ ?_ <;> intro hp)) | refine KG ?_ | fail)
          refine gc_draw 6 _ (by kernel_rfl) rfl (List.Sublist.cons_cons _ (List.Sublist.cons_cons _ (List.nil_sublist _))) ?_
          all_goals (first | refine D1 0 ?_ | (refine DV (k := 0) (b := by first | exact U1 3) (c := ?_)) | (refine D3 0 (DW (b := by first | exact U1 3) (c := ?_))) | refine DD 0 ?_ | fail)
          all_goals refine DD 1 ?_
          all_goals refine DD 2 ?_
          all_goals (first | refine D1 3 ?_ | (refine DV (k := 3) (b := by first | exact U1 3) (c := ?_)) | refine DD 3 ?_ | fail)
          all_goals (first | refine D1 4 ?_ | (refine DV (k := 4) (b := by first | exact U1 3) (c := ?_)) | (refine D3 4 (DW (b := by first | exact U1 3) (c := ?_))) | refine DD 4 ?_ | fail)
          all_goals (first | (refine D3 5 ?_; refine D5 ?_; (with_reducible apply F1 69); exact rfl; exact EN; (exact fun w μc hw hse => hh ▸ hhas 16 (by decide) w μc hw hse.le); refine D9 ?_))
          all_goals refine D8 ?_
          repeat' (first | refine KK ?_ | refine NB fun b => ?_ | ((refine KB ?_ ?_ <;> intro hp)) | refine KG ?_ | fail)
          all_goals first | (rw [show ((whatT (bitT t) 3 : Nat) : Int) + 1 = ((whatT (bitT t) 4 : Nat) : Int) from by omega]; exact J2 4 (by decide) (by decide)) | (exfalso; omega)
      · have hn : whatT (bitT t) 5 = whatT (bitT t) 4 + (if bitT t 32 = true then 1 else 0) := whatT_s (k := 4) rfl
        cases hh : bitT t 32
        · rw [hh, if_neg (by simp), Nat.add_zero] at hn
          repeat' (first | refine KK ?_ | refine NB fun b => ?_ | ((refine KB ?_ ?_ <;> intro hp)) | refine KG ?_ | fail)
          refine gc_draw 6 _ (by kernel_rfl) rfl (List.Sublist.cons_cons _ (List.Sublist.cons_cons _ (List.nil_sublist _))) ?_
          all_goals (first | refine D1 0 ?_ | (refine DV (k := 0) (b := by first | exact U1 4) (c := ?_)) | (refine D3 0 (DW (b := by first | exact U1 4) (c := ?_))) | refine DD 0 ?_ | fail)
          all_goals refine DD 1 ?_
          all_goals refine DD 2 ?_
          all_goals (first | refine D1 3 ?_ | (refine DV (k := 3) (b := by first | exact U1 4) (c := ?_)) | refine DD 3 ?_ | fail)
          all_goals (first | refine D1 4 ?_ | (refine DV (k := 4) (b := by first | exact U1 4) (c := ?_)) | (refine D3 4 (DW (b := by first | exact U1 4) (c := ?_))) | refine DD 4 ?_ | fail)
          all_goals (first | (refine D3 5 ?_; refine D5 ?_; (with_reducible apply F1 69); exact rfl; exact EN; (exact fun w μc hw hse => hh ▸ hhas 32 (by decide) w μc hw hse.le); refine D9 ?_))
          all_goals refine D8 ?_
          repeat' (first | refine KK ?_ | refine NB fun b => ?_ | ((refine KB ?_ ?_ <;> intro hp)) | refine KG ?_ | fail)
          all_goals first | (rw [← hn]; exact J2 5 (by decide) (by decide)) | (exfalso; omega)
        · rw [hh, if_pos rfl] at hn
          repeat' (first | refine KK ?_ | refine NB fun b => ?_ | ((refine KB ?_ ?_ <;> intro hp)) | refine KG ?_ | fail)
          refine gc_draw 6 _ (by kernel_rfl) rfl (List.Sublist.cons_cons _ (List.Sublist.cons_cons _ (List.nil_sublist _))) ?_
          all_goals (first | refine D1 0 ?_ | (refine DV (k := 0) (b := by first | exact U1 4) (c := ?_)) | (refine D3 0 (DW (b := by first | exact U1 4) (c := ?_))) | refine DD 0 ?_ | fail)
          all_goals refine DD 1 ?_
          all_goals refine DD 2 ?_
          all_goals (first | refine D1 3 ?_ | (refine DV (k := 3) (b := by first | exact U1 4) (c := ?_)) | refine DD 3 ?_ | fail)
          all_goals (first | refine D1 4 ?_ | (refine DV (k := 4) (b := by first | exact U1 4) (c := ?_)) | (refine D3 4 (DW (b := by first | exact U1 4) (c := ?_))) | refine DD 4 ?_ | fail)
          all_goals (first | (refine D3 5 ?_; refine D5 ?_; (with_reducible apply F1 69); exact rfl; exact EN; (exact fun w μc hw hse => hh ▸ hhas 32 (by decide) w μc hw hse.le); refine D9 ?_))
          all_goals refine D8 ?_
          repeat' (first | refine KK ?_ | refine NB fun b => ?_ | ((refine KB ?_ ?_ <;> intro hp)) | refine KG ?_ | fail)
          all_goals first | (rw [show ((whatT (bitT t) 4 : Nat) : Int) + 1 = ((whatT (bitT t) 5 : Nat) : Int) from by omega]; exact J2 5 (by decide) (by decide)) | (exfalso; omega)
end Go.Proofs.YtnllooebophcpaaDoor
namespace Go.Proofs.YtnllooebophcpaaDoor
open Go.RowKit Go.Vcg
theorem one43 (s : ByteArray) : oneT s words43 = (decide (s = ⟨#[43, 43]⟩) || decide (s = ⟨#[45, 45]⟩)) := by
  unfold oneT eqsT words43
  simp only [List.map_cons, List.map_nil, List.any_cons, List.any_nil, Bool.or_false, id_eq]
theorem one45 (s : ByteArray) : oneT s words45 = (decide (s = ⟨#[38, 38]⟩) || (decide (s = ⟨#[124, 124]⟩) || decide (s = ⟨#[63, 63]⟩))) := by
  unfold oneT eqsT words45
  simp only [List.map_cons, List.map_nil, List.any_cons, List.any_nil, Bool.or_false, id_eq]
attribute [local irreducible] formB oneT G GC GQ GA GAop Calls IntKind.wrap Int.decLt Int.decLe
theorem rwd_42 (t : T) (u : Value) (w : World) (μ : Mem) (hμ : MOk μ w) (hk : KR μ t.kids u) (hop : t.op = 42) :
    Calls Tryd.prog 43 #[.agg (encT t u).toArray] w fun e w' => e = .returned (.bool (oneT t.s words42)) ∧ Below w.heap.size w w' := by
  have ho := hk.one
  refine call_intro (args := [.agg (encT t u).toArray]) Tryd.func43 rfl Tryd.ntmps43 (by simp) hμ ?_
  repeat' (first | refine KO ?_ | ((with_reducible apply F1 70); exact rfl; exact EN; (exact fun w μc hw hse => rOne_spec t.s words42 _ _ _ w μc hw (sl_lit hse.hd rfl (by simp) (by repeat first | exact lc_nil | refine lc_cons rfl ?_)) (by decide))) | refine KI ?_ | refine NB fun b => ?_ | ((refine KB ?_ ?_ <;> intro hp)) | refine KG ?_ | fail)
  all_goals first | exact ret_s rfl rfl rfl | (exfalso; omega)
theorem rwd_44 (t : T) (u : Value) (w : World) (μ : Mem) (hμ : MOk μ w) (hk : KR μ t.kids u) (hop : t.op = 44) :
    Calls Tryd.prog 43 #[.agg (encT t u).toArray] w fun e w' => e = .returned (.bool (oneT t.s words44)) ∧ Below w.heap.size w w' := by
  have ho := hk.one
  refine call_intro (args := [.agg (encT t u).toArray]) Tryd.func43 rfl Tryd.ntmps43 (by simp) hμ ?_
  repeat' (first | refine KO ?_ | ((with_reducible apply F1 70); exact rfl; exact EN; (exact fun w μc hw hse => rOne_spec t.s words44 _ _ _ w μc hw (sl_lit hse.hd rfl (by simp) (by repeat first | exact lc_nil | refine lc_cons rfl ?_)) (by decide))) | refine KI ?_ | refine NB fun b => ?_ | ((refine KB ?_ ?_ <;> intro hp)) | refine KG ?_ | fail)
  all_goals first | exact ret_s rfl rfl rfl | (exfalso; omega)
theorem rwd_46 (t : T) (u : Value) (w : World) (μ : Mem) (hμ : MOk μ w) (hk : KR μ t.kids u) (hop : t.op = 46) :
    Calls Tryd.prog 43 #[.agg (encT t u).toArray] w fun e w' => e = .returned (.bool (oneT t.s words46)) ∧ Below w.heap.size w w' := by
  have ho := hk.one
  refine call_intro (args := [.agg (encT t u).toArray]) Tryd.func43 rfl Tryd.ntmps43 (by simp) hμ ?_
  repeat' (first | refine KO ?_ | ((with_reducible apply F1 70); exact rfl; exact EN; (exact fun w μc hw hse => rOne_spec t.s words46 _ _ _ w μc hw (sl_lit hse.hd rfl (by simp) (by repeat first | exact lc_nil | refine lc_cons rfl ?_)) (by decide))) | refine KI ?_ | refine NB fun b => ?_ | ((refine KB ?_ ?_ <;> intro hp)) | refine KG ?_ | fail)
  all_goals first | exact ret_s rfl rfl rfl | (exfalso; omega)
theorem rwd_43 (t : T) (u : Value) (w : World) (μ : Mem) (hμ : MOk μ w) (hk : KR μ t.kids u) (hop : t.op = 43) :
    Calls Tryd.prog 43 #[.agg (encT t u).toArray] w fun e w' => e = .returned (.bool (oneT t.s words43)) ∧ Below w.heap.size w w' := by
  have ho := hk.one
  refine call_intro (args := [.agg (encT t u).toArray]) Tryd.func43 rfl Tryd.ntmps43 (by simp) hμ ?_
  rw [one43]
  repeat' (first | refine KO ?_ | ((with_reducible apply F1 70); exact rfl; exact EN; fail) | refine KI ?_ | refine NB fun b => ?_ | ((refine KB ?_ ?_ <;> intro hp)) | refine KG ?_ | fail)
  all_goals first | (exfalso; omega) | (refine ret_s rfl rfl ?_; simp_all; done)
theorem rwd_45 (t : T) (u : Value) (w : World) (μ : Mem) (hμ : MOk μ w) (hk : KR μ t.kids u) (hop : t.op = 45) :
    Calls Tryd.prog 43 #[.agg (encT t u).toArray] w fun e w' => e = .returned (.bool (oneT t.s words45)) ∧ Below w.heap.size w w' := by
  have ho := hk.one
  refine call_intro (args := [.agg (encT t u).toArray]) Tryd.func43 rfl Tryd.ntmps43 (by simp) hμ ?_
  rw [one45]
  repeat' (first | refine KO ?_ | ((with_reducible apply F1 70); exact rfl; exact EN; fail) | refine KI ?_ | refine NB fun b => ?_ | ((refine KB ?_ ?_ <;> intro hp)) | refine KG ?_ | fail)
  all_goals first | (exfalso; omega) | (refine ret_s rfl rfl ?_; simp_all; done)
theorem rWord_spec (t : T) (u : Value) (w : World) (μ : Mem) (hμ : MOk μ w) (hk : KR μ t.kids u) (hss : t.s.size ≤ 65536) :
    Calls Tryd.prog 43 #[.agg (encT t u).toArray] w fun e w' => e = .returned (.bool (wordT t)) ∧ Below w.heap.size w w' := by
  by_cases h42 : t.op = 42
  · simpa [wordT, h42] using rwd_42 t u w μ hμ hk h42
  by_cases h43 : t.op = 43
  · simpa [wordT, h43] using rwd_43 t u w μ hμ hk h43
  by_cases h44 : t.op = 44
  · simpa [wordT, h44] using rwd_44 t u w μ hμ hk h44
  by_cases h45 : t.op = 45
  · simpa [wordT, h45] using rwd_45 t u w μ hμ hk h45
  by_cases h46 : t.op = 46
  · simpa [wordT, h46] using rwd_46 t u w μ hμ hk h46
  have ho := hk.one
  refine call_intro (args := [.agg (encT t u).toArray]) Tryd.func43 rfl Tryd.ntmps43 (by simp) hμ ?_
  repeat' (first | refine KO ?_ | ((with_reducible apply F1 68); exact rfl; exact EN; (exact fun w μc hw hse => rForm_spec t.s hss w μc hw)) | ((with_reducible apply F1 70); exact rfl; exact EN; fail) | refine KI ?_ | refine NB fun b => ?_ | ((refine KB ?_ ?_ <;> intro hp)) | refine KG ?_ | fail)
  all_goals first | (exfalso; omega) | (refine ret_s rfl rfl ?_; simp_all [wordT])
end Go.Proofs.YtnllooebophcpaaDoor
namespace Go.Proofs.YtnllooebophcpaaDoor
open Go.RowKit Go.Vcg
def compT (t : T) : Bool := decide (t.op = 62) || (decide (t.op = 39) && decide (t.n ≠ 3) && decide (t.n ≠ 4))
def badT (t : T) : Bool := decide (t.at' < 0) || (decide (t.m ≠ 0) && (decide (t.m ≠ 1) || !compT t))
noncomputable def fieldsT (t : T) : Bool :=
  if badT t = true then false else if t.op = 4 then bitsT t else decide (0 ≤ t.n) && decide (t.n ≤ mostT t.op) && wordT t
attribute [local irreducible] bitsT wordT mostT G GC GQ GA GAop Calls IntKind.wrap Int.decLt Int.decLe
theorem fields_spec' (t : T) (u : Value) (w : World) (μ : Mem) (hμ : MOk μ w) (hk : KR μ t.kids u) (hs : t.size ≤ 100000) (hss : t.s.size ≤ 65536) (hT : TabA μ) :
    Calls Tryd.prog 30 #[.agg (encT t u).toArray] w fun e w' => e = .returned (.bool (fieldsT t)) ∧ Below w.heap.size w w' := by
  have ho := hk.one
  refine call_intro (args := [.agg (encT t u).toArray]) Tryd.func30 rfl Tryd.ntmps30 (by simp) hμ ?_
  cases hb : badT t
  · by_cases h4 : t.op = 4
    · have hg : fieldsT t = bitsT t := by unfold fieldsT; rw [if_neg (by simp [hb]), if_pos h4]
      rw [hg]
      clear hg
      repeat' (first | refine KO ?_ | ((with_reducible apply F1 48); exact rfl; exact EN; (exact fun w μc hw hse => bits_spec t u w μc hw (hk.mono hse.le) hs hss)) | refine KI ?_ | refine NB fun b => ?_ | ((refine KB ?_ ?_ <;> intro hp)) | refine KG ?_ | fail)
      all_goals first | exact ret_s rfl rfl rfl | (exfalso; simp_all [badT, compT]; done) | (exfalso; simp_all [badT, compT]; omega) | (exfalso; omega)
    · have hg : fieldsT t = (decide (0 ≤ t.n) && decide (t.n ≤ mostT t.op) && wordT t) := by unfold fieldsT; rw [if_neg (by simp [hb]), if_neg h4]
      rw [hg]
      clear hg
      repeat' (first | refine KO ?_ | ((with_reducible apply F1 48); exact rfl; exact EN; fail) | refine KI ?_ | refine NB fun b => ?_ | ((refine KB ?_ ?_ <;> intro hp)) | refine KG ?_ | fail)
      all_goals first | (exfalso; omega) | (exfalso; clear hk hT hμ; simp_all [badT, compT]; done) | (exfalso; clear hk hT hμ; simp_all [badT, compT]; omega) | skip
      all_goals
        refine gc_draw 16 _ (by kernel_rfl) rfl (List.Sublist.cons_cons _ (List.nil_sublist _)) ?_
        all_goals refine DD 0 ?_
        all_goals refine DD 1 ?_
        all_goals refine DD 2 ?_
        all_goals refine DD 3 ?_
        all_goals (try (refine D7 4 ?_; (repeat' (first | refine KO ?_ | (refine KB ?_ ?_ <;> intro hp)))))
        all_goals refine DD 4 ?_
        all_goals refine DD 5 ?_
        all_goals refine DD 6 ?_
        all_goals refine DD 7 ?_
        all_goals (first | (refine D3 8 ?_; refine D5 ?_; (first | ((with_reducible apply F1 49); exact rfl; exact EN; (exact fun w μc hw hse => most_spec t.op w μc hw)) | ((with_reducible apply F1 50); exact rfl; exact EN; (exact fun w μc hw hse => word_spec t u w μc hw (hk.mono hse.le) hss (hT.mono hse.le)))); refine D9 ?_) | refine D3 8 (D6 ?_))
        all_goals refine DD 9 ?_
        all_goals refine DD 10 ?_
        all_goals refine DD 11 ?_
        all_goals (try (refine D7 12 ?_; (repeat' (first | refine KO ?_ | (refine KB ?_ ?_ <;> intro hp)))))
        all_goals refine DD 12 ?_
        all_goals (first | (refine D3 13 ?_; refine D5 ?_; (first | ((with_reducible apply F1 49); exact rfl; exact EN; (exact fun w μc hw hse => most_spec t.op w μc hw)) | ((with_reducible apply F1 50); exact rfl; exact EN; (exact fun w μc hw hse => word_spec t u w μc hw (hk.mono hse.le) hss (hT.mono hse.le)))); refine D9 ?_) | refine D3 13 (D6 ?_))
        all_goals refine DD 14 ?_
        all_goals refine DD 15 ?_
        all_goals refine D8 ?_
        repeat' (first | refine KK ?_ | refine NB fun b => ?_ | ((refine KB ?_ ?_ <;> intro hp)) | refine KG ?_ | fail)
        all_goals (refine ret_s rfl rfl ?_; simp_all; try (intros; omega))
  · have hg : fieldsT t = false := by unfold fieldsT; rw [if_pos hb]
    rw [hg]
    clear hg
    repeat' (first | refine KO ?_ | ((with_reducible apply F1 48); exact rfl; exact EN; fail) | refine KI ?_ | refine NB fun b => ?_ | ((refine KB ?_ ?_ <;> intro hp)) | refine KG ?_ | fail)
    all_goals first | exact ret_s rfl rfl rfl | (exfalso; clear hk hT hμ; simp_all [badT, compT]; done) | (exfalso; clear hk hT hμ; simp_all [badT, compT]; omega) | (exfalso; omega)
end Go.Proofs.YtnllooebophcpaaDoor
namespace Go.Proofs.YtnllooebophcpaaDoor
open Go.RowKit Go.Vcg
noncomputable def rFieldsT (t : T) : Bool :=
  if badT t = true then false else if t.op = 4 then fnT t else decide (0 ≤ t.n) && decide (t.n ≤ mostT t.op) && wordT t
attribute [local irreducible] fnT wordT mostT G GC GQ GA GAop Calls IntKind.wrap Int.decLt Int.decLe
theorem rFields_spec (t : T) (u : Value) (w : World) (μ : Mem) (hμ : MOk μ w) (hk : KR μ t.kids u) (hs : t.size ≤ 100000) (hss : t.s.size ≤ 65536) :
    Calls Tryd.prog 22 #[.agg (encT t u).toArray] w fun e w' => e = .returned (.bool (rFieldsT t)) ∧ Below w.heap.size w w' := by
  have ho := hk.one
  refine call_intro (args := [.agg (encT t u).toArray]) Tryd.func22 rfl Tryd.ntmps22 (by simp) hμ ?_
  have hbd : badT t = (decide (t.at' < 0) || (decide (t.m ≠ 0) && (decide (t.m ≠ 1) || !compT t))) := rfl
  repeat' (first | ((with_reducible show GC _ _ (Code.seq (Code.region 1 _ _) _) _ _ _ _); (apply gc_stop)) | refine KK ?_ | refine NB fun b => ?_ | ((refine KB ?_ ?_ <;> intro hp)) | refine KG ?_ | fail)
  refine gcs (gc_join (ι := Unit) (fun _ => True) (fun _ => μ) (fun _ => [(3, .bool (compT t)), (1, .pointer (some ⟨b, 0, none⟩))]) (fun _ => [.inl ⟨b, 24, 6, idx 0 (encT t u)⟩]) ?_ ?_)
  · by_cases h62 : t.op = 62
    · have hc : compT t = true := by unfold compT; rw [decide_eq_true h62, Bool.true_or]
      rw [hc]
      repeat' (first | refine KK ?_ | refine NB fun b => ?_ | ((refine KB ?_ ?_ <;> intro hp)) | refine KG ?_ | fail)
      all_goals first | (exfalso; omega) | skip
      all_goals try rw [decide_eq_true h62]
      all_goals exact J1 () trivial
    · by_cases h39 : t.op = 39 ∧ t.n ≠ 3 ∧ t.n ≠ 4
      · have hc : compT t = true := by unfold compT; rw [decide_eq_true h39.1, decide_eq_true h39.2.1, decide_eq_true h39.2.2]; simp
        rw [hc]
        repeat' (first | refine KK ?_ | refine NB fun b => ?_ | ((refine KB ?_ ?_ <;> intro hp)) | refine KG ?_ | fail)
        all_goals first | (exfalso; omega) | exact J1 () trivial
      · have hc : compT t = false := by
          unfold compT
          rw [decide_eq_false h62, Bool.false_or, Bool.eq_false_iff]
          intro h
          simp only [Bool.and_eq_true, decide_eq_true_eq] at h
          exact h39 ⟨h.1.1, h.1.2, h.2⟩
        rw [hc]
        repeat' (first | refine KK ?_ | refine NB fun b => ?_ | ((refine KB ?_ ?_ <;> intro hp)) | refine KG ?_ | fail)
        all_goals first | (exfalso; omega) | skip
        all_goals try rw [decide_eq_false h62]
        all_goals exact J1 () trivial
  · intro _ _
    generalize compT t = m at hbd
    cases hb : badT t
    · rw [hb] at hbd
      by_cases h4 : t.op = 4
      · have hg : rFieldsT t = fnT t := by unfold rFieldsT; rw [if_neg (by simp [hb]), if_pos h4]
        rw [hg]
        clear hg
        cases m
        all_goals
          simp at hbd
          repeat' (first | refine KO ?_ | ((with_reducible apply F1 42); exact rfl; exact EN; (exact fun w μc hw hse => fn_spec t u w μc hw (hk.mono hse.le) hs hss)) | ((with_reducible apply F1 43); exact rfl; exact EN; fail) | refine KI ?_ | refine NB fun b => ?_ | ((refine KB ?_ ?_ <;> intro hp)) | refine KG ?_ | fail)
          all_goals first | exact ret_s rfl rfl rfl | (exfalso; omega)
      · have hg : rFieldsT t = (decide (0 ≤ t.n) && decide (t.n ≤ mostT t.op) && wordT t) := by unfold rFieldsT; rw [if_neg (by simp [hb]), if_neg h4]
        rw [hg]
        clear hg
        cases m
        all_goals
          simp at hbd
          repeat' (first | ((with_reducible show GC _ _ (Code.seq (Code.region 4 _ _) _) _ _ _ _); (apply gc_stop)) | refine KK ?_ | refine NB fun b => ?_ | ((refine KB ?_ ?_ <;> intro hp)) | refine KG ?_ | fail)
          all_goals first | (exfalso; omega) | skip
        all_goals
          refine gcs ?_
          repeat' (first | ((with_reducible show GC _ _ (Code.seq (Code.seq (Code.region 5 _ _) _) _) _ _ _ _); (apply gc_stop)) | refine KK ?_ | refine NB fun b => ?_ | ((refine KB ?_ ?_ <;> intro hp)) | refine KG ?_ | fail)
          refine gcs (gc_join (ι := Unit) (fun _ => True) (fun _ => μ) (fun _ => [(4, .int .i64 (mostT t.op)), (1, .pointer (some ⟨b, 0, none⟩))]) (fun _ => [.inl ⟨b, 24, 6, idx 0 (encT t u)⟩]) ?_ ?_)
          rotate_left
          · intro _ _
            repeat' (first | refine KO ?_ | ((with_reducible apply F1 43); exact rfl; exact EN; (exact fun w μc hw hse => rWord_spec t u w μc hw (hk.mono hse.le) hss)) | refine KI ?_ | refine NB fun b => ?_ | ((refine KB ?_ ?_ <;> intro hp)) | refine KG ?_ | fail)
            all_goals (clear hk hμ ho; refine ret_s rfl rfl ?_; simp_all; try (intros; omega))
          by_cases hc1 : t.op = 1 ∨ t.op = 22 ∨ t.op = 32 ∨ t.op = 43 ∨ t.op = 49 ∨ t.op = 51 ∨ t.op = 52 ∨ t.op = 54
          · have hm : mostT t.op = 1 := by unfold mostT; (repeat first | rw [if_pos (by omega)] | rw [if_neg (by omega)])
            rw [hm]
            repeat' (first | refine KO ?_ | ((with_reducible apply F1 42); exact rfl; exact EN; fail) | refine KI ?_ | refine NB fun b => ?_ | ((refine KB ?_ ?_ <;> intro hp)) | refine KG ?_ | fail)
            all_goals first | (exfalso; omega) | exact J1 () trivial
          by_cases hc2 : t.op = 2
          · have hm : mostT t.op = 2 := by unfold mostT; (repeat first | rw [if_pos (by omega)] | rw [if_neg (by omega)])
            rw [hm]
            repeat' (first | refine KO ?_ | ((with_reducible apply F1 42); exact rfl; exact EN; fail) | refine KI ?_ | refine NB fun b => ?_ | ((refine KB ?_ ?_ <;> intro hp)) | refine KG ?_ | fail)
            all_goals first | (exfalso; omega) | exact J1 () trivial
          by_cases hc9007199254740992 : t.op = 30
          · have hm : mostT t.op = 9007199254740992 := by unfold mostT; (repeat first | rw [if_pos (by omega)] | rw [if_neg (by omega)])
            rw [hm]
            repeat' (first | refine KO ?_ | ((with_reducible apply F1 42); exact rfl; exact EN; fail) | refine KI ?_ | refine NB fun b => ?_ | ((refine KB ?_ ?_ <;> intro hp)) | refine KG ?_ | fail)
            all_goals first | (exfalso; omega) | exact J1 () trivial
          by_cases hc5 : t.op = 39
          · have hm : mostT t.op = 5 := by unfold mostT; (repeat first | rw [if_pos (by omega)] | rw [if_neg (by omega)])
            rw [hm]
            repeat' (first | refine KO ?_ | ((with_reducible apply F1 42); exact rfl; exact EN; fail) | refine KI ?_ | refine NB fun b => ?_ | ((refine KB ?_ ?_ <;> intro hp)) | refine KG ?_ | fail)
            all_goals first | (exfalso; omega) | exact J1 () trivial
          have hm : mostT t.op = 0 := by unfold mostT; (repeat first | rw [if_neg (by omega)] | rw [if_pos (by omega)])
          rw [hm]
          repeat' (first | refine KO ?_ | ((with_reducible apply F1 42); exact rfl; exact EN; fail) | refine KI ?_ | refine NB fun b => ?_ | ((refine KB ?_ ?_ <;> intro hp)) | refine KG ?_ | fail)
          all_goals first | (exfalso; omega) | exact J1 () trivial
    · have hg : rFieldsT t = false := by unfold rFieldsT; rw [if_pos hb]
      rw [hg]
      clear hg
      rw [hb] at hbd
      cases m
      all_goals
        simp at hbd
        repeat' (first | ((with_reducible show GC _ _ (Code.seq (Code.region 4 _ _) _) _ _ _ _); (apply gc_stop)) | refine KK ?_ | refine NB fun b => ?_ | ((refine KB ?_ ?_ <;> intro hp)) | refine KG ?_ | fail)
        all_goals first | exact ret_s rfl rfl rfl | (exfalso; omega)
end Go.Proofs.YtnllooebophcpaaDoor
namespace Go.Proofs.YtnllooebophcpaaDoor
open Go.RowKit Go.Vcg
def keyS (t : T) : ByteArray := if t.m = 1 then ⟨#[69]⟩ else ⟨#[107]⟩
def propS (t : T) : ByteArray :=
  if t.n = 0 then keyS t ++ ⟨#[69]⟩ else if t.n = 1 then keyS t ++ ⟨#[103]⟩ else if t.n = 2 then keyS t ++ ⟨#[115]⟩ else if t.n = 3 then ⟨#[119]⟩ else if t.n = 4 then ⟨#[69]⟩ else if t.n = 5 then keyS t ++ ⟨#[109]⟩ else ⟨#[33]⟩
def moreS (t : T) : ByteArray :=
  if t.op = 21 then ⟨#[69, 75, 42]⟩
  else if t.op = 22 then (if t.n = 1 then ⟨#[83, 42]⟩ else ⟨#[69, 83, 42]⟩)
  else if t.op = 23 then ⟨#[83]⟩
  else if t.op = 37 then ⟨#[65, 42]⟩
  else if t.op = 38 then ⟨#[82, 42]⟩
  else if t.op = 39 then (propS t)
  else if t.op = 43 then ⟨#[116]⟩
  else if t.op = 44 ∨ t.op = 45 ∨ t.op = 52 then ⟨#[69, 69]⟩
  else if t.op = 46 then (if t.s = ⟨#[61]⟩ then ⟨#[84, 69]⟩ else ⟨#[116, 69]⟩)
  else if t.op = 47 then ⟨#[69, 69, 69]⟩
  else if t.op = 48 then ⟨#[69, 69, 69, 42]⟩
  else if t.op = 49 ∨ t.op = 50 then ⟨#[69, 97, 42]⟩
  else if t.op = 51 then ⟨#[69]⟩
  else if t.op = 53 then ⟨#[99]⟩
  else if t.op = 54 then (if t.n = 1 then ⟨#[69]⟩ else ⟨#[69, 63]⟩)
  else if t.op = 60 then ⟨#[72, 42, 90, 63]⟩
  else if t.op = 61 then ⟨#[81, 42, 90, 63]⟩
  else if t.op = 62 then (if t.m = 1 then ⟨#[69, 70]⟩ else ⟨#[107, 70]⟩)
  else if t.op = 63 then ⟨#[84, 69]⟩
  else if t.op = 64 then ⟨#[84]⟩
  else ⟨#[33]⟩
def kindsS (t : T) : ByteArray :=
  if t.op = 1 ∨ t.op = 6 then ⟨#[83, 42]⟩
  else if t.op = 2 then ⟨#[68, 68, 42]⟩
  else if t.op = 3 then ⟨#[84, 69, 63]⟩
  else if t.op = 4 then (if (IntKind.i64.wrap (t.n.tdiv 128)).tmod 2 = 1 then ⟨#[80, 69]⟩ else ⟨#[80, 66]⟩)
  else if t.op = 5 then ⟨#[70, 42, 90, 63]⟩
  else if t.op = 7 ∨ t.op = 15 ∨ t.op = 16 ∨ t.op = 30 ∨ t.op = 31 ∨ t.op = 32 ∨ t.op = 33 ∨ t.op = 34 ∨ t.op = 35 ∨ t.op = 40 then ⟨#[]⟩
  else if t.op = 8 ∨ t.op = 18 ∨ t.op = 41 ∨ t.op = 42 then ⟨#[69]⟩
  else if t.op = 9 then ⟨#[69, 83, 83, 63]⟩
  else if t.op = 10 then ⟨#[73, 77, 77, 83]⟩
  else if t.op = 11 ∨ t.op = 12 then ⟨#[76, 69, 83]⟩
  else if t.op = 13 then ⟨#[69, 83]⟩
  else if t.op = 14 then ⟨#[83, 69]⟩
  else if t.op = 17 then ⟨#[69, 63]⟩
  else if t.op = 19 then ⟨#[66, 67, 89]⟩
  else if t.op = 20 then ⟨#[71, 66]⟩
  else moreS t
theorem keyS_size (t : T) : (keyS t).size = 1 := by unfold keyS; split <;> rfl
attribute [local irreducible] keyS G GC GQ GA GAop Calls IntKind.wrap Int.decLt Int.decLe
theorem rProp_spec (t : T) (u : Value) (w : World) (μ : Mem) (hμ : MOk μ w) (hk : KR μ t.kids u) :
    Calls Tryd.prog 71 #[.agg (encT t u).toArray] w fun e w' => e = .returned (.string (propS t)) ∧ Below w.heap.size w w' := by
  have ho := hk.one
  refine call_intro (args := [.agg (encT t u).toArray]) Tryd.func71 rfl Tryd.ntmps71 (by simp) hμ ?_
  by_cases hm : t.m = 1
  · have hg : keyS t = ⟨#[69]⟩ := by unfold keyS; rw [if_pos hm]
    unfold propS
    rw [hg]
    repeat' (first | refine KO ?_ | (refine KV (b := by first | ((with_reducible apply v_sadd); exact rfl; exact rfl; decide)) (c := ?_)) | refine KI ?_ | refine NB fun b => ?_ | ((refine KB ?_ ?_ <;> intro hp)) | refine KG ?_ | fail)
    all_goals first | (exfalso; omega) | (refine ret_s rfl rfl ?_; (repeat first | rw [if_pos (by omega)] | rw [if_neg (by omega)]); done)
  · have hg : keyS t = ⟨#[107]⟩ := by unfold keyS; rw [if_neg hm]
    unfold propS
    rw [hg]
    repeat' (first | refine KO ?_ | (refine KV (b := by first | ((with_reducible apply v_sadd); exact rfl; exact rfl; decide)) (c := ?_)) | refine KI ?_ | refine NB fun b => ?_ | ((refine KB ?_ ?_ <;> intro hp)) | refine KG ?_ | fail)
    all_goals first | (exfalso; omega) | (refine ret_s rfl rfl ?_; (repeat first | rw [if_pos (by omega)] | rw [if_neg (by omega)]); done)
theorem more_spec (t : T) (u : Value) (w : World) (μ : Mem) (hμ : MOk μ w) (hk : KR μ t.kids u) :
    Calls Tryd.prog 45 #[.agg (encT t u).toArray] w fun e w' => e = .returned (.string (moreS t)) ∧ Below w.heap.size w w' := by
  have ho := hk.one
  refine call_intro (args := [.agg (encT t u).toArray]) Tryd.func45 rfl Tryd.ntmps45 (by simp) hμ ?_
  unfold moreS
  by_cases h21 : t.op = 21
  · rw [if_pos h21]
    repeat' (first | refine KO ?_ | ((with_reducible apply F1 71); exact rfl; exact EN; (exact fun w μc hw hse => rProp_spec t u w μc hw (hk.mono hse.le))) | refine KI ?_ | refine NB fun b => ?_ | ((refine KB ?_ ?_ <;> intro hp)) | refine KG ?_ | fail)
    all_goals first | exact ret_s rfl rfl rfl | (exfalso; omega)
  rw [if_neg h21]
  by_cases h22 : t.op = 22
  · rw [if_pos h22]
    by_cases hs22 : t.n = 1
    · rw [if_pos hs22]
      repeat' (first | refine KO ?_ | ((with_reducible apply F1 71); exact rfl; exact EN; (exact fun w μc hw hse => rProp_spec t u w μc hw (hk.mono hse.le))) | refine KI ?_ | refine NB fun b => ?_ | ((refine KB ?_ ?_ <;> intro hp)) | refine KG ?_ | fail)
      all_goals first | exact ret_s rfl rfl rfl | (exfalso; omega) | exact absurd ‹_› hs22 | exact absurd hs22 ‹_›
    · rw [if_neg hs22]
      repeat' (first | refine KO ?_ | ((with_reducible apply F1 71); exact rfl; exact EN; (exact fun w μc hw hse => rProp_spec t u w μc hw (hk.mono hse.le))) | refine KI ?_ | refine NB fun b => ?_ | ((refine KB ?_ ?_ <;> intro hp)) | refine KG ?_ | fail)
      all_goals first | exact ret_s rfl rfl rfl | (exfalso; omega) | exact absurd ‹_› hs22 | exact absurd hs22 ‹_›
  rw [if_neg h22]
  by_cases h23 : t.op = 23
  · rw [if_pos h23]
    repeat' (first | refine KO ?_ | ((with_reducible apply F1 71); exact rfl; exact EN; (exact fun w μc hw hse => rProp_spec t u w μc hw (hk.mono hse.le))) | refine KI ?_ | refine NB fun b => ?_ | ((refine KB ?_ ?_ <;> intro hp)) | refine KG ?_ | fail)
    all_goals first | exact ret_s rfl rfl rfl | (exfalso; omega)
  rw [if_neg h23]
  by_cases h37 : t.op = 37
  · rw [if_pos h37]
    repeat' (first | refine KO ?_ | ((with_reducible apply F1 71); exact rfl; exact EN; (exact fun w μc hw hse => rProp_spec t u w μc hw (hk.mono hse.le))) | refine KI ?_ | refine NB fun b => ?_ | ((refine KB ?_ ?_ <;> intro hp)) | refine KG ?_ | fail)
    all_goals first | exact ret_s rfl rfl rfl | (exfalso; omega)
  rw [if_neg h37]
  by_cases h38 : t.op = 38
  · rw [if_pos h38]
    repeat' (first | refine KO ?_ | ((with_reducible apply F1 71); exact rfl; exact EN; (exact fun w μc hw hse => rProp_spec t u w μc hw (hk.mono hse.le))) | refine KI ?_ | refine NB fun b => ?_ | ((refine KB ?_ ?_ <;> intro hp)) | refine KG ?_ | fail)
    all_goals first | exact ret_s rfl rfl rfl | (exfalso; omega)
  rw [if_neg h38]
  by_cases h39 : t.op = 39
  · rw [if_pos h39]
    repeat' (first | refine KO ?_ | ((with_reducible apply F1 71); exact rfl; exact EN; (exact fun w μc hw hse => rProp_spec t u w μc hw (hk.mono hse.le))) | refine KI ?_ | refine NB fun b => ?_ | ((refine KB ?_ ?_ <;> intro hp)) | refine KG ?_ | fail)
    all_goals first | exact ret_s rfl rfl rfl | (exfalso; omega)
  rw [if_neg h39]
  by_cases h43 : t.op = 43
  · rw [if_pos h43]
    repeat' (first | refine KO ?_ | ((with_reducible apply F1 71); exact rfl; exact EN; (exact fun w μc hw hse => rProp_spec t u w μc hw (hk.mono hse.le))) | refine KI ?_ | refine NB fun b => ?_ | ((refine KB ?_ ?_ <;> intro hp)) | refine KG ?_ | fail)
    all_goals first | exact ret_s rfl rfl rfl | (exfalso; omega)
  rw [if_neg h43]
  by_cases h44 : t.op = 44 ∨ t.op = 45 ∨ t.op = 52
  · rw [if_pos h44]
    repeat' (first | refine KO ?_ | ((with_reducible apply F1 71); exact rfl; exact EN; (exact fun w μc hw hse => rProp_spec t u w μc hw (hk.mono hse.le))) | refine KI ?_ | refine NB fun b => ?_ | ((refine KB ?_ ?_ <;> intro hp)) | refine KG ?_ | fail)
    all_goals first | exact ret_s rfl rfl rfl | (exfalso; omega)
  rw [if_neg h44]
  by_cases h46 : t.op = 46
  · rw [if_pos h46]
    by_cases hs46 : t.s = ⟨#[61]⟩
    · rw [if_pos hs46]
      repeat' (first | refine KO ?_ | ((with_reducible apply F1 71); exact rfl; exact EN; (exact fun w μc hw hse => rProp_spec t u w μc hw (hk.mono hse.le))) | refine KI ?_ | refine NB fun b => ?_ | ((refine KB ?_ ?_ <;> intro hp)) | refine KG ?_ | fail)
      all_goals first | exact ret_s rfl rfl rfl | (exfalso; omega) | exact absurd ‹_› hs46 | exact absurd hs46 ‹_›
    · rw [if_neg hs46]
      repeat' (first | refine KO ?_ | ((with_reducible apply F1 71); exact rfl; exact EN; (exact fun w μc hw hse => rProp_spec t u w μc hw (hk.mono hse.le))) | refine KI ?_ | refine NB fun b => ?_ | ((refine KB ?_ ?_ <;> intro hp)) | refine KG ?_ | fail)
      all_goals first | exact ret_s rfl rfl rfl | (exfalso; omega) | exact absurd ‹_› hs46 | exact absurd hs46 ‹_›
  rw [if_neg h46]
  by_cases h47 : t.op = 47
  · rw [if_pos h47]
    repeat' (first | refine KO ?_ | ((with_reducible apply F1 71); exact rfl; exact EN; (exact fun w μc hw hse => rProp_spec t u w μc hw (hk.mono hse.le))) | refine KI ?_ | refine NB fun b => ?_ | ((refine KB ?_ ?_ <;> intro hp)) | refine KG ?_ | fail)
    all_goals first | exact ret_s rfl rfl rfl | (exfalso; omega)
  rw [if_neg h47]
  by_cases h48 : t.op = 48
  · rw [if_pos h48]
    repeat' (first | refine KO ?_ | ((with_reducible apply F1 71); exact rfl; exact EN; (exact fun w μc hw hse => rProp_spec t u w μc hw (hk.mono hse.le))) | refine KI ?_ | refine NB fun b => ?_ | ((refine KB ?_ ?_ <;> intro hp)) | refine KG ?_ | fail)
    all_goals first | exact ret_s rfl rfl rfl | (exfalso; omega)
  rw [if_neg h48]
  by_cases h49 : t.op = 49 ∨ t.op = 50
  · rw [if_pos h49]
    repeat' (first | refine KO ?_ | ((with_reducible apply F1 71); exact rfl; exact EN; (exact fun w μc hw hse => rProp_spec t u w μc hw (hk.mono hse.le))) | refine KI ?_ | refine NB fun b => ?_ | ((refine KB ?_ ?_ <;> intro hp)) | refine KG ?_ | fail)
    all_goals first | exact ret_s rfl rfl rfl | (exfalso; omega)
  rw [if_neg h49]
  by_cases h51 : t.op = 51
  · rw [if_pos h51]
    repeat' (first | refine KO ?_ | ((with_reducible apply F1 71); exact rfl; exact EN; (exact fun w μc hw hse => rProp_spec t u w μc hw (hk.mono hse.le))) | refine KI ?_ | refine NB fun b => ?_ | ((refine KB ?_ ?_ <;> intro hp)) | refine KG ?_ | fail)
    all_goals first | exact ret_s rfl rfl rfl | (exfalso; omega)
  rw [if_neg h51]
  by_cases h53 : t.op = 53
  · rw [if_pos h53]
    repeat' (first | refine KO ?_ | ((with_reducible apply F1 71); exact rfl; exact EN; (exact fun w μc hw hse => rProp_spec t u w μc hw (hk.mono hse.le))) | refine KI ?_ | refine NB fun b => ?_ | ((refine KB ?_ ?_ <;> intro hp)) | refine KG ?_ | fail)
    all_goals first | exact ret_s rfl rfl rfl | (exfalso; omega)
  rw [if_neg h53]
  by_cases h54 : t.op = 54
  · rw [if_pos h54]
    by_cases hs54 : t.n = 1
    · rw [if_pos hs54]
      repeat' (first | refine KO ?_ | ((with_reducible apply F1 71); exact rfl; exact EN; (exact fun w μc hw hse => rProp_spec t u w μc hw (hk.mono hse.le))) | refine KI ?_ | refine NB fun b => ?_ | ((refine KB ?_ ?_ <;> intro hp)) | refine KG ?_ | fail)
      all_goals first | exact ret_s rfl rfl rfl | (exfalso; omega) | exact absurd ‹_› hs54 | exact absurd hs54 ‹_›
    · rw [if_neg hs54]
      repeat' (first | refine KO ?_ | ((with_reducible apply F1 71); exact rfl; exact EN; (exact fun w μc hw hse => rProp_spec t u w μc hw (hk.mono hse.le))) | refine KI ?_ | refine NB fun b => ?_ | ((refine KB ?_ ?_ <;> intro hp)) | refine KG ?_ | fail)
      all_goals first | exact ret_s rfl rfl rfl | (exfalso; omega) | exact absurd ‹_› hs54 | exact absurd hs54 ‹_›
  rw [if_neg h54]
  by_cases h60 : t.op = 60
  · rw [if_pos h60]
    repeat' (first | refine KO ?_ | ((with_reducible apply F1 71); exact rfl; exact EN; (exact fun w μc hw hse => rProp_spec t u w μc hw (hk.mono hse.le))) | refine KI ?_ | refine NB fun b => ?_ | ((refine KB ?_ ?_ <;> intro hp)) | refine KG ?_ | fail)
    all_goals first | exact ret_s rfl rfl rfl | (exfalso; omega)
  rw [if_neg h60]
  by_cases h61 : t.op = 61
  · rw [if_pos h61]
    repeat' (first | refine KO ?_ | ((with_reducible apply F1 71); exact rfl; exact EN; (exact fun w μc hw hse => rProp_spec t u w μc hw (hk.mono hse.le))) | refine KI ?_ | refine NB fun b => ?_ | ((refine KB ?_ ?_ <;> intro hp)) | refine KG ?_ | fail)
    all_goals first | exact ret_s rfl rfl rfl | (exfalso; omega)
  rw [if_neg h61]
  by_cases h62 : t.op = 62
  · rw [if_pos h62]
    by_cases hs62 : t.m = 1
    · rw [if_pos hs62]
      repeat' (first | refine KO ?_ | ((with_reducible apply F1 71); exact rfl; exact EN; (exact fun w μc hw hse => rProp_spec t u w μc hw (hk.mono hse.le))) | refine KI ?_ | refine NB fun b => ?_ | ((refine KB ?_ ?_ <;> intro hp)) | refine KG ?_ | fail)
      all_goals first | exact ret_s rfl rfl rfl | (exfalso; omega) | exact absurd ‹_› hs62 | exact absurd hs62 ‹_›
    · rw [if_neg hs62]
      repeat' (first | refine KO ?_ | ((with_reducible apply F1 71); exact rfl; exact EN; (exact fun w μc hw hse => rProp_spec t u w μc hw (hk.mono hse.le))) | refine KI ?_ | refine NB fun b => ?_ | ((refine KB ?_ ?_ <;> intro hp)) | refine KG ?_ | fail)
      all_goals first | exact ret_s rfl rfl rfl | (exfalso; omega) | exact absurd ‹_› hs62 | exact absurd hs62 ‹_›
  rw [if_neg h62]
  by_cases h63 : t.op = 63
  · rw [if_pos h63]
    repeat' (first | refine KO ?_ | ((with_reducible apply F1 71); exact rfl; exact EN; (exact fun w μc hw hse => rProp_spec t u w μc hw (hk.mono hse.le))) | refine KI ?_ | refine NB fun b => ?_ | ((refine KB ?_ ?_ <;> intro hp)) | refine KG ?_ | fail)
    all_goals first | exact ret_s rfl rfl rfl | (exfalso; omega)
  rw [if_neg h63]
  by_cases h64 : t.op = 64
  · rw [if_pos h64]
    repeat' (first | refine KO ?_ | ((with_reducible apply F1 71); exact rfl; exact EN; (exact fun w μc hw hse => rProp_spec t u w μc hw (hk.mono hse.le))) | refine KI ?_ | refine NB fun b => ?_ | ((refine KB ?_ ?_ <;> intro hp)) | refine KG ?_ | fail)
    all_goals first | exact ret_s rfl rfl rfl | (exfalso; omega)
  rw [if_neg h64]
  repeat' (first | refine KO ?_ | ((with_reducible apply F1 71); exact rfl; exact EN; (exact fun w μc hw hse => rProp_spec t u w μc hw (hk.mono hse.le))) | refine KI ?_ | refine NB fun b => ?_ | ((refine KB ?_ ?_ <;> intro hp)) | refine KG ?_ | fail)
  all_goals first | exact ret_s rfl rfl rfl | (exfalso; omega)
theorem kinds_spec (t : T) (u : Value) (w : World) (μ : Mem) (hμ : MOk μ w) (hk : KR μ t.kids u) :
    Calls Tryd.prog 25 #[.agg (encT t u).toArray] w fun e w' => e = .returned (.string (kindsS t)) ∧ Below w.heap.size w w' := by
  have ho := hk.one
  refine call_intro (args := [.agg (encT t u).toArray]) Tryd.func25 rfl Tryd.ntmps25 (by simp) hμ ?_
  unfold kindsS
  by_cases h1 : t.op = 1 ∨ t.op = 6
  · rw [if_pos h1]
    repeat' (first | refine KO ?_ | ((with_reducible apply F1 45); exact rfl; exact EN; (exact fun w μc hw hse => more_spec t u w μc hw (hk.mono hse.le))) | (refine KV (b := by first | ((with_reducible apply v_quo); exact rfl; exact rfl; decide)) (c := ?_)) | refine KI ?_ | refine NB fun b => ?_ | ((refine KB ?_ ?_ <;> intro hp)) | refine KG ?_ | fail)
    all_goals first | exact ret_s rfl rfl rfl | (exfalso; omega)
  rw [if_neg h1]
  by_cases h2 : t.op = 2
  · rw [if_pos h2]
    repeat' (first | refine KO ?_ | ((with_reducible apply F1 45); exact rfl; exact EN; (exact fun w μc hw hse => more_spec t u w μc hw (hk.mono hse.le))) | (refine KV (b := by first | ((with_reducible apply v_quo); exact rfl; exact rfl; decide)) (c := ?_)) | refine KI ?_ | refine NB fun b => ?_ | ((refine KB ?_ ?_ <;> intro hp)) | refine KG ?_ | fail)
    all_goals first | exact ret_s rfl rfl rfl | (exfalso; omega)
  rw [if_neg h2]
  by_cases h3 : t.op = 3
  · rw [if_pos h3]
    repeat' (first | refine KO ?_ | ((with_reducible apply F1 45); exact rfl; exact EN; (exact fun w μc hw hse => more_spec t u w μc hw (hk.mono hse.le))) | (refine KV (b := by first | ((with_reducible apply v_quo); exact rfl; exact rfl; decide)) (c := ?_)) | refine KI ?_ | refine NB fun b => ?_ | ((refine KB ?_ ?_ <;> intro hp)) | refine KG ?_ | fail)
    all_goals first | exact ret_s rfl rfl rfl | (exfalso; omega)
  rw [if_neg h3]
  by_cases h4 : t.op = 4
  · rw [if_pos h4]
    by_cases hs4 : (IntKind.i64.wrap (t.n.tdiv 128)).tmod 2 = 1
    · rw [if_pos hs4]
      repeat' (first | refine KO ?_ | ((with_reducible apply F1 45); exact rfl; exact EN; (exact fun w μc hw hse => more_spec t u w μc hw (hk.mono hse.le))) | (refine KV (b := by first | ((with_reducible apply v_quo); exact rfl; exact rfl; decide)) (c := ?_)) | refine KI ?_ | refine NB fun b => ?_ | ((refine KB ?_ ?_ <;> intro hp)) | refine KG ?_ | fail)
      all_goals first | exact ret_s rfl rfl rfl | (exfalso; omega) | exact absurd ‹_› hs4 | exact absurd hs4 ‹_›
    · rw [if_neg hs4]
      repeat' (first | refine KO ?_ | ((with_reducible apply F1 45); exact rfl; exact EN; (exact fun w μc hw hse => more_spec t u w μc hw (hk.mono hse.le))) | (refine KV (b := by first | ((with_reducible apply v_quo); exact rfl; exact rfl; decide)) (c := ?_)) | refine KI ?_ | refine NB fun b => ?_ | ((refine KB ?_ ?_ <;> intro hp)) | refine KG ?_ | fail)
      all_goals first | exact ret_s rfl rfl rfl | (exfalso; omega) | exact absurd ‹_› hs4 | exact absurd hs4 ‹_›
  rw [if_neg h4]
  by_cases h5 : t.op = 5
  · rw [if_pos h5]
    repeat' (first | refine KO ?_ | ((with_reducible apply F1 45); exact rfl; exact EN; (exact fun w μc hw hse => more_spec t u w μc hw (hk.mono hse.le))) | (refine KV (b := by first | ((with_reducible apply v_quo); exact rfl; exact rfl; decide)) (c := ?_)) | refine KI ?_ | refine NB fun b => ?_ | ((refine KB ?_ ?_ <;> intro hp)) | refine KG ?_ | fail)
    all_goals first | exact ret_s rfl rfl rfl | (exfalso; omega)
  rw [if_neg h5]
  by_cases h7 : t.op = 7 ∨ t.op = 15 ∨ t.op = 16 ∨ t.op = 30 ∨ t.op = 31 ∨ t.op = 32 ∨ t.op = 33 ∨ t.op = 34 ∨ t.op = 35 ∨ t.op = 40
  · rw [if_pos h7]
    repeat' (first | refine KO ?_ | ((with_reducible apply F1 45); exact rfl; exact EN; (exact fun w μc hw hse => more_spec t u w μc hw (hk.mono hse.le))) | (refine KV (b := by first | ((with_reducible apply v_quo); exact rfl; exact rfl; decide)) (c := ?_)) | refine KI ?_ | refine NB fun b => ?_ | ((refine KB ?_ ?_ <;> intro hp)) | refine KG ?_ | fail)
    all_goals first | exact ret_s rfl rfl rfl | (exfalso; omega)
  rw [if_neg h7]
  by_cases h8 : t.op = 8 ∨ t.op = 18 ∨ t.op = 41 ∨ t.op = 42
  · rw [if_pos h8]
    repeat' (first | refine KO ?_ | ((with_reducible apply F1 45); exact rfl; exact EN; (exact fun w μc hw hse => more_spec t u w μc hw (hk.mono hse.le))) | (refine KV (b := by first | ((with_reducible apply v_quo); exact rfl; exact rfl; decide)) (c := ?_)) | refine KI ?_ | refine NB fun b => ?_ | ((refine KB ?_ ?_ <;> intro hp)) | refine KG ?_ | fail)
    all_goals first | exact ret_s rfl rfl rfl | (exfalso; omega)
  rw [if_neg h8]
  by_cases h9 : t.op = 9
  · rw [if_pos h9]
    repeat' (first | refine KO ?_ | ((with_reducible apply F1 45); exact rfl; exact EN; (exact fun w μc hw hse => more_spec t u w μc hw (hk.mono hse.le))) | (refine KV (b := by first | ((with_reducible apply v_quo); exact rfl; exact rfl; decide)) (c := ?_)) | refine KI ?_ | refine NB fun b => ?_ | ((refine KB ?_ ?_ <;> intro hp)) | refine KG ?_ | fail)
    all_goals first | exact ret_s rfl rfl rfl | (exfalso; omega)
  rw [if_neg h9]
  by_cases h10 : t.op = 10
  · rw [if_pos h10]
    repeat' (first | refine KO ?_ | ((with_reducible apply F1 45); exact rfl; exact EN; (exact fun w μc hw hse => more_spec t u w μc hw (hk.mono hse.le))) | (refine KV (b := by first | ((with_reducible apply v_quo); exact rfl; exact rfl; decide)) (c := ?_)) | refine KI ?_ | refine NB fun b => ?_ | ((refine KB ?_ ?_ <;> intro hp)) | refine KG ?_ | fail)
    all_goals first | exact ret_s rfl rfl rfl | (exfalso; omega)
  rw [if_neg h10]
  by_cases h11 : t.op = 11 ∨ t.op = 12
  · rw [if_pos h11]
    repeat' (first | refine KO ?_ | ((with_reducible apply F1 45); exact rfl; exact EN; (exact fun w μc hw hse => more_spec t u w μc hw (hk.mono hse.le))) | (refine KV (b := by first | ((with_reducible apply v_quo); exact rfl; exact rfl; decide)) (c := ?_)) | refine KI ?_ | refine NB fun b => ?_ | ((refine KB ?_ ?_ <;> intro hp)) | refine KG ?_ | fail)
    all_goals first | exact ret_s rfl rfl rfl | (exfalso; omega)
  rw [if_neg h11]
  by_cases h13 : t.op = 13
  · rw [if_pos h13]
    repeat' (first | refine KO ?_ | ((with_reducible apply F1 45); exact rfl; exact EN; (exact fun w μc hw hse => more_spec t u w μc hw (hk.mono hse.le))) | (refine KV (b := by first | ((with_reducible apply v_quo); exact rfl; exact rfl; decide)) (c := ?_)) | refine KI ?_ | refine NB fun b => ?_ | ((refine KB ?_ ?_ <;> intro hp)) | refine KG ?_ | fail)
    all_goals first | exact ret_s rfl rfl rfl | (exfalso; omega)
  rw [if_neg h13]
  by_cases h14 : t.op = 14
  · rw [if_pos h14]
    repeat' (first | refine KO ?_ | ((with_reducible apply F1 45); exact rfl; exact EN; (exact fun w μc hw hse => more_spec t u w μc hw (hk.mono hse.le))) | (refine KV (b := by first | ((with_reducible apply v_quo); exact rfl; exact rfl; decide)) (c := ?_)) | refine KI ?_ | refine NB fun b => ?_ | ((refine KB ?_ ?_ <;> intro hp)) | refine KG ?_ | fail)
    all_goals first | exact ret_s rfl rfl rfl | (exfalso; omega)
  rw [if_neg h14]
  by_cases h17 : t.op = 17
  · rw [if_pos h17]
    repeat' (first | refine KO ?_ | ((with_reducible apply F1 45); exact rfl; exact EN; (exact fun w μc hw hse => more_spec t u w μc hw (hk.mono hse.le))) | (refine KV (b := by first | ((with_reducible apply v_quo); exact rfl; exact rfl; decide)) (c := ?_)) | refine KI ?_ | refine NB fun b => ?_ | ((refine KB ?_ ?_ <;> intro hp)) | refine KG ?_ | fail)
    all_goals first | exact ret_s rfl rfl rfl | (exfalso; omega)
  rw [if_neg h17]
  by_cases h19 : t.op = 19
  · rw [if_pos h19]
    repeat' (first | refine KO ?_ | ((with_reducible apply F1 45); exact rfl; exact EN; (exact fun w μc hw hse => more_spec t u w μc hw (hk.mono hse.le))) | (refine KV (b := by first | ((with_reducible apply v_quo); exact rfl; exact rfl; decide)) (c := ?_)) | refine KI ?_ | refine NB fun b => ?_ | ((refine KB ?_ ?_ <;> intro hp)) | refine KG ?_ | fail)
    all_goals first | exact ret_s rfl rfl rfl | (exfalso; omega)
  rw [if_neg h19]
  by_cases h20 : t.op = 20
  · rw [if_pos h20]
    repeat' (first | refine KO ?_ | ((with_reducible apply F1 45); exact rfl; exact EN; (exact fun w μc hw hse => more_spec t u w μc hw (hk.mono hse.le))) | (refine KV (b := by first | ((with_reducible apply v_quo); exact rfl; exact rfl; decide)) (c := ?_)) | refine KI ?_ | refine NB fun b => ?_ | ((refine KB ?_ ?_ <;> intro hp)) | refine KG ?_ | fail)
    all_goals first | exact ret_s rfl rfl rfl | (exfalso; omega)
  rw [if_neg h20]
  repeat' (first | refine KO ?_ | ((with_reducible apply F1 45); exact rfl; exact EN; (exact fun w μc hw hse => more_spec t u w μc hw (hk.mono hse.le))) | (refine KV (b := by first | ((with_reducible apply v_quo); exact rfl; exact rfl; decide)) (c := ?_)) | refine KI ?_ | refine NB fun b => ?_ | ((refine KB ?_ ?_ <;> intro hp)) | refine KG ?_ | fail)
  all_goals first | exact ret_s rfl rfl rfl | (exfalso; omega)
end Go.Proofs.YtnllooebophcpaaDoor
namespace Go.Proofs.YtnllooebophcpaaDoor
open Go.RowKit Go.Vcg
noncomputable def stB (t : T) : Bool :=
  if t.op = 1 ∨ t.op = 6 then fewP stmtT 0 (-1) t.kids
  else if t.op = 2 then fewP (ofT [3]) 1 (-1) t.kids
  else if t.op = 3 then fitP [(targetT, 0), (exprT, 1)] t.kids
  else if t.op = 4 then fitP (eachP [ofT [5], bodyT t]) t.kids
  else if t.op = 5 then fitP [(eiT [targetT, ofT [63]], 2), (ofT [64], 1)] t.kids
  else if t.op = 7 ∨ t.op = 15 ∨ t.op = 16 then decide (t.kids.length = 0)
  else if t.op = 8 ∨ t.op = 18 then fitP (eachP [exprT]) t.kids
  else if t.op = 9 then fitP [(exprT, 0), (stmtT, 0), (stmtT, 1)] t.kids
  else if t.op = 10 then fitP (eachP [ofT [2, 8, 7], eiT [exprT, ofT [7]], eiT [exprT, ofT [7]], stmtT]) t.kids
  else if t.op = 11 ∨ t.op = 12 then fitP (eachP [leftT, exprT, stmtT]) t.kids
  else if t.op = 13 then fitP (eachP [exprT, stmtT]) t.kids
  else if t.op = 14 then fitP (eachP [stmtT, exprT]) t.kids
  else if t.op = 17 then fewP exprT 0 1 t.kids
  else if t.op = 20 then fitP (eachP [eiT [targetT, ofT [7]], ofT [6]]) t.kids
  else if t.op = 21 then fitP [(exprT, 0), (ofT [22], 2)] t.kids
  else if t.op = 22 then (if t.n = 1 then fewP stmtT 0 (-1) t.kids else fitP [(exprT, 0), (stmtT, 2)] t.kids)
  else if t.op = 19 then tryT t.kids
  else fitP (eachP [stmtT]) t.kids
noncomputable def exB (t : T) : Bool :=
  if t.op = 30 ∨ t.op = 31 ∨ t.op = 32 ∨ t.op = 33 ∨ t.op = 34 ∨ t.op = 35 ∨ t.op = 40 then decide (t.kids.length = 0)
  else if t.op = 36 then templB exprT t.kids
  else if t.op = 37 then fewP (eiT [exprT, ofT [40, 41]]) 0 (-1) t.kids
  else if t.op = 38 then fewP (ofT [39]) 0 (-1) t.kids
  else if t.op = 39 then propT t
  else if t.op = 41 ∨ t.op = 42 then fitP (eachP [exprT]) t.kids
  else if t.op = 43 then fitP (eachP [simpleT]) t.kids
  else if t.op = 44 ∨ t.op = 45 ∨ t.op = 52 then fewP exprT 2 2 t.kids
  else if t.op = 46 then (if t.s = ⟨#[61]⟩ then fitP (eachP [targetT, exprT]) t.kids else fitP (eachP [simpleT, exprT]) t.kids)
  else if t.op = 47 then fewP exprT 3 3 t.kids
  else if t.op = 48 then fewP exprT 2 (-1) t.kids
  else if t.op = 49 ∨ t.op = 50 then fitP [(exprT, 0), (argsT, 2)] t.kids
  else if t.op = 51 then fewP exprT 1 1 t.kids
  else if t.op = 53 then chainT t.kids
  else if t.op = 54 then fewP exprT t.n 1 t.kids
  else patternsT t
theorem statements_spec (t : T) (u : Value) (w : World) (μ : Mem) (hμ : MOk μ w) (hk : KR μ t.kids u) (hs : t.size ≤ 100000) (hks : ∀ k ∈ t.kids, T.size k ≤ 100000 ∧ k.s.size ≤ 65536) :
    Calls Tryd.prog 33 #[.agg (encT t u).toArray] w fun e w' => e = .returned (.bool (stB t)) ∧ Below w.heap.size w w' := by
  unfold stB
  by_cases h_prog : t.op = 1 ∨ t.op = 6
  · rw [if_pos h_prog]
    exact st_prog t u w μ hμ hk hs hks h_prog
  rw [if_neg h_prog]
  by_cases h_var : t.op = 2
  · rw [if_pos h_var]
    exact st_var t u w μ hμ hk hs hks h_var
  rw [if_neg h_var]
  by_cases h_decl : t.op = 3
  · rw [if_pos h_decl]
    exact st_decl t u w μ hμ hk hs hks h_decl
  rw [if_neg h_decl]
  by_cases h_func : t.op = 4
  · rw [if_pos h_func]
    exact st_func t u w μ hμ hk hs hks h_func
  rw [if_neg h_func]
  by_cases h_params : t.op = 5
  · rw [if_pos h_params]
    exact st_params t u w μ hμ hk hs hks h_params
  rw [if_neg h_params]
  by_cases h_none : t.op = 7 ∨ t.op = 15 ∨ t.op = 16
  · rw [if_pos h_none]
    exact st_none t u w μ hμ hk hs hks h_none
  rw [if_neg h_none]
  by_cases h_expr : t.op = 8 ∨ t.op = 18
  · rw [if_pos h_expr]
    exact st_expr t u w μ hμ hk hs hks h_expr
  rw [if_neg h_expr]
  by_cases h_if : t.op = 9
  · rw [if_pos h_if]
    exact st_if t u w μ hμ hk hs hks h_if
  rw [if_neg h_if]
  by_cases h_for : t.op = 10
  · rw [if_pos h_for]
    exact st_for t u w μ hμ hk hs hks h_for
  rw [if_neg h_for]
  by_cases h_forin : t.op = 11 ∨ t.op = 12
  · rw [if_pos h_forin]
    exact st_forin t u w μ hμ hk hs hks h_forin
  rw [if_neg h_forin]
  by_cases h_while : t.op = 13
  · rw [if_pos h_while]
    exact st_while t u w μ hμ hk hs hks h_while
  rw [if_neg h_while]
  by_cases h_do : t.op = 14
  · rw [if_pos h_do]
    exact st_do t u w μ hμ hk hs hks h_do
  rw [if_neg h_do]
  by_cases h_ret : t.op = 17
  · rw [if_pos h_ret]
    exact st_ret t u w μ hμ hk hs hks h_ret
  rw [if_neg h_ret]
  by_cases h_catch : t.op = 20
  · rw [if_pos h_catch]
    exact st_catch t u w μ hμ hk hs hks h_catch
  rw [if_neg h_catch]
  by_cases h_switch : t.op = 21
  · rw [if_pos h_switch]
    exact st_switch t u w μ hμ hk hs hks h_switch
  rw [if_neg h_switch]
  by_cases h_case : t.op = 22
  · rw [if_pos h_case]
    exact st_case t u w μ hμ hk hs hks h_case
  rw [if_neg h_case]
  by_cases h_try : t.op = 19
  · rw [if_pos h_try]
    exact st_try t u w μ hμ hk hs hks h_try
  rw [if_neg h_try]
  exact st_rest t u w μ hμ hk hs hks (by omega)
theorem expressions_spec (t : T) (u : Value) (w : World) (μ : Mem) (hμ : MOk μ w) (hk : KR μ t.kids u) (hs : t.size ≤ 100000) (hks : ∀ k ∈ t.kids, T.size k ≤ 100000 ∧ k.s.size ≤ 65536) (hsh : ∀ k ∈ t.kids, Sh' k) :
    Calls Tryd.prog 32 #[.agg (encT t u).toArray] w fun e w' => e = .returned (.bool (exB t)) ∧ Below w.heap.size w w' := by
  unfold exB
  by_cases h_none : t.op = 30 ∨ t.op = 31 ∨ t.op = 32 ∨ t.op = 33 ∨ t.op = 34 ∨ t.op = 35 ∨ t.op = 40
  · rw [if_pos h_none]
    exact ex_none t u w μ hμ hk hs hks h_none
  rw [if_neg h_none]
  by_cases h_tmpl : t.op = 36
  · rw [if_pos h_tmpl]
    exact ex_tmpl t u w μ hμ hk hs hks h_tmpl
  rw [if_neg h_tmpl]
  by_cases h_array : t.op = 37
  · rw [if_pos h_array]
    exact ex_array t u w μ hμ hk hs hks h_array
  rw [if_neg h_array]
  by_cases h_object : t.op = 38
  · rw [if_pos h_object]
    exact ex_object t u w μ hμ hk hs hks h_object
  rw [if_neg h_object]
  by_cases h_prop : t.op = 39
  · rw [if_pos h_prop]
    exact ex_prop t u w μ hμ hk hs hks h_prop
  rw [if_neg h_prop]
  by_cases h_spread : t.op = 41 ∨ t.op = 42
  · rw [if_pos h_spread]
    exact ex_spread t u w μ hμ hk hs hks h_spread
  rw [if_neg h_spread]
  by_cases h_update : t.op = 43
  · rw [if_pos h_update]
    exact ex_update t u w μ hμ hk hs hks h_update
  rw [if_neg h_update]
  by_cases h_bin : t.op = 44 ∨ t.op = 45 ∨ t.op = 52
  · rw [if_pos h_bin]
    exact ex_bin t u w μ hμ hk hs hks h_bin
  rw [if_neg h_bin]
  by_cases h_assignT : t.op = 46
  · rw [if_pos h_assignT]
    by_cases hss : t.s = ⟨#[61]⟩
    · rw [if_pos hss]
      exact ex_assignT t u w μ hμ hk hs hks h_assignT hss
    · rw [if_neg hss]
      exact ex_assignS t u w μ hμ hk hs hks h_assignT hss
  rw [if_neg h_assignT]
  by_cases h_cond : t.op = 47
  · rw [if_pos h_cond]
    exact ex_cond t u w μ hμ hk hs hks h_cond
  rw [if_neg h_cond]
  by_cases h_seq : t.op = 48
  · rw [if_pos h_seq]
    exact ex_seq t u w μ hμ hk hs hks h_seq
  rw [if_neg h_seq]
  by_cases h_call : t.op = 49 ∨ t.op = 50
  · rw [if_pos h_call]
    exact ex_call t u w μ hμ hk hs hks h_call
  rw [if_neg h_call]
  by_cases h_dot : t.op = 51
  · rw [if_pos h_dot]
    exact ex_dot t u w μ hμ hk hs hks h_dot
  rw [if_neg h_dot]
  by_cases h_chain : t.op = 53
  · rw [if_pos h_chain]
    exact ex_chain t u w μ hμ hk hs hks h_chain hsh
  rw [if_neg h_chain]
  by_cases h_yield : t.op = 54
  · rw [if_pos h_yield]
    exact ex_yield t u w μ hμ hk hs hks h_yield
  rw [if_neg h_yield]
  exact ex_rest t u w μ hμ hk hs hks (by omega)
end Go.Proofs.YtnllooebophcpaaDoor
