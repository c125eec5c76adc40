/- tree.bits and tree.fields. tree.fields. tree.statements and tree.expressions at every node. tree.Right. No statement of the seat is proved here. -/
import Derived.Test.YtllilkcocfalmaaGreatDoorMd
import Derived.Test.YtllilkcocfalmaaGreatDoorSt
import Derived.Test.YtllilkcocfalmaaGreatDoorMa
set_option maxRecDepth 20000
namespace Go.Proofs.YtllilkcocfalmaaGreatDoor
open Go.RowKit Go.Vcg
def bitL : List Int := [1, 2, 8, 16, 32]
def whatT (h : Int → Bool) (k : Nat) : Nat := ((bitL.take k).filter h).length
theorem whatT_0 (h : Int → Bool) : whatT h 0 = 0 := rfl
theorem whatT_s {h : Int → Bool} {k : Nat} {m : Int} (hk : bitL[k]? = some m) : whatT h (k + 1) = whatT h k + (if h m = true then 1 else 0) := by
  unfold whatT
  rw [List.take_add_one, hk, List.filter_append, List.length_append]
  cases hm : h m <;> simp [List.filter_cons, hm]
theorem whatT_le (h : Int → Bool) (k : Nat) : whatT h k ≤ 5 := by
  unfold whatT
  have h1 := List.length_filter_le h (bitL.take k)
  have h2 : (bitL.take k).length ≤ 5 := by rw [List.length_take]; exact Nat.min_le_right _ _
  omega
noncomputable def bitsT (t : T) : Bool :=
  if t.n < 0 ∨ 255 < t.n ∨ t.s ≠ ⟨#[]⟩ ∧ formB t.s = false then false
  else if 1 < whatT (hasT t) 5 ∨ hasT t 4 = true ∧ hasT t 50 = true ∨ hasT t 128 = true ∧ hasT t 2 = false then false
  else if hasT t 1 = true then decide (t.s ≠ ⟨#[]⟩)
  else decide (whatT (hasT t) 5 = 0) || decide (t.s = ⟨#[]⟩)
attribute [local irreducible] formB hasT whatT G GC GQ GA GAop Calls IntKind.wrap Int.decLt Int.decLe
theorem bits_spec (t : T) (u : Value) (w : World) (μ : Mem) (hμ : MOk μ w) (hk : KR μ t.kids u) (hs : t.size ≤ 100000) (hss : t.s.size ≤ 65536) :
    Calls Tryz.prog 57 #[.agg (encT t u).toArray] w fun e w' => e = .returned (.bool (bitsT t)) ∧ Below w.heap.size w w' := by
  have ho := hk.one
  refine call_intro (args := [.agg (encT t u).toArray]) Tryz.func57 rfl Tryz.ntmps57 (by simp) hμ ?_
  have hform := fun (w : World) (μc : Mem) (hw : MOk μc w) => form_spec t.s hss w μc hw
  have hhas := fun (m : Int) (w : World) (μc : Mem) (hw : MOk μc w) (hle : MLe μ μc) => tHas_spec m t u w μc hw (hk.mono hle) hs
  by_cases h1 : t.n < 0 ∨ 255 < t.n ∨ t.s ≠ ⟨#[]⟩ ∧ formB t.s = false
  · have hg : bitsT t = false := by unfold bitsT; rw [if_pos h1]
    rw [hg]
    repeat' (first | ((with_reducible show GC _ _ (Code.seq (Code.region 3 _ _) _) _ _ _ _); (apply gc_stop)) | (refine KO ?_) | ((with_reducible apply F1 46); exact rfl; exact EN; (exact fun w μc hw hse => hform w μc hw)) | (refine KI ?_) | (refine NB fun b => ?_) | ((refine KB ?_ ?_ <;> intro hp)) | (refine KG ?_) | fail)
    all_goals first | exact ret_s rfl rfl rfl | (exfalso; omega) | (exfalso; simp_all; try omega)
  · repeat' (first | ((with_reducible show GC _ _ (Code.seq (Code.region 3 _ _) _) _ _ _ _); (apply gc_stop)) | (refine KO ?_) | ((with_reducible apply F1 46); exact rfl; exact EN; (exact fun w μc hw hse => hform w μc hw)) | (refine KI ?_) | (refine NB fun b => ?_) | ((refine KB ?_ ?_ <;> intro hp)) | (refine KG ?_) | fail)
    rotate_left
    · exfalso
      simp_all
    rotate_left
    all_goals
      refine gcs ?_
      rename Nat => ba
      have hg : bitsT t = (if 1 < whatT (hasT t) 5 ∨ hasT t 4 = true ∧ hasT t 50 = true ∨ hasT t 128 = true ∧ hasT t 2 = false then false else if hasT t 1 = true then decide (t.s ≠ ⟨#[]⟩) else decide (whatT (hasT t) 5 = 0) || decide (t.s = ⟨#[]⟩)) := by unfold bitsT; rw [if_neg h1]
      have hw5 := whatT_le (hasT t) 5
      repeat' (first | (refine KK ?_) | (refine NB fun b => ?_) | ((refine KB ?_ ?_ <;> intro hp)) | (refine KG ?_) | fail)
      refine gc_loop (ι := Nat) (fun i => i ≤ 5) (fun i => 5 - i) (fun _ => μ) (fun i => [(27, .int .i64 i), (26, .int .i64 5), (25, .slice (some ⟨b, 0, none⟩) 5 5), (3, .int .i64 (whatT (hasT t) i)), (1, .pointer (some ⟨ba, 0, none⟩))]) (fun _ => [.inl ⟨b, 3, 5, idx 0 [.int .i64 1, .int .i64 2, .int .i64 8, .int .i64 16, .int .i64 32]⟩, .inl ⟨ba, 24, 6, idx 0 (encT t u)⟩]) 0 (by decide) (fun a w hs => by rw [whatT_0]; exact J5 hs) ?_
      intro i hi
      have hwi := whatT_le (hasT t) i
      rcases (by omega : i = 5 ∨ i = 0 ∨ i = 1 ∨ i = 2 ∨ i = 3 ∨ i = 4) with rfl | rfl | rfl | rfl | rfl | rfl
      · rw [hg]
        clear hg h1
        repeat' (first | (refine KO ?_) | ((with_reducible apply F1 85); exact rfl; exact EN; (exact fun w μc hw hse => hhas _ w μc hw hse.le)) | (refine KI ?_) | (refine NB fun b => ?_) | ((refine KB ?_ ?_ <;> intro hp)) | (refine KG ?_) | fail)
        all_goals clear hform hhas hk ho
        all_goals first | (refine ret_s rfl rfl ?_; simp_all; done) | (refine ret_s rfl rfl ?_; simp_all; omega) | (exfalso; simp_all; done)
      · have hn : whatT (hasT t) 1 = whatT (hasT t) 0 + (if hasT t 1 = true then 1 else 0) := whatT_s (k := 0) rfl
        cases hh : hasT t 1
        · rw [hh, if_neg (by simp), Nat.add_zero] at hn
          repeat' (first | (refine KO ?_) | ((with_reducible apply F1 85); exact rfl; exact EN; (exact fun w μc hw hse => hh ▸ hhas 1 w μc hw hse.le)) | (refine KI ?_) | (refine NB fun b => ?_) | ((refine KB ?_ ?_ <;> intro hp)) | (refine KG ?_) | fail)
          all_goals (rw [← hn]; exact J2 1 (by decide) (by decide))
        · rw [hh, if_pos rfl] at hn
          repeat' (first | (refine KO ?_) | ((with_reducible apply F1 85); exact rfl; exact EN; (exact fun w μc hw hse => hh ▸ hhas 1 w μc hw hse.le)) | (refine KI ?_) | (refine NB fun b => ?_) | ((refine KB ?_ ?_ <;> intro hp)) | (refine KG ?_) | fail)
          all_goals (rw [show ((whatT (hasT t) 0 : Nat) : Int) + 1 = ((whatT (hasT t) 1 : Nat) : Int) from by omega]; exact J2 1 (by decide) (by decide))
      · have hn : whatT (hasT t) 2 = whatT (hasT t) 1 + (if hasT t 2 = true then 1 else 0) := whatT_s (k := 1) rfl
        cases hh : hasT t 2
        · rw [hh, if_neg (by simp), Nat.add_zero] at hn
          repeat' (first | (refine KO ?_) | ((with_reducible apply F1 85); exact rfl; exact EN; (exact fun w μc hw hse => hh ▸ hhas 2 w μc hw hse.le)) | (refine KI ?_) | (refine NB fun b => ?_) | ((refine KB ?_ ?_ <;> intro hp)) | (refine KG ?_) | fail)
          all_goals (rw [← hn]; exact J2 2 (by decide) (by decide))
        · rw [hh, if_pos rfl] at hn
          repeat' (first | (refine KO ?_) | ((with_reducible apply F1 85); exact rfl; exact EN; (exact fun w μc hw hse => hh ▸ hhas 2 w μc hw hse.le)) | (refine KI ?_) | (refine NB fun b => ?_) | ((refine KB ?_ ?_ <;> intro hp)) | (refine KG ?_) | fail)
          all_goals (rw [show ((whatT (hasT t) 1 : Nat) : Int) + 1 = ((whatT (hasT t) 2 : Nat) : Int) from by omega]; exact J2 2 (by decide) (by decide))
      · have hn : whatT (hasT t) 3 = whatT (hasT t) 2 + (if hasT t 8 = true then 1 else 0) := whatT_s (k := 2) rfl
        cases hh : hasT t 8
        · rw [hh, if_neg (by simp), Nat.add_zero] at hn
          repeat' (first | (refine KO ?_) | ((with_reducible apply F1 85); exact rfl; exact EN; (exact fun w μc hw hse => hh ▸ hhas 8 w μc hw hse.le)) | (refine KI ?_) | (refine NB fun b => ?_) | ((refine KB ?_ ?_ <;> intro hp)) | (refine KG ?_) | fail)
          all_goals (rw [← hn]; exact J2 3 (by decide) (by decide))
        · rw [hh, if_pos rfl] at hn
          repeat' (first | (refine KO ?_) | ((with_reducible apply F1 85); exact rfl; exact EN; (exact fun w μc hw hse => hh ▸ hhas 8 w μc hw hse.le)) | (refine KI ?_) | (refine NB fun b => ?_) | ((refine KB ?_ ?_ <;> intro hp)) | (refine KG ?_) | fail)
          all_goals (rw [show ((whatT (hasT t) 2 : Nat) : Int) + 1 = ((whatT (hasT t) 3 : Nat) : Int) from by omega]; exact J2 3 (by decide) (by decide))
      · have hn : whatT (hasT t) 4 = whatT (hasT t) 3 + (if hasT t 16 = true then 1 else 0) := whatT_s (k := 3) rfl
        cases hh : hasT t 16
        · rw [hh, if_neg (by simp), Nat.add_zero] at hn
          repeat' (first | (refine KO ?_) | ((with_reducible apply F1 85); exact rfl; exact EN; (exact fun w μc hw hse => hh ▸ hhas 16 w μc hw hse.le)) | (refine KI ?_) | (refine NB fun b => ?_) | ((refine KB ?_ ?_ <;> intro hp)) | (refine KG ?_) | fail)
          all_goals (rw [← hn]; exact J2 4 (by decide) (by decide))
        · rw [hh, if_pos rfl] at hn
          repeat' (first | (refine KO ?_) | ((with_reducible apply F1 85); exact rfl; exact EN; (exact fun w μc hw hse => hh ▸ hhas 16 w μc hw hse.le)) | (refine KI ?_) | (refine NB fun b => ?_) | ((refine KB ?_ ?_ <;> intro hp)) | (refine KG ?_) | fail)
          all_goals (rw [show ((whatT (hasT t) 3 : Nat) : Int) + 1 = ((whatT (hasT t) 4 : Nat) : Int) from by omega]; exact J2 4 (by decide) (by decide))
      · have hn : whatT (hasT t) 5 = whatT (hasT t) 4 + (if hasT t 32 = true then 1 else 0) := whatT_s (k := 4) rfl
        cases hh : hasT t 32
        · rw [hh, if_neg (by simp), Nat.add_zero] at hn
          repeat' (first | (refine KO ?_) | ((with_reducible apply F1 85); exact rfl; exact EN; (exact fun w μc hw hse => hh ▸ hhas 32 w μc hw hse.le)) | (refine KI ?_) | (refine NB fun b => ?_) | ((refine KB ?_ ?_ <;> intro hp)) | (refine KG ?_) | fail)
          all_goals (rw [← hn]; exact J2 5 (by decide) (by decide))
        · rw [hh, if_pos rfl] at hn
          repeat' (first | (refine KO ?_) | ((with_reducible apply F1 85); exact rfl; exact EN; (exact fun w μc hw hse => hh ▸ hhas 32 w μc hw hse.le)) | (refine KI ?_) | (refine NB fun b => ?_) | ((refine KB ?_ ?_ <;> intro hp)) | (refine KG ?_) | fail)
          all_goals (rw [show ((whatT (hasT t) 4 : Nat) : Int) + 1 = ((whatT (hasT t) 5 : Nat) : Int) from by omega]; exact J2 5 (by decide) (by decide))
end Go.Proofs.YtllilkcocfalmaaGreatDoor
set_option maxRecDepth 20000
namespace Go.Proofs.YtllilkcocfalmaaGreatDoor
open Go.RowKit Go.Vcg
def compT (t : T) : Bool := decide (t.op = 62) || (decide (t.op = 39) && decide (t.n ≠ 3) && decide (t.n ≠ 4))
def badT (t : T) : Bool := decide (t.at' < 0) || (decide (t.m ≠ 0) && (decide (t.m ≠ 1) || !compT t))
noncomputable def fieldsT (t : T) : Bool :=
  if badT t = true then false else if t.op = 4 then bitsT t else decide (0 ≤ t.n) && decide (t.n ≤ mostT t.op) && wordT t
attribute [local irreducible] bitsT wordT mostT G GC GQ GA GAop Calls IntKind.wrap Int.decLt Int.decLe
theorem fields_spec' (t : T) (u : Value) (w : World) (μ : Mem) (hμ : MOk μ w) (hk : KR μ t.kids u) (hs : t.size ≤ 100000) (hss : t.s.size ≤ 65536) (hT : TabA μ) :
    Calls Tryz.prog 35 #[.agg (encT t u).toArray] w fun e w' => e = .returned (.bool (fieldsT t)) ∧ Below w.heap.size w w' := by
  have ho := hk.one
  refine call_intro (args := [.agg (encT t u).toArray]) Tryz.func35 rfl Tryz.ntmps35 (by simp) hμ ?_
  cases hb : badT t
  · by_cases h4 : t.op = 4
    · have hg : fieldsT t = bitsT t := by unfold fieldsT; rw [if_neg (by simp [hb]), if_pos h4]
      rw [hg]
      clear hg
      repeat' (first | (refine KO ?_) | ((with_reducible apply F1 57); exact rfl; exact EN; (exact fun w μc hw hse => bits_spec t u w μc hw (hk.mono hse.le) hs hss)) | (refine KI ?_) | (refine NB fun b => ?_) | ((refine KB ?_ ?_ <;> intro hp)) | (refine KG ?_) | fail)
      all_goals first | exact ret_s rfl rfl rfl | (exfalso; simp_all [badT, compT]; done) | (exfalso; simp_all [badT, compT]; omega) | (exfalso; omega)
    · have hg : fieldsT t = (decide (0 ≤ t.n) && decide (t.n ≤ mostT t.op) && wordT t) := by unfold fieldsT; rw [if_neg (by simp [hb]), if_neg h4]
      rw [hg]
      clear hg
      repeat' (first | (refine KO ?_) | ((with_reducible apply F1 57); exact rfl; exact EN; fail) | (refine KI ?_) | (refine NB fun b => ?_) | ((refine KB ?_ ?_ <;> intro hp)) | (refine KG ?_) | fail)
      all_goals first | (exfalso; omega) | (exfalso; clear hk hT hμ; simp_all [badT, compT]; done) | (exfalso; clear hk hT hμ; simp_all [badT, compT]; omega) | skip
      all_goals
        refine gc_draw 16 _ (by kernel_rfl) rfl (List.Sublist.cons_cons _ (List.nil_sublist _)) ?_
        all_goals refine DD 0 ?_
        all_goals refine DD 1 ?_
        all_goals refine DD 2 ?_
        all_goals refine DD 3 ?_
        all_goals (try (refine D7 4 ?_; (repeat' (first | refine KO ?_ | (refine KB ?_ ?_ <;> intro hp)))))
        all_goals refine DD 4 ?_
        all_goals refine DD 5 ?_
        all_goals refine DD 6 ?_
        all_goals refine DD 7 ?_
        all_goals (first | (refine D3 8 ?_; refine D5 ?_; (first | ((with_reducible apply F1 58); exact rfl; exact EN; (exact fun w μc hw hse => most_spec t.op w μc hw)) | ((with_reducible apply F1 59); exact rfl; exact EN; (exact fun w μc hw hse => word_spec t u w μc hw (hk.mono hse.le) hss (hT.mono hse.le)))); refine D9 ?_) | (refine D3 8 (D6 ?_)))
        all_goals refine DD 9 ?_
        all_goals refine DD 10 ?_
        all_goals refine DD 11 ?_
        all_goals (try (refine D7 12 ?_; (repeat' (first | refine KO ?_ | (refine KB ?_ ?_ <;> intro hp)))))
        all_goals refine DD 12 ?_
        all_goals (first | (refine D3 13 ?_; refine D5 ?_; (first | ((with_reducible apply F1 58); exact rfl; exact EN; (exact fun w μc hw hse => most_spec t.op w μc hw)) | ((with_reducible apply F1 59); exact rfl; exact EN; (exact fun w μc hw hse => word_spec t u w μc hw (hk.mono hse.le) hss (hT.mono hse.le)))); refine D9 ?_) | (refine D3 13 (D6 ?_)))
        all_goals refine DD 14 ?_
        all_goals refine DD 15 ?_
        all_goals refine D8 ?_
        repeat' (first | (refine KK ?_) | (refine NB fun b => ?_) | ((refine KB ?_ ?_ <;> intro hp)) | (refine KG ?_) | fail)
        all_goals (refine ret_s rfl rfl ?_; simp_all; try (intros; omega))
  · have hg : fieldsT t = false := by unfold fieldsT; rw [if_pos hb]
    rw [hg]
    clear hg
    repeat' (first | (refine KO ?_) | ((with_reducible apply F1 57); exact rfl; exact EN; fail) | (refine KI ?_) | (refine NB fun b => ?_) | ((refine KB ?_ ?_ <;> intro hp)) | (refine KG ?_) | fail)
    all_goals first | exact ret_s rfl rfl rfl | (exfalso; clear hk hT hμ; simp_all [badT, compT]; done) | (exfalso; clear hk hT hμ; simp_all [badT, compT]; omega) | (exfalso; omega)
end Go.Proofs.YtllilkcocfalmaaGreatDoor
set_option maxRecDepth 20000
namespace Go.Proofs.YtllilkcocfalmaaGreatDoor
open Go.RowKit Go.Vcg
noncomputable def stB (t : T) : Bool :=
  if t.op = 1 ∨ t.op = 6 then fewP stmtT 0 (-1) t.kids
  else if t.op = 2 then fewP (ofT [3]) 1 (-1) t.kids
  else if t.op = 3 then fitP [(targetT, 0), (exprT, 1)] t.kids
  else if t.op = 4 then fitP (eachP [ofT [5], bodyT t]) t.kids
  else if t.op = 5 then fitP [(eiT [targetT, ofT [63]], 2), (ofT [64], 1)] t.kids
  else if t.op = 7 ∨ t.op = 15 ∨ t.op = 16 then decide (t.kids.length = 0)
  else if t.op = 8 ∨ t.op = 18 then fitP (eachP [exprT]) t.kids
  else if t.op = 9 then fitP [(exprT, 0), (stmtT, 0), (stmtT, 1)] t.kids
  else if t.op = 10 then fitP (eachP [ofT [2, 8, 7], eiT [exprT, ofT [7]], eiT [exprT, ofT [7]], stmtT]) t.kids
  else if t.op = 11 ∨ t.op = 12 then fitP (eachP [leftT, exprT, stmtT]) t.kids
  else if t.op = 13 then fitP (eachP [exprT, stmtT]) t.kids
  else if t.op = 14 then fitP (eachP [stmtT, exprT]) t.kids
  else if t.op = 17 then fewP exprT 0 1 t.kids
  else if t.op = 20 then fitP (eachP [eiT [targetT, ofT [7]], ofT [6]]) t.kids
  else if t.op = 21 then fitP [(exprT, 0), (ofT [22], 2)] t.kids
  else if t.op = 22 then (if t.n = 1 then fewP stmtT 0 (-1) t.kids else fitP [(exprT, 0), (stmtT, 2)] t.kids)
  else if t.op = 19 then tryT t.kids
  else fitP (eachP [stmtT]) t.kids
noncomputable def exB (t : T) : Bool :=
  if t.op = 30 ∨ t.op = 31 ∨ t.op = 32 ∨ t.op = 33 ∨ t.op = 34 ∨ t.op = 35 ∨ t.op = 40 then decide (t.kids.length = 0)
  else if t.op = 36 then templB exprT t.kids
  else if t.op = 37 then fewP (eiT [exprT, ofT [40, 41]]) 0 (-1) t.kids
  else if t.op = 38 then fewP (ofT [39]) 0 (-1) t.kids
  else if t.op = 39 then propT t
  else if t.op = 41 ∨ t.op = 42 then fitP (eachP [exprT]) t.kids
  else if t.op = 43 then fitP (eachP [simpleT]) t.kids
  else if t.op = 44 ∨ t.op = 45 ∨ t.op = 52 then fewP exprT 2 2 t.kids
  else if t.op = 46 then (if t.s = ⟨#[61]⟩ then fitP (eachP [targetT, exprT]) t.kids else fitP (eachP [simpleT, exprT]) t.kids)
  else if t.op = 47 then fewP exprT 3 3 t.kids
  else if t.op = 48 then fewP exprT 2 (-1) t.kids
  else if t.op = 49 ∨ t.op = 50 then fitP [(exprT, 0), (argsT, 2)] t.kids
  else if t.op = 51 then fewP exprT 1 1 t.kids
  else if t.op = 53 then chainT t.kids
  else if t.op = 54 then fewP exprT t.n 1 t.kids
  else patternsT t
theorem statements_spec (t : T) (u : Value) (w : World) (μ : Mem) (hμ : MOk μ w) (hk : KR μ t.kids u) (hs : t.size ≤ 100000) (hks : ∀ k ∈ t.kids, T.size k ≤ 100000 ∧ k.s.size ≤ 65536) :
    Calls Tryz.prog 38 #[.agg (encT t u).toArray] w fun e w' => e = .returned (.bool (stB t)) ∧ Below w.heap.size w w' := by
  unfold stB
  by_cases h_prog : t.op = 1 ∨ t.op = 6
  · rw [if_pos h_prog]
    exact st_prog t u w μ hμ hk hs hks h_prog
  rw [if_neg h_prog]
  by_cases h_var : t.op = 2
  · rw [if_pos h_var]
    exact st_var t u w μ hμ hk hs hks h_var
  rw [if_neg h_var]
  by_cases h_decl : t.op = 3
  · rw [if_pos h_decl]
    exact st_decl t u w μ hμ hk hs hks h_decl
  rw [if_neg h_decl]
  by_cases h_func : t.op = 4
  · rw [if_pos h_func]
    exact st_func t u w μ hμ hk hs hks h_func
  rw [if_neg h_func]
  by_cases h_params : t.op = 5
  · rw [if_pos h_params]
    exact st_params t u w μ hμ hk hs hks h_params
  rw [if_neg h_params]
  by_cases h_none : t.op = 7 ∨ t.op = 15 ∨ t.op = 16
  · rw [if_pos h_none]
    exact st_none t u w μ hμ hk hs hks h_none
  rw [if_neg h_none]
  by_cases h_expr : t.op = 8 ∨ t.op = 18
  · rw [if_pos h_expr]
    exact st_expr t u w μ hμ hk hs hks h_expr
  rw [if_neg h_expr]
  by_cases h_if : t.op = 9
  · rw [if_pos h_if]
    exact st_if t u w μ hμ hk hs hks h_if
  rw [if_neg h_if]
  by_cases h_for : t.op = 10
  · rw [if_pos h_for]
    exact st_for t u w μ hμ hk hs hks h_for
  rw [if_neg h_for]
  by_cases h_forin : t.op = 11 ∨ t.op = 12
  · rw [if_pos h_forin]
    exact st_forin t u w μ hμ hk hs hks h_forin
  rw [if_neg h_forin]
  by_cases h_while : t.op = 13
  · rw [if_pos h_while]
    exact st_while t u w μ hμ hk hs hks h_while
  rw [if_neg h_while]
  by_cases h_do : t.op = 14
  · rw [if_pos h_do]
    exact st_do t u w μ hμ hk hs hks h_do
  rw [if_neg h_do]
  by_cases h_ret : t.op = 17
  · rw [if_pos h_ret]
    exact st_ret t u w μ hμ hk hs hks h_ret
  rw [if_neg h_ret]
  by_cases h_catch : t.op = 20
  · rw [if_pos h_catch]
    exact st_catch t u w μ hμ hk hs hks h_catch
  rw [if_neg h_catch]
  by_cases h_switch : t.op = 21
  · rw [if_pos h_switch]
    exact st_switch t u w μ hμ hk hs hks h_switch
  rw [if_neg h_switch]
  by_cases h_case : t.op = 22
  · rw [if_pos h_case]
    exact st_case t u w μ hμ hk hs hks h_case
  rw [if_neg h_case]
  by_cases h_try : t.op = 19
  · rw [if_pos h_try]
    exact st_try t u w μ hμ hk hs hks h_try
  rw [if_neg h_try]
  exact st_rest t u w μ hμ hk hs hks (by omega)
theorem expressions_spec (t : T) (u : Value) (w : World) (μ : Mem) (hμ : MOk μ w) (hk : KR μ t.kids u) (hs : t.size ≤ 100000) (hks : ∀ k ∈ t.kids, T.size k ≤ 100000 ∧ k.s.size ≤ 65536) (hsh : ∀ k ∈ t.kids, Sh' k) :
    Calls Tryz.prog 37 #[.agg (encT t u).toArray] w fun e w' => e = .returned (.bool (exB t)) ∧ Below w.heap.size w w' := by
  unfold exB
  by_cases h_none : t.op = 30 ∨ t.op = 31 ∨ t.op = 32 ∨ t.op = 33 ∨ t.op = 34 ∨ t.op = 35 ∨ t.op = 40
  · rw [if_pos h_none]
    exact ex_none t u w μ hμ hk hs hks h_none
  rw [if_neg h_none]
  by_cases h_tmpl : t.op = 36
  · rw [if_pos h_tmpl]
    exact ex_tmpl t u w μ hμ hk hs hks h_tmpl
  rw [if_neg h_tmpl]
  by_cases h_array : t.op = 37
  · rw [if_pos h_array]
    exact ex_array t u w μ hμ hk hs hks h_array
  rw [if_neg h_array]
  by_cases h_object : t.op = 38
  · rw [if_pos h_object]
    exact ex_object t u w μ hμ hk hs hks h_object
  rw [if_neg h_object]
  by_cases h_prop : t.op = 39
  · rw [if_pos h_prop]
    exact ex_prop t u w μ hμ hk hs hks h_prop
  rw [if_neg h_prop]
  by_cases h_spread : t.op = 41 ∨ t.op = 42
  · rw [if_pos h_spread]
    exact ex_spread t u w μ hμ hk hs hks h_spread
  rw [if_neg h_spread]
  by_cases h_update : t.op = 43
  · rw [if_pos h_update]
    exact ex_update t u w μ hμ hk hs hks h_update
  rw [if_neg h_update]
  by_cases h_bin : t.op = 44 ∨ t.op = 45 ∨ t.op = 52
  · rw [if_pos h_bin]
    exact ex_bin t u w μ hμ hk hs hks h_bin
  rw [if_neg h_bin]
  by_cases h_assignT : t.op = 46
  · rw [if_pos h_assignT]
    by_cases hss : t.s = ⟨#[61]⟩
    · rw [if_pos hss]
      exact ex_assignT t u w μ hμ hk hs hks h_assignT hss
    · rw [if_neg hss]
      exact ex_assignS t u w μ hμ hk hs hks h_assignT hss
  rw [if_neg h_assignT]
  by_cases h_cond : t.op = 47
  · rw [if_pos h_cond]
    exact ex_cond t u w μ hμ hk hs hks h_cond
  rw [if_neg h_cond]
  by_cases h_seq : t.op = 48
  · rw [if_pos h_seq]
    exact ex_seq t u w μ hμ hk hs hks h_seq
  rw [if_neg h_seq]
  by_cases h_call : t.op = 49 ∨ t.op = 50
  · rw [if_pos h_call]
    exact ex_call t u w μ hμ hk hs hks h_call
  rw [if_neg h_call]
  by_cases h_dot : t.op = 51
  · rw [if_pos h_dot]
    exact ex_dot t u w μ hμ hk hs hks h_dot
  rw [if_neg h_dot]
  by_cases h_chain : t.op = 53
  · rw [if_pos h_chain]
    exact ex_chain t u w μ hμ hk hs hks h_chain hsh
  rw [if_neg h_chain]
  by_cases h_yield : t.op = 54
  · rw [if_pos h_yield]
    exact ex_yield t u w μ hμ hk hs hks h_yield
  rw [if_neg h_yield]
  exact ex_rest t u w μ hμ hk hs hks (by omega)
end Go.Proofs.YtllilkcocfalmaaGreatDoor
set_option maxRecDepth 20000
set_option maxHeartbeats 2000000
namespace Go.Proofs.YtllilkcocfalmaaGreatDoor
open Go.RowKit Go.Vcg
noncomputable def kidsB (t : T) : Bool := if t.op ≤ 23 then stB t else exB t
def onT (t : T) (i : Nat) (k : T) (spine : Bool) : Bool := decide (i = 0) && linkT k && (decide (t.op = 53) || spine && linkT t)
/-- a node is valid by itself -/
def Nd (t : T) (spine : Bool) : Prop := knownT t.op = true ∧ fieldsT t = true ∧ ¬(linkT t = true ∧ t.n = 1 ∧ spine = false)
inductive Rt : T → Nat → Bool → Prop
  | mk {t : T} {deep : Nat} {spine : Bool} (hd : deep ≤ 200) (hn : Nd t spine) (hk : kidsB t = true) (hr : ∀ (i : Nat) (k : T), t.kids[i]? = some k → Rt k (deep + 1) (onT t i k spine)) : Rt t deep spine
noncomputable def rtB (t : T) (deep : Nat) (spine : Bool) : Bool := dB (Rt t deep spine)
theorem rtB_t {t : T} {d : Nat} {s : Bool} (h : Rt t d s) : rtB t d s = true := by unfold rtB; exact dB_t h
theorem rtB_f {t : T} {d : Nat} {s : Bool} (h : ¬Rt t d s) : rtB t d s = false := by unfold rtB; exact dB_f h
theorem rtB_true {t : T} {d : Nat} {s : Bool} (h : rtB t d s = true) : Rt t d s := by unfold rtB at h; exact dB_true h
theorem rtB_false {t : T} {d : Nat} {s : Bool} (h : rtB t d s = false) : ¬Rt t d s := by unfold rtB at h; exact dB_false h
theorem sh_kid {t k : T} (h : Sh t) (hk : k ∈ t.kids) : Sh k := by
  cases h with
  | mk _ _ _ _ h => exact h k hk
theorem sh_op {t : T} (h : Sh t) : In64 t.op := by cases h; assumption
theorem sh_s {t : T} (h : Sh t) : t.s.size ≤ 200 := by cases h; assumption
theorem sh_sh' : ∀ {t : T}, Sh t → Sh' t := fun {t} => T.ind2 (p := fun t => Sh t → Sh' t) (fun t ih h => .mk (by have := sh_s h; omega) fun k hk => ih k hk (sh_kid h hk)) t
attribute [local irreducible] knownT fieldsT stB exB rtB G GC GQ GA GAop Calls IntKind.wrap Int.decLt Int.decLe
theorem right_spec : ∀ (n : Nat), n ≤ 100000 → ∀ (t : T) (u : Value) (deep : Nat) (spine : Bool) (w : World) (μ : Mem), MOk μ w → KR μ t.kids u → t.size ≤ n → deep ≤ 201 → Sh t → TabA μ →
    Calls Tryz.prog 20 #[.agg (encT t u).toArray, .int .i64 deep, .bool spine] w fun e w' => e = .returned (.bool (rtB t deep spine)) ∧ Below w.heap.size w w' := by
  intro n
  induction n with
  | zero => intro _ t u d s w μ hμ hk hn; exact absurd hn (by rw [T.size_eq]; omega)
  | succ n ih =>
    intro hnb t u deep spine w μ hμ hk hn hdp hsh hT
    have ho := hk.one
    have hop := sh_op hsh
    unfold In64 at hop
    have hss := sh_s hsh
    have hks : ∀ k ∈ t.kids, T.size k ≤ 100000 ∧ k.s.size ≤ 65536 := fun k hk => by
      obtain ⟨i, hi⟩ := List.mem_iff_getElem?.1 hk
      have h1 := T.size_kid hi
      have h2 := sh_s (sh_kid hsh hk)
      exact ⟨by omega, by omega⟩
    have hks' : ∀ k ∈ t.kids, Sh' k := fun k hk => sh_sh' (sh_kid hsh hk)
    have hlen := kidsLe t
    obtain ⟨A, c, rfl, hlc, hkid⟩ := hk.form
    have c1 := fun (w : World) (μc : Mem) (hw : MOk μc w) (hle : MLe μ μc) => known_spec t.op hop w μc hw (hT.mono hle)
    have c2 := fun (w : World) (μc : Mem) (hw : MOk μc w) (hle : MLe μ μc) => fields_spec' t _ w μc hw (hk.mono hle) (by omega) (by omega) (hT.mono hle)
    have c3 := fun (w : World) (μc : Mem) (hw : MOk μc w) (hle : MLe μ μc) => link_spec t _ w μc hw (hk.mono hle) (by omega) (by omega)
    have c4 := fun (w : World) (μc : Mem) (hw : MOk μc w) (hle : MLe μ μc) => statements_spec t _ w μc hw (hk.mono hle) (by omega) hks
    have c5 := fun (w : World) (μc : Mem) (hw : MOk μc w) (hle : MLe μ μc) => expressions_spec t _ w μc hw (hk.mono hle) (by omega) hks hks'
    refine call_intro (args := [.agg (encT t (.slice A t.kids.length c)).toArray, .int .i64 deep, .bool spine]) Tryz.func20 rfl Tryz.ntmps20 (by simp) hμ ?_
    by_cases h1 : deep ≤ 200 ∧ Nd t spine
    · obtain ⟨hd, hnd⟩ := h1
      obtain ⟨hkn, hf, hl⟩ := id hnd
      rw [hkn] at c1
      rw [hf] at c2
      cases hkb : kidsB t
      · have hR : rtB t deep spine = false := rtB_f fun h => by
          cases h with
          | mk _ _ h2 _ => rw [hkb] at h2; cases h2
        rw [hR]
        unfold kidsB at hkb
        repeat' (first | ((with_reducible show GC _ _ (Code.seq (Code.region 3 _ _) _) _ _ _ _); (apply gc_stop)) | (refine KO ?_) | ((with_reducible apply F1 34); exact rfl; exact EN; (exact fun w μc hw hse => c1 w μc hw hse.le)) | ((with_reducible apply F1 35); exact rfl; exact EN; (exact fun w μc hw hse => c2 w μc hw hse.le)) | ((with_reducible apply F1 36); exact rfl; exact EN; (exact fun w μc hw hse => c3 w μc hw hse.le)) | (refine KI ?_) | (refine NB fun b => ?_) | ((refine KB ?_ ?_ <;> intro hp)) | (refine KG ?_) | fail)
        all_goals try (exfalso; apply hl; refine ⟨?_, ?_, ?_⟩ <;> assumption)
        all_goals
          refine gcs ?_
          by_cases h23 : t.op ≤ 23
          · rw [if_pos h23] at hkb
            rw [hkb] at c4
            repeat' (first | (refine KO ?_) | ((with_reducible apply C1); exact rfl; exact EN; exact fun w μc hw hse => c4 w μc hw hse.le) | (refine KI ?_) | (refine NB fun b => ?_) | ((refine KB ?_ ?_ <;> intro hp)) | (refine KG ?_) | fail)
            all_goals first | exact ret_s rfl rfl rfl | (exfalso; omega)
          · rw [if_neg h23] at hkb
            rw [hkb] at c5
            repeat' (first | (refine KO ?_) | ((with_reducible apply C1); exact rfl; exact EN; exact fun w μc hw hse => c5 w μc hw hse.le) | (refine KI ?_) | (refine NB fun b => ?_) | ((refine KB ?_ ?_ <;> intro hp)) | (refine KG ?_) | fail)
            all_goals first | exact ret_s rfl rfl rfl | (exfalso; omega)
      · have hkb' := hkb
        unfold kidsB at hkb'
        repeat' (first | ((with_reducible show GC _ _ (Code.seq (Code.seq (Code.region 1 _ _) _) _) _ _ _ _); (apply gc_stop)) | (refine KK ?_) | (refine NB fun b => ?_) | ((refine KB ?_ ?_ <;> intro hp)) | (refine KG ?_) | fail)
        refine gcs (gc_join (ι := Unit) (fun _ => True) (fun _ => μ) (fun _ => [(1, .int .i64 deep), (2, .bool spine), (3, .pointer (some ⟨b, 0, none⟩))]) (fun _ => [.inl ⟨b, 24, 6, idx 0 (encT t (.slice A t.kids.length c))⟩]) ?_ ?_)
        · repeat' (first | (refine KO ?_) | ((with_reducible apply F1 34); exact rfl; exact EN; (exact fun w μc hw hse => c1 w μc hw hse.le)) | ((with_reducible apply F1 35); exact rfl; exact EN; (exact fun w μc hw hse => c2 w μc hw hse.le)) | ((with_reducible apply F1 36); exact rfl; exact EN; (exact fun w μc hw hse => c3 w μc hw hse.le)) | (refine KI ?_) | (refine NB fun b => ?_) | ((refine KB ?_ ?_ <;> intro hp)) | (refine KG ?_) | fail)
          all_goals try (exfalso; apply hl; refine ⟨?_, ?_, ?_⟩ <;> assumption)
          all_goals first | exact J1 () trivial | (exfalso; omega)
        intro _ _
        by_cases h23 : t.op ≤ 23
        · rw [if_pos h23] at hkb'
          rw [hkb'] at c4
          repeat' (first | (refine KO ?_) | ((with_reducible apply C1); exact rfl; exact EN; exact fun w μc hw hse => c4 w μc hw hse.le) | (refine KI ?_) | (refine NB fun b => ?_) | ((refine KB ?_ ?_ <;> intro hp)) | (refine KG ?_) | fail)
          all_goals try (exfalso; omega)
          refine gc_loop (ι := Nat) (fun i => i ≤ t.kids.length ∧ ∀ (j : Nat) (k : T), j < i → t.kids[j]? = some k → Rt k (deep + 1) (onT t j k spine)) (fun i => t.kids.length - i) (fun _ => μ) (fun i => [(47, .int .i64 i), (46, .int .i64 t.kids.length), (45, .slice A t.kids.length c), (1, .int .i64 deep), (2, .bool spine), (3, .pointer (some ⟨b, 0, none⟩))]) (fun _ => [.inl ⟨b, 24, 6, idx 0 (encT t (.slice A t.kids.length c))⟩]) 0 ⟨by omega, fun j _ h => absurd h (by omega)⟩ (fun a w hs => J5 hs) ?_
          rintro i ⟨hi, hok⟩
          by_cases hlt : i < t.kids.length
          · have hkk : t.kids[i]? = some t.kids[i] := List.getElem?_eq_getElem hlt
            generalize t.kids[i] = k at hkk
            obtain ⟨ad, x, rfl, hm, hox, hkx⟩ := hkid i k hkk
            have hsz := T.size_kid hkk
            have hshk := sh_kid hsh (List.mem_of_getElem? hkk)
            have hskk := sh_s hshk
            have ck := fun (w : World) (μc : Mem) (hw : MOk μc w) (hle : MLe μ μc) => link_spec k _ w μc hw (hkx.mono hle) (by omega) (by omega)
            have hnext : Rt k (deep + 1) (onT t i k spine) → ∀ (j : Nat) (k : T), j < i + 1 → t.kids[j]? = some k → Rt k (deep + 1) (onT t j k spine) := fun h j k' hj hk' => by
              rcases Nat.lt_or_ge j i with h1 | h1
              · exact hok j k' h1 hk'
              · obtain rfl : j = i := by omega
                rw [hkk] at hk'
                cases hk'
                exact h
            by_cases hi0 : i = 0
            · subst hi0
              cases hlk : linkT k
              · rw [hlk] at ck
                have hon : onT t 0 k spine = false := by simp [onT, hlk]
                cases hq : rtB k (deep + 1) false
                · have hR : rtB t deep spine = false := rtB_f fun h => rtB_false hq (by cases h with | mk _ _ _ h4 => exact hon ▸ h4 0 k hkk)
                  rw [hR]
                  have hcall := fun (w : World) (μc : Mem) (hw : MOk μc w) (hle : MLe μ μc) => hq ▸ ih (by omega) k x (deep + 1) false w μc hw (hkx.mono hle) (by omega) (by omega) hshk (hT.mono hle)
                  repeat' (first | (refine KO ?_) | ((with_reducible apply F1 36); exact rfl; exact EN; first | (exact fun w μc hw hse => ck w μc hw hse.le) | (exact fun w μc hw hse => c3 w μc hw hse.le)) | ((with_reducible apply F1 20); exact rfl; exact EN; (exact fun w μc hw hse => hcall w μc hw hse.le)) | ((with_reducible apply g_v); exact rfl; (first | (exact U1 0) | (exact U4 hm))) | (refine KI ?_) | (refine NB fun b => ?_) | ((refine KB ?_ ?_ <;> intro hp)) | (refine KG ?_) | fail)
                  all_goals first | exact ret_s rfl rfl rfl | (exfalso; omega)
                · have hnx := hnext (by rw [hon]; exact rtB_true hq)
                  have hcall := fun (w : World) (μc : Mem) (hw : MOk μc w) (hle : MLe μ μc) => hq ▸ ih (by omega) k x (deep + 1) false w μc hw (hkx.mono hle) (by omega) (by omega) hshk (hT.mono hle)
                  repeat' (first | (refine KO ?_) | ((with_reducible apply F1 36); exact rfl; exact EN; first | (exact fun w μc hw hse => ck w μc hw hse.le) | (exact fun w μc hw hse => c3 w μc hw hse.le)) | ((with_reducible apply F1 20); exact rfl; exact EN; (exact fun w μc hw hse => hcall w μc hw hse.le)) | ((with_reducible apply g_v); exact rfl; (first | (exact U1 0) | (exact U4 hm))) | (refine KI ?_) | (refine NB fun b => ?_) | ((refine KB ?_ ?_ <;> intro hp)) | (refine KG ?_) | fail)
                  all_goals first | exact J2 (0 + 1) ⟨by omega, hnx⟩ (by omega) | (exfalso; omega)
              · rw [hlk] at ck
                by_cases h53 : t.op = 53
                · have hon : onT t 0 k spine = true := by simp [onT, hlk, h53]
                  cases hq : rtB k (deep + 1) true
                  · have hR : rtB t deep spine = false := rtB_f fun h => rtB_false hq (by cases h with | mk _ _ _ h4 => exact hon ▸ h4 0 k hkk)
                    rw [hR]
                    have hcall := fun (w : World) (μc : Mem) (hw : MOk μc w) (hle : MLe μ μc) => hq ▸ ih (by omega) k x (deep + 1) true w μc hw (hkx.mono hle) (by omega) (by omega) hshk (hT.mono hle)
                    repeat' (first | (refine KO ?_) | ((with_reducible apply F1 36); exact rfl; exact EN; first | (exact fun w μc hw hse => ck w μc hw hse.le) | (exact fun w μc hw hse => c3 w μc hw hse.le)) | ((with_reducible apply F1 20); exact rfl; exact EN; (exact fun w μc hw hse => hcall w μc hw hse.le)) | ((with_reducible apply g_v); exact rfl; (first | (exact U1 0) | (exact U4 hm))) | (refine KI ?_) | (refine NB fun b => ?_) | ((refine KB ?_ ?_ <;> intro hp)) | (refine KG ?_) | fail)
                    all_goals first | exact ret_s rfl rfl rfl | (exfalso; omega)
                  · have hnx := hnext (by rw [hon]; exact rtB_true hq)
                    have hcall := fun (w : World) (μc : Mem) (hw : MOk μc w) (hle : MLe μ μc) => hq ▸ ih (by omega) k x (deep + 1) true w μc hw (hkx.mono hle) (by omega) (by omega) hshk (hT.mono hle)
                    repeat' (first | (refine KO ?_) | ((with_reducible apply F1 36); exact rfl; exact EN; first | (exact fun w μc hw hse => ck w μc hw hse.le) | (exact fun w μc hw hse => c3 w μc hw hse.le)) | ((with_reducible apply F1 20); exact rfl; exact EN; (exact fun w μc hw hse => hcall w μc hw hse.le)) | ((with_reducible apply g_v); exact rfl; (first | (exact U1 0) | (exact U4 hm))) | (refine KI ?_) | (refine NB fun b => ?_) | ((refine KB ?_ ?_ <;> intro hp)) | (refine KG ?_) | fail)
                    all_goals first | exact J2 (0 + 1) ⟨by omega, hnx⟩ (by omega) | (exfalso; omega)
                · cases spine
                  · skip
                    have hon : onT t 0 k false = false := by simp [onT, hlk, h53]
                    cases hq : rtB k (deep + 1) false
                    · have hR : rtB t deep false = false := rtB_f fun h => rtB_false hq (by cases h with | mk _ _ _ h4 => exact hon ▸ h4 0 k hkk)
                      rw [hR]
                      have hcall := fun (w : World) (μc : Mem) (hw : MOk μc w) (hle : MLe μ μc) => hq ▸ ih (by omega) k x (deep + 1) false w μc hw (hkx.mono hle) (by omega) (by omega) hshk (hT.mono hle)
                      repeat' (first | (refine KO ?_) | ((with_reducible apply F1 36); exact rfl; exact EN; first | (exact fun w μc hw hse => ck w μc hw hse.le) | (exact fun w μc hw hse => c3 w μc hw hse.le)) | ((with_reducible apply F1 20); exact rfl; exact EN; (exact fun w μc hw hse => hcall w μc hw hse.le)) | ((with_reducible apply g_v); exact rfl; (first | (exact U1 0) | (exact U4 hm))) | (refine KI ?_) | (refine NB fun b => ?_) | ((refine KB ?_ ?_ <;> intro hp)) | (refine KG ?_) | fail)
                      all_goals first | exact ret_s rfl rfl rfl | (exfalso; omega)
                    · have hnx := hnext (by rw [hon]; exact rtB_true hq)
                      have hcall := fun (w : World) (μc : Mem) (hw : MOk μc w) (hle : MLe μ μc) => hq ▸ ih (by omega) k x (deep + 1) false w μc hw (hkx.mono hle) (by omega) (by omega) hshk (hT.mono hle)
                      repeat' (first | (refine KO ?_) | ((with_reducible apply F1 36); exact rfl; exact EN; first | (exact fun w μc hw hse => ck w μc hw hse.le) | (exact fun w μc hw hse => c3 w μc hw hse.le)) | ((with_reducible apply F1 20); exact rfl; exact EN; (exact fun w μc hw hse => hcall w μc hw hse.le)) | ((with_reducible apply g_v); exact rfl; (first | (exact U1 0) | (exact U4 hm))) | (refine KI ?_) | (refine NB fun b => ?_) | ((refine KB ?_ ?_ <;> intro hp)) | (refine KG ?_) | fail)
                      all_goals first | exact J2 (0 + 1) ⟨by omega, hnx⟩ (by omega) | (exfalso; omega)
                  · cases hlt2 : linkT t
                    · rw [hlt2] at c3
                      have hon : onT t 0 k true = false := by simp [onT, hlk, h53, hlt2]
                      cases hq : rtB k (deep + 1) false
                      · have hR : rtB t deep true = false := rtB_f fun h => rtB_false hq (by cases h with | mk _ _ _ h4 => exact hon ▸ h4 0 k hkk)
                        rw [hR]
                        have hcall := fun (w : World) (μc : Mem) (hw : MOk μc w) (hle : MLe μ μc) => hq ▸ ih (by omega) k x (deep + 1) false w μc hw (hkx.mono hle) (by omega) (by omega) hshk (hT.mono hle)
                        repeat' (first | (refine KO ?_) | ((with_reducible apply F1 36); exact rfl; exact EN; first | (exact fun w μc hw hse => ck w μc hw hse.le) | (exact fun w μc hw hse => c3 w μc hw hse.le)) | ((with_reducible apply F1 20); exact rfl; exact EN; (exact fun w μc hw hse => hcall w μc hw hse.le)) | ((with_reducible apply g_v); exact rfl; (first | (exact U1 0) | (exact U4 hm))) | (refine KI ?_) | (refine NB fun b => ?_) | ((refine KB ?_ ?_ <;> intro hp)) | (refine KG ?_) | fail)
                        all_goals first | exact ret_s rfl rfl rfl | (exfalso; omega)
                      · have hnx := hnext (by rw [hon]; exact rtB_true hq)
                        have hcall := fun (w : World) (μc : Mem) (hw : MOk μc w) (hle : MLe μ μc) => hq ▸ ih (by omega) k x (deep + 1) false w μc hw (hkx.mono hle) (by omega) (by omega) hshk (hT.mono hle)
                        repeat' (first | (refine KO ?_) | ((with_reducible apply F1 36); exact rfl; exact EN; first | (exact fun w μc hw hse => ck w μc hw hse.le) | (exact fun w μc hw hse => c3 w μc hw hse.le)) | ((with_reducible apply F1 20); exact rfl; exact EN; (exact fun w μc hw hse => hcall w μc hw hse.le)) | ((with_reducible apply g_v); exact rfl; (first | (exact U1 0) | (exact U4 hm))) | (refine KI ?_) | (refine NB fun b => ?_) | ((refine KB ?_ ?_ <;> intro hp)) | (refine KG ?_) | fail)
                        all_goals first | exact J2 (0 + 1) ⟨by omega, hnx⟩ (by omega) | (exfalso; omega)
                    · rw [hlt2] at c3
                      have hon : onT t 0 k true = true := by simp [onT, hlk, h53, hlt2]
                      cases hq : rtB k (deep + 1) true
                      · have hR : rtB t deep true = false := rtB_f fun h => rtB_false hq (by cases h with | mk _ _ _ h4 => exact hon ▸ h4 0 k hkk)
                        rw [hR]
                        have hcall := fun (w : World) (μc : Mem) (hw : MOk μc w) (hle : MLe μ μc) => hq ▸ ih (by omega) k x (deep + 1) true w μc hw (hkx.mono hle) (by omega) (by omega) hshk (hT.mono hle)
                        repeat' (first | (refine KO ?_) | ((with_reducible apply F1 36); exact rfl; exact EN; first | (exact fun w μc hw hse => ck w μc hw hse.le) | (exact fun w μc hw hse => c3 w μc hw hse.le)) | ((with_reducible apply F1 20); exact rfl; exact EN; (exact fun w μc hw hse => hcall w μc hw hse.le)) | ((with_reducible apply g_v); exact rfl; (first | (exact U1 0) | (exact U4 hm))) | (refine KI ?_) | (refine NB fun b => ?_) | ((refine KB ?_ ?_ <;> intro hp)) | (refine KG ?_) | fail)
                        all_goals first | exact ret_s rfl rfl rfl | (exfalso; omega)
                      · have hnx := hnext (by rw [hon]; exact rtB_true hq)
                        have hcall := fun (w : World) (μc : Mem) (hw : MOk μc w) (hle : MLe μ μc) => hq ▸ ih (by omega) k x (deep + 1) true w μc hw (hkx.mono hle) (by omega) (by omega) hshk (hT.mono hle)
                        repeat' (first | (refine KO ?_) | ((with_reducible apply F1 36); exact rfl; exact EN; first | (exact fun w μc hw hse => ck w μc hw hse.le) | (exact fun w μc hw hse => c3 w μc hw hse.le)) | ((with_reducible apply F1 20); exact rfl; exact EN; (exact fun w μc hw hse => hcall w μc hw hse.le)) | ((with_reducible apply g_v); exact rfl; (first | (exact U1 0) | (exact U4 hm))) | (refine KI ?_) | (refine NB fun b => ?_) | ((refine KB ?_ ?_ <;> intro hp)) | (refine KG ?_) | fail)
                        all_goals first | exact J2 (0 + 1) ⟨by omega, hnx⟩ (by omega) | (exfalso; omega)
            · skip
              have hon : onT t i k spine = false := by simp [onT, hi0]
              cases hq : rtB k (deep + 1) false
              · have hR : rtB t deep spine = false := rtB_f fun h => rtB_false hq (by cases h with | mk _ _ _ h4 => exact hon ▸ h4 i k hkk)
                rw [hR]
                have hcall := fun (w : World) (μc : Mem) (hw : MOk μc w) (hle : MLe μ μc) => hq ▸ ih (by omega) k x (deep + 1) false w μc hw (hkx.mono hle) (by omega) (by omega) hshk (hT.mono hle)
                repeat' (first | (refine KO ?_) | ((with_reducible apply F1 36); exact rfl; exact EN; first | (exact fun w μc hw hse => ck w μc hw hse.le) | (exact fun w μc hw hse => c3 w μc hw hse.le)) | ((with_reducible apply F1 20); exact rfl; exact EN; (exact fun w μc hw hse => hcall w μc hw hse.le)) | ((with_reducible apply g_v); exact rfl; (first | (exact U1 i) | (exact U4 hm))) | (refine KI ?_) | (refine NB fun b => ?_) | ((refine KB ?_ ?_ <;> intro hp)) | (refine KG ?_) | fail)
                all_goals first | exact ret_s rfl rfl rfl | (exfalso; omega)
              · have hnx := hnext (by rw [hon]; exact rtB_true hq)
                have hcall := fun (w : World) (μc : Mem) (hw : MOk μc w) (hle : MLe μ μc) => hq ▸ ih (by omega) k x (deep + 1) false w μc hw (hkx.mono hle) (by omega) (by omega) hshk (hT.mono hle)
                repeat' (first | (refine KO ?_) | ((with_reducible apply F1 36); exact rfl; exact EN; first | (exact fun w μc hw hse => ck w μc hw hse.le) | (exact fun w μc hw hse => c3 w μc hw hse.le)) | ((with_reducible apply F1 20); exact rfl; exact EN; (exact fun w μc hw hse => hcall w μc hw hse.le)) | ((with_reducible apply g_v); exact rfl; (first | (exact U1 i) | (exact U4 hm))) | (refine KI ?_) | (refine NB fun b => ?_) | ((refine KB ?_ ?_ <;> intro hp)) | (refine KG ?_) | fail)
                all_goals first | exact J2 (i + 1) ⟨by omega, hnx⟩ (by omega) | (exfalso; omega)
          · have hR : rtB t deep spine = true := rtB_t (.mk hd hnd hkb fun j k hj => hok j k (by have := (List.getElem?_eq_some_iff.1 hj).1; omega) hj)
            rw [hR]
            repeat' (first | (refine KK ?_) | (refine NB fun b => ?_) | ((refine KB ?_ ?_ <;> intro hp)) | (refine KG ?_) | fail)
            all_goals first | exact ret_s rfl rfl rfl | (exfalso; omega)
        · rw [if_neg h23] at hkb'
          rw [hkb'] at c5
          repeat' (first | (refine KO ?_) | ((with_reducible apply C1); exact rfl; exact EN; exact fun w μc hw hse => c5 w μc hw hse.le) | (refine KI ?_) | (refine NB fun b => ?_) | ((refine KB ?_ ?_ <;> intro hp)) | (refine KG ?_) | fail)
          all_goals try (exfalso; omega)
          refine gc_loop (ι := Nat) (fun i => i ≤ t.kids.length ∧ ∀ (j : Nat) (k : T), j < i → t.kids[j]? = some k → Rt k (deep + 1) (onT t j k spine)) (fun i => t.kids.length - i) (fun _ => μ) (fun i => [(47, .int .i64 i), (46, .int .i64 t.kids.length), (45, .slice A t.kids.length c), (1, .int .i64 deep), (2, .bool spine), (3, .pointer (some ⟨b, 0, none⟩))]) (fun _ => [.inl ⟨b, 24, 6, idx 0 (encT t (.slice A t.kids.length c))⟩]) 0 ⟨by omega, fun j _ h => absurd h (by omega)⟩ (fun a w hs => J5 hs) ?_
          rintro i ⟨hi, hok⟩
          by_cases hlt : i < t.kids.length
          · have hkk : t.kids[i]? = some t.kids[i] := List.getElem?_eq_getElem hlt
            generalize t.kids[i] = k at hkk
            obtain ⟨ad, x, rfl, hm, hox, hkx⟩ := hkid i k hkk
            have hsz := T.size_kid hkk
            have hshk := sh_kid hsh (List.mem_of_getElem? hkk)
            have hskk := sh_s hshk
            have ck := fun (w : World) (μc : Mem) (hw : MOk μc w) (hle : MLe μ μc) => link_spec k _ w μc hw (hkx.mono hle) (by omega) (by omega)
            have hnext : Rt k (deep + 1) (onT t i k spine) → ∀ (j : Nat) (k : T), j < i + 1 → t.kids[j]? = some k → Rt k (deep + 1) (onT t j k spine) := fun h j k' hj hk' => by
              rcases Nat.lt_or_ge j i with h1 | h1
              · exact hok j k' h1 hk'
              · obtain rfl : j = i := by omega
                rw [hkk] at hk'
                cases hk'
                exact h
            by_cases hi0 : i = 0
            · subst hi0
              cases hlk : linkT k
              · rw [hlk] at ck
                have hon : onT t 0 k spine = false := by simp [onT, hlk]
                cases hq : rtB k (deep + 1) false
                · have hR : rtB t deep spine = false := rtB_f fun h => rtB_false hq (by cases h with | mk _ _ _ h4 => exact hon ▸ h4 0 k hkk)
                  rw [hR]
                  have hcall := fun (w : World) (μc : Mem) (hw : MOk μc w) (hle : MLe μ μc) => hq ▸ ih (by omega) k x (deep + 1) false w μc hw (hkx.mono hle) (by omega) (by omega) hshk (hT.mono hle)
                  repeat' (first | (refine KO ?_) | ((with_reducible apply F1 36); exact rfl; exact EN; first | (exact fun w μc hw hse => ck w μc hw hse.le) | (exact fun w μc hw hse => c3 w μc hw hse.le)) | ((with_reducible apply F1 20); exact rfl; exact EN; (exact fun w μc hw hse => hcall w μc hw hse.le)) | ((with_reducible apply g_v); exact rfl; (first | (exact U1 0) | (exact U4 hm))) | (refine KI ?_) | (refine NB fun b => ?_) | ((refine KB ?_ ?_ <;> intro hp)) | (refine KG ?_) | fail)
                  all_goals first | exact ret_s rfl rfl rfl | (exfalso; omega)
                · have hnx := hnext (by rw [hon]; exact rtB_true hq)
                  have hcall := fun (w : World) (μc : Mem) (hw : MOk μc w) (hle : MLe μ μc) => hq ▸ ih (by omega) k x (deep + 1) false w μc hw (hkx.mono hle) (by omega) (by omega) hshk (hT.mono hle)
                  repeat' (first | (refine KO ?_) | ((with_reducible apply F1 36); exact rfl; exact EN; first | (exact fun w μc hw hse => ck w μc hw hse.le) | (exact fun w μc hw hse => c3 w μc hw hse.le)) | ((with_reducible apply F1 20); exact rfl; exact EN; (exact fun w μc hw hse => hcall w μc hw hse.le)) | ((with_reducible apply g_v); exact rfl; (first | (exact U1 0) | (exact U4 hm))) | (refine KI ?_) | (refine NB fun b => ?_) | ((refine KB ?_ ?_ <;> intro hp)) | (refine KG ?_) | fail)
                  all_goals first | exact J2 (0 + 1) ⟨by omega, hnx⟩ (by omega) | (exfalso; omega)
              · rw [hlk] at ck
                by_cases h53 : t.op = 53
                · have hon : onT t 0 k spine = true := by simp [onT, hlk, h53]
                  cases hq : rtB k (deep + 1) true
                  · have hR : rtB t deep spine = false := rtB_f fun h => rtB_false hq (by cases h with | mk _ _ _ h4 => exact hon ▸ h4 0 k hkk)
                    rw [hR]
                    have hcall := fun (w : World) (μc : Mem) (hw : MOk μc w) (hle : MLe μ μc) => hq ▸ ih (by omega) k x (deep + 1) true w μc hw (hkx.mono hle) (by omega) (by omega) hshk (hT.mono hle)
                    repeat' (first | (refine KO ?_) | ((with_reducible apply F1 36); exact rfl; exact EN; first | (exact fun w μc hw hse => ck w μc hw hse.le) | (exact fun w μc hw hse => c3 w μc hw hse.le)) | ((with_reducible apply F1 20); exact rfl; exact EN; (exact fun w μc hw hse => hcall w μc hw hse.le)) | ((with_reducible apply g_v); exact rfl; (first | (exact U1 0) | (exact U4 hm))) | (refine KI ?_) | (refine NB fun b => ?_) | ((refine KB ?_ ?_ <;> intro hp)) | (refine KG ?_) | fail)
                    all_goals first | exact ret_s rfl rfl rfl | (exfalso; omega)
                  · have hnx := hnext (by rw [hon]; exact rtB_true hq)
                    have hcall := fun (w : World) (μc : Mem) (hw : MOk μc w) (hle : MLe μ μc) => hq ▸ ih (by omega) k x (deep + 1) true w μc hw (hkx.mono hle) (by omega) (by omega) hshk (hT.mono hle)
                    repeat' (first | (refine KO ?_) | ((with_reducible apply F1 36); exact rfl; exact EN; first | (exact fun w μc hw hse => ck w μc hw hse.le) | (exact fun w μc hw hse => c3 w μc hw hse.le)) | ((with_reducible apply F1 20); exact rfl; exact EN; (exact fun w μc hw hse => hcall w μc hw hse.le)) | ((with_reducible apply g_v); exact rfl; (first | (exact U1 0) | (exact U4 hm))) | (refine KI ?_) | (refine NB fun b => ?_) | ((refine KB ?_ ?_ <;> intro hp)) | (refine KG ?_) | fail)
                    all_goals first | exact J2 (0 + 1) ⟨by omega, hnx⟩ (by omega) | (exfalso; omega)
                · cases spine
                  · skip
                    have hon : onT t 0 k false = false := by simp [onT, hlk, h53]
                    cases hq : rtB k (deep + 1) false
                    · have hR : rtB t deep false = false := rtB_f fun h => rtB_false hq (by cases h with | mk _ _ _ h4 => exact hon ▸ h4 0 k hkk)
                      rw [hR]
                      have hcall := fun (w : World) (μc : Mem) (hw : MOk μc w) (hle : MLe μ μc) => hq ▸ ih (by omega) k x (deep + 1) false w μc hw (hkx.mono hle) (by omega) (by omega) hshk (hT.mono hle)
                      repeat' (first | (refine KO ?_) | ((with_reducible apply F1 36); exact rfl; exact EN; first | (exact fun w μc hw hse => ck w μc hw hse.le) | (exact fun w μc hw hse => c3 w μc hw hse.le)) | ((with_reducible apply F1 20); exact rfl; exact EN; (exact fun w μc hw hse => hcall w μc hw hse.le)) | ((with_reducible apply g_v); exact rfl; (first | (exact U1 0) | (exact U4 hm))) | (refine KI ?_) | (refine NB fun b => ?_) | ((refine KB ?_ ?_ <;> intro hp)) | (refine KG ?_) | fail)
                      all_goals first | exact ret_s rfl rfl rfl | (exfalso; omega)
                    · have hnx := hnext (by rw [hon]; exact rtB_true hq)
                      have hcall := fun (w : World) (μc : Mem) (hw : MOk μc w) (hle : MLe μ μc) => hq ▸ ih (by omega) k x (deep + 1) false w μc hw (hkx.mono hle) (by omega) (by omega) hshk (hT.mono hle)
                      repeat' (first | (refine KO ?_) | ((with_reducible apply F1 36); exact rfl; exact EN; first | (exact fun w μc hw hse => ck w μc hw hse.le) | (exact fun w μc hw hse => c3 w μc hw hse.le)) | ((with_reducible apply F1 20); exact rfl; exact EN; (exact fun w μc hw hse => hcall w μc hw hse.le)) | ((with_reducible apply g_v); exact rfl; (first | (exact U1 0) | (exact U4 hm))) | (refine KI ?_) | (refine NB fun b => ?_) | ((refine KB ?_ ?_ <;> intro hp)) | (refine KG ?_) | fail)
                      all_goals first | exact J2 (0 + 1) ⟨by omega, hnx⟩ (by omega) | (exfalso; omega)
                  · cases hlt2 : linkT t
                    · rw [hlt2] at c3
                      have hon : onT t 0 k true = false := by simp [onT, hlk, h53, hlt2]
                      cases hq : rtB k (deep + 1) false
                      · have hR : rtB t deep true = false := rtB_f fun h => rtB_false hq (by cases h with | mk _ _ _ h4 => exact hon ▸ h4 0 k hkk)
                        rw [hR]
                        have hcall := fun (w : World) (μc : Mem) (hw : MOk μc w) (hle : MLe μ μc) => hq ▸ ih (by omega) k x (deep + 1) false w μc hw (hkx.mono hle) (by omega) (by omega) hshk (hT.mono hle)
                        repeat' (first | (refine KO ?_) | ((with_reducible apply F1 36); exact rfl; exact EN; first | (exact fun w μc hw hse => ck w μc hw hse.le) | (exact fun w μc hw hse => c3 w μc hw hse.le)) | ((with_reducible apply F1 20); exact rfl; exact EN; (exact fun w μc hw hse => hcall w μc hw hse.le)) | ((with_reducible apply g_v); exact rfl; (first | (exact U1 0) | (exact U4 hm))) | (refine KI ?_) | (refine NB fun b => ?_) | ((refine KB ?_ ?_ <;> intro hp)) | (refine KG ?_) | fail)
                        all_goals first | exact ret_s rfl rfl rfl | (exfalso; omega)
                      · have hnx := hnext (by rw [hon]; exact rtB_true hq)
                        have hcall := fun (w : World) (μc : Mem) (hw : MOk μc w) (hle : MLe μ μc) => hq ▸ ih (by omega) k x (deep + 1) false w μc hw (hkx.mono hle) (by omega) (by omega) hshk (hT.mono hle)
                        repeat' (first | (refine KO ?_) | ((with_reducible apply F1 36); exact rfl; exact EN; first | (exact fun w μc hw hse => ck w μc hw hse.le) | (exact fun w μc hw hse => c3 w μc hw hse.le)) | ((with_reducible apply F1 20); exact rfl; exact EN; (exact fun w μc hw hse => hcall w μc hw hse.le)) | ((with_reducible apply g_v); exact rfl; (first | (exact U1 0) | (exact U4 hm))) | (refine KI ?_) | (refine NB fun b => ?_) | ((refine KB ?_ ?_ <;> intro hp)) | (refine KG ?_) | fail)
                        all_goals first | exact J2 (0 + 1) ⟨by omega, hnx⟩ (by omega) | (exfalso; omega)
                    · rw [hlt2] at c3
                      have hon : onT t 0 k true = true := by simp [onT, hlk, h53, hlt2]
                      cases hq : rtB k (deep + 1) true
                      · have hR : rtB t deep true = false := rtB_f fun h => rtB_false hq (by cases h with | mk _ _ _ h4 => exact hon ▸ h4 0 k hkk)
                        rw [hR]
                        have hcall := fun (w : World) (μc : Mem) (hw : MOk μc w) (hle : MLe μ μc) => hq ▸ ih (by omega) k x (deep + 1) true w μc hw (hkx.mono hle) (by omega) (by omega) hshk (hT.mono hle)
                        repeat' (first | (refine KO ?_) | ((with_reducible apply F1 36); exact rfl; exact EN; first | (exact fun w μc hw hse => ck w μc hw hse.le) | (exact fun w μc hw hse => c3 w μc hw hse.le)) | ((with_reducible apply F1 20); exact rfl; exact EN; (exact fun w μc hw hse => hcall w μc hw hse.le)) | ((with_reducible apply g_v); exact rfl; (first | (exact U1 0) | (exact U4 hm))) | (refine KI ?_) | (refine NB fun b => ?_) | ((refine KB ?_ ?_ <;> intro hp)) | (refine KG ?_) | fail)
                        all_goals first | exact ret_s rfl rfl rfl | (exfalso; omega)
                      · have hnx := hnext (by rw [hon]; exact rtB_true hq)
                        have hcall := fun (w : World) (μc : Mem) (hw : MOk μc w) (hle : MLe μ μc) => hq ▸ ih (by omega) k x (deep + 1) true w μc hw (hkx.mono hle) (by omega) (by omega) hshk (hT.mono hle)
                        repeat' (first | (refine KO ?_) | ((with_reducible apply F1 36); exact rfl; exact EN; first | (exact fun w μc hw hse => ck w μc hw hse.le) | (exact fun w μc hw hse => c3 w μc hw hse.le)) | ((with_reducible apply F1 20); exact rfl; exact EN; (exact fun w μc hw hse => hcall w μc hw hse.le)) | ((with_reducible apply g_v); exact rfl; (first | (exact U1 0) | (exact U4 hm))) | (refine KI ?_) | (refine NB fun b => ?_) | ((refine KB ?_ ?_ <;> intro hp)) | (refine KG ?_) | fail)
                        all_goals first | exact J2 (0 + 1) ⟨by omega, hnx⟩ (by omega) | (exfalso; omega)
            · skip
              have hon : onT t i k spine = false := by simp [onT, hi0]
              cases hq : rtB k (deep + 1) false
              · have hR : rtB t deep spine = false := rtB_f fun h => rtB_false hq (by cases h with | mk _ _ _ h4 => exact hon ▸ h4 i k hkk)
                rw [hR]
                have hcall := fun (w : World) (μc : Mem) (hw : MOk μc w) (hle : MLe μ μc) => hq ▸ ih (by omega) k x (deep + 1) false w μc hw (hkx.mono hle) (by omega) (by omega) hshk (hT.mono hle)
                repeat' (first | (refine KO ?_) | ((with_reducible apply F1 36); exact rfl; exact EN; first | (exact fun w μc hw hse => ck w μc hw hse.le) | (exact fun w μc hw hse => c3 w μc hw hse.le)) | ((with_reducible apply F1 20); exact rfl; exact EN; (exact fun w μc hw hse => hcall w μc hw hse.le)) | ((with_reducible apply g_v); exact rfl; (first | (exact U1 i) | (exact U4 hm))) | (refine KI ?_) | (refine NB fun b => ?_) | ((refine KB ?_ ?_ <;> intro hp)) | (refine KG ?_) | fail)
                all_goals first | exact ret_s rfl rfl rfl | (exfalso; omega)
              · have hnx := hnext (by rw [hon]; exact rtB_true hq)
                have hcall := fun (w : World) (μc : Mem) (hw : MOk μc w) (hle : MLe μ μc) => hq ▸ ih (by omega) k x (deep + 1) false w μc hw (hkx.mono hle) (by omega) (by omega) hshk (hT.mono hle)
                repeat' (first | (refine KO ?_) | ((with_reducible apply F1 36); exact rfl; exact EN; first | (exact fun w μc hw hse => ck w μc hw hse.le) | (exact fun w μc hw hse => c3 w μc hw hse.le)) | ((with_reducible apply F1 20); exact rfl; exact EN; (exact fun w μc hw hse => hcall w μc hw hse.le)) | ((with_reducible apply g_v); exact rfl; (first | (exact U1 i) | (exact U4 hm))) | (refine KI ?_) | (refine NB fun b => ?_) | ((refine KB ?_ ?_ <;> intro hp)) | (refine KG ?_) | fail)
                all_goals first | exact J2 (i + 1) ⟨by omega, hnx⟩ (by omega) | (exfalso; omega)
          · have hR : rtB t deep spine = true := rtB_t (.mk hd hnd hkb fun j k hj => hok j k (by have := (List.getElem?_eq_some_iff.1 hj).1; omega) hj)
            rw [hR]
            repeat' (first | (refine KK ?_) | (refine NB fun b => ?_) | ((refine KB ?_ ?_ <;> intro hp)) | (refine KG ?_) | fail)
            all_goals first | exact ret_s rfl rfl rfl | (exfalso; omega)
    · have hR : rtB t deep spine = false := rtB_f fun h => by
        cases h with
        | mk h2 h3 _ _ => exact h1 ⟨h2, h3⟩
      rw [hR]
      unfold Nd at h1
      repeat' (first | ((with_reducible show GC _ _ (Code.seq (Code.region 3 _ _) _) _ _ _ _); (apply gc_stop)) | (refine KO ?_) | ((with_reducible apply F1 34); exact rfl; exact EN; (exact fun w μc hw hse => c1 w μc hw hse.le)) | ((with_reducible apply F1 35); exact rfl; exact EN; (exact fun w μc hw hse => c2 w μc hw hse.le)) | ((with_reducible apply F1 36); exact rfl; exact EN; (exact fun w μc hw hse => c3 w μc hw hse.le)) | (refine KI ?_) | (refine NB fun b => ?_) | ((refine KB ?_ ?_ <;> intro hp)) | (refine KG ?_) | fail)
      all_goals first | exact ret_s rfl rfl rfl | (exfalso; clear c1 c2 c3 c4 c5 hk hkid hμ hT hks hks' hsh ih; simp_all; done) | (exfalso; clear c1 c2 c3 c4 c5 hk hkid hμ hT hks hks' hsh ih; simp_all; omega) | (exfalso; omega)
end Go.Proofs.YtllilkcocfalmaaGreatDoor
