/- Package ir: the document's fields of a node, the other kinds, and all of them. -/
import Derived.Test.YtoclmkdfcafhfaaGreatDoorZar
set_option maxRecDepth 20000
set_option maxHeartbeats 2000000
namespace Go.Proofs.YtoclmkdfcafhfaaGreatDoor
open Go.RowKit Go.Vcg Ou
attribute [local irreducible] G GC GQ GA bO Calls IntKind.wrap Int.decLt Int.decLe
theorem II (t : T) (u : Value) (hu : u.oneCell' = true) (f : F) (v : Value) (hv : v.oneCell' = true) (k : Int) (h : t.op = 132) (hs : t.s.size ≤ 1000000) (w : World) (μ : Mem) (hμ : MOk μ w) : Calls Tryz.prog 114 #[.agg (aR t u).toArray, .agg (dS f v).toArray, .int .i64 k] w fun e w' => e = .returned (.bool (aI t f.loc k)) ∧ Below w.heap.size w w' := by
  have e : aI t f.loc k = (Iq.unW.contains t.s.data.toList && (decide (t.m = 0) && decide (t.n = 0))) := by
    unfold aI Iq.cT Iq.cG Iq.bB Iq.eW
    simp [h]
  rw [e]
  refine aC (args := [.agg (aR t u).toArray, .agg (dS f v).toArray, .int .i64 k]) Tryz.func114 rfl Tryz.ntmps114 (by simp) hμ ?_
  generalize hb : Iq.unW.contains t.s.data.toList = x
  cases x
  all_goals by_cases hm : t.m = 0
  all_goals by_cases hn : t.n = 0
  all_goals try simp only [hm, hn, decide_true, decide_false, Bool.and_true, Bool.true_and, Bool.and_false, Bool.false_and]
  all_goals repeat' (first | refine KO ?_ | ((with_reducible apply F1 141); exact rfl; exact EN; (exact fun w μc hw hse => OH _ _ hb w μc hw)) | refine KI ?_ | refine NB fun b => ?_ | (refine KB ?_ ?_ <;> intro hp) | refine KG ?_ | fail)
  all_goals exact aD rfl rfl rfl
theorem IH (t : T) (u : Value) (hu : u.oneCell' = true) (f : F) (v : Value) (hv : v.oneCell' = true) (k : Int) (h : t.op = 133) (hs : t.s.size ≤ 1000000) (w : World) (μ : Mem) (hμ : MOk μ w) : Calls Tryz.prog 114 #[.agg (aR t u).toArray, .agg (dS f v).toArray, .int .i64 k] w fun e w' => e = .returned (.bool (aI t f.loc k)) ∧ Below w.heap.size w w' := by
  have e : aI t f.loc k = (Iq.rM.contains t.s.data.toList && (decide (t.m = 0) && decide (t.n = 0))) := by
    unfold aI Iq.cT Iq.cG Iq.bB Iq.eW
    simp [h]
  rw [e]
  refine aC (args := [.agg (aR t u).toArray, .agg (dS f v).toArray, .int .i64 k]) Tryz.func114 rfl Tryz.ntmps114 (by simp) hμ ?_
  generalize hb : Iq.rM.contains t.s.data.toList = x
  cases x
  all_goals by_cases hm : t.m = 0
  all_goals by_cases hn : t.n = 0
  all_goals try simp only [hm, hn, decide_true, decide_false, Bool.and_true, Bool.true_and, Bool.and_false, Bool.false_and]
  all_goals repeat' (first | refine KO ?_ | ((with_reducible apply F1 141); exact rfl; exact EN; (exact fun w μc hw hse => IP _ _ hb w μc hw)) | refine KI ?_ | refine NB fun b => ?_ | (refine KB ?_ ?_ <;> intro hp) | refine KG ?_ | fail)
  all_goals exact aD rfl rfl rfl
theorem IG (t : T) (u : Value) (hu : u.oneCell' = true) (f : F) (v : Value) (hv : v.oneCell' = true) (k : Int) (h : t.op = 134) (hs : t.s.size ≤ 1000000) (w : World) (μ : Mem) (hμ : MOk μ w) : Calls Tryz.prog 114 #[.agg (aR t u).toArray, .agg (dS f v).toArray, .int .i64 k] w fun e w' => e = .returned (.bool (aI t f.loc k)) ∧ Below w.heap.size w w' := by
  have e : aI t f.loc k = (Iq.rF.contains t.s.data.toList && (decide (t.m = 0) && decide (t.n = 0))) := by
    unfold aI Iq.cT Iq.cG Iq.bB Iq.eW
    simp [h]
  rw [e]
  refine aC (args := [.agg (aR t u).toArray, .agg (dS f v).toArray, .int .i64 k]) Tryz.func114 rfl Tryz.ntmps114 (by simp) hμ ?_
  generalize hb : Iq.rF.contains t.s.data.toList = x
  cases x
  all_goals by_cases hm : t.m = 0
  all_goals by_cases hn : t.n = 0
  all_goals try simp only [hm, hn, decide_true, decide_false, Bool.and_true, Bool.true_and, Bool.and_false, Bool.false_and]
  all_goals repeat' (first | refine KO ?_ | ((with_reducible apply F1 141); exact rfl; exact EN; (exact fun w μc hw hse => IN _ _ hb w μc hw)) | refine KI ?_ | refine NB fun b => ?_ | (refine KB ?_ ?_ <;> intro hp) | refine KG ?_ | fail)
  all_goals exact aD rfl rfl rfl
end Go.Proofs.YtoclmkdfcafhfaaGreatDoor
