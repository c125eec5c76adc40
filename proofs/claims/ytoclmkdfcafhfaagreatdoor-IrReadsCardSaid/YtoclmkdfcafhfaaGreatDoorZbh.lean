/- Package ir: the document's fields of a node, the other kinds, and all of them. -/
import Derived.Test.YtoclmkdfcafhfaaGreatDoorZar
set_option maxRecDepth 20000
set_option maxHeartbeats 2000000
namespace Go.Proofs.YtoclmkdfcafhfaaGreatDoor
open Go.RowKit Go.Vcg Ou
attribute [local irreducible] G GC GQ GA bO Calls IntKind.wrap Int.decLt Int.decLe
theorem EW (t : T) (u : Value) (hu : u.oneCell' = true) (f : F) (v : Value) (hv : v.oneCell' = true) (k : Int) (h : t.op = 111 ∨ t.op = 112 ∨ t.op = 113) (hs : t.s.size ≤ 1000000) (w : World) (μ : Mem) (hμ : MOk μ w) : Calls Tryz.prog 114 #[.agg (aR t u).toArray, .agg (dS f v).toArray, .int .i64 k] w fun e w' => e = .returned (.bool (aI t f.loc k)) ∧ Below w.heap.size w w' := by
  have e : aI t f.loc k = (Iq.oB t.s.data.toList && (decide (t.m = 0) && decide (t.n = 0))) := by
    unfold aI Iq.cT Iq.cG Iq.bB Iq.eW
    rcases h with h | h | h <;> simp [h]
  rw [e]
  refine aC (args := [.agg (aR t u).toArray, .agg (dS f v).toArray, .int .i64 k]) Tryz.func114 rfl Tryz.ntmps114 (by simp) hμ ?_
  generalize hb : Iq.oB t.s.data.toList = x
  cases x
  all_goals by_cases hm : t.m = 0
  all_goals by_cases hn : t.n = 0
  all_goals try simp only [hm, hn, decide_true, decide_false, Bool.and_true, Bool.true_and, Bool.and_false, Bool.false_and]
  all_goals rcases h with h | h | h
  all_goals repeat' (first | refine KO ?_ | ((with_reducible apply F1 140); exact rfl; exact EN; (exact fun w μc hw hse => SE _ _ hb hs w μc hw)) | refine KI ?_ | refine NB fun b => ?_ | (refine KB ?_ ?_ <;> intro hp) | refine KG ?_ | fail)
  all_goals exact aD rfl rfl rfl
theorem IJ (t : T) (u : Value) (hu : u.oneCell' = true) (f : F) (v : Value) (hv : v.oneCell' = true) (k : Int) (h : t.op = 114) (hs : t.s.size ≤ 1000000) (w : World) (μ : Mem) (hμ : MOk μ w) : Calls Tryz.prog 114 #[.agg (aR t u).toArray, .agg (dS f v).toArray, .int .i64 k] w fun e w' => e = .returned (.bool (aI t f.loc k)) ∧ Below w.heap.size w w' := by
  have e : aI t f.loc k = (Iq.oB t.s.data.toList && (decide (t.m = 0) && Iq.inI t.n 0 1)) := by
    unfold aI Iq.cT Iq.cG Iq.bB Iq.eW
    simp [h]
  rw [e]
  refine aC (args := [.agg (aR t u).toArray, .agg (dS f v).toArray, .int .i64 k]) Tryz.func114 rfl Tryz.ntmps114 (by simp) hμ ?_
  generalize hb : Iq.oB t.s.data.toList = x
  cases x
  all_goals by_cases hm : t.m = 0
  all_goals try simp only [hm, decide_true, decide_false, Bool.and_true, Bool.true_and, Bool.and_false, Bool.false_and]
  all_goals repeat' (first | refine KO ?_ | ((with_reducible apply F1 140); exact rfl; exact EN; (exact fun w μc hw hse => SE _ _ hb hs w μc hw)) | ((with_reducible apply F1 49); exact rfl; exact EN; (exact fun w μc hw hse => fD _ _ _ w μc hw)) | refine KI ?_ | refine NB fun b => ?_ | (refine KB ?_ ?_ <;> intro hp) | refine KG ?_ | fail)
  all_goals first | exact aD rfl rfl rfl | (refine aD rfl rfl ?_; congr 1; (simp [*]; done))
end Go.Proofs.YtoclmkdfcafhfaaGreatDoor
