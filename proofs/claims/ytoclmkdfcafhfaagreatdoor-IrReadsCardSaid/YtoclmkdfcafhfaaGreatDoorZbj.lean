/- Package ir: the document's fields of a node, the other kinds, and all of them. -/
import Derived.Test.YtoclmkdfcafhfaaGreatDoorZar
set_option maxRecDepth 20000
set_option maxHeartbeats 2000000
namespace Go.Proofs.YtoclmkdfcafhfaaGreatDoor
open Go.RowKit Go.Vcg Ou
attribute [local irreducible] G GC GQ GA bO Calls IntKind.wrap Int.decLt Int.decLe
theorem IF (t : T) (u : Value) (hu : u.oneCell' = true) (f : F) (v : Value) (hv : v.oneCell' = true) (k : Int) (h : t.op = 163)  (w : World) (μ : Mem) (hμ : MOk μ w) : Calls Tryz.prog 114 #[.agg (aR t u).toArray, .agg (dS f v).toArray, .int .i64 k] w fun e w' => e = .returned (.bool (aI t f.loc k)) ∧ Below w.heap.size w w' := by
  have e : aI t f.loc k = (t.s.data.toList.isEmpty && (Iq.inI t.m 0 4096 && Iq.inI t.n 0 4096)) := by
    unfold aI Iq.cT Iq.cG Iq.bB Iq.eW
    simp [h]
  rw [e]
  have e1 : (t.s = ⟨#[]⟩) = (t.s.data.toList = []) := of_nil (a := t.s.data.toList)
  refine aC (args := [.agg (aR t u).toArray, .agg (dS f v).toArray, .int .i64 k]) Tryz.func114 rfl Tryz.ntmps114 (by simp) hμ ?_
  by_cases hs : t.s = ⟨#[]⟩
  · have hs2 : t.s.data.toList.isEmpty = true := by rw [hs]; rfl
    rw [hs2]
    clear e1
    generalize hA : Iq.inI t.m 0 4096 = A
    generalize hB : Iq.inI t.n 0 4096 = B
    rw [kB] at hA hB
    cases A <;> cases B
    all_goals simp only [decide_eq_true_eq, decide_eq_false_iff_not] at hA hB
    all_goals repeat' (first | refine KO ?_ | ((with_reducible apply F1 49); exact rfl; exact EN; (exact fun w μc hw hse => SD _ _ _ _ (by first | (rw [kB, decide_eq_true_eq]; exact hA) | (rw [kB, decide_eq_true_eq]; exact hB) | (rw [kB, decide_eq_false_iff_not]; exact hA) | (rw [kB, decide_eq_false_iff_not]; exact hB)) w μc hw)) | refine KI ?_ | refine NB fun b => ?_ | (refine KB ?_ ?_ <;> intro hp) | refine KG ?_ | fail)
    all_goals first | (exfalso; contradiction) | exact aD rfl rfl rfl
  · have hs2 : t.s.data.toList.isEmpty = false := by rw [e1] at hs; simpa using hs
    rw [hs2]
    clear e1
    generalize hA : Iq.inI t.m 0 4096 = A
    generalize hB : Iq.inI t.n 0 4096 = B
    rw [kB] at hA hB
    cases A <;> cases B
    all_goals simp only [decide_eq_true_eq, decide_eq_false_iff_not] at hA hB
    all_goals repeat' (first | refine KO ?_ | refine KI ?_ | refine NB fun b => ?_ | refine KG ?_ | fail)
    all_goals exact aD rfl rfl rfl
end Go.Proofs.YtoclmkdfcafhfaaGreatDoor
