/- Package ir: the document's fields of a node, the other kinds, and all of them. -/
import Derived.Test.YtoclmkdfcafhfaaGreatDoorZbh
import Derived.Test.YtoclmkdfcafhfaaGreatDoorZbi
import Derived.Test.YtoclmkdfcafhfaaGreatDoorZbj
set_option maxRecDepth 20000
set_option maxHeartbeats 2000000
namespace Go.Proofs.YtoclmkdfcafhfaaGreatDoor
open Go.RowKit Go.Vcg Ou
attribute [local irreducible] G GC GQ GA bO Calls IntKind.wrap Int.decLt Int.decLe
theorem EU (t : T) (u : Value) (hu : u.oneCell' = true) (f : F) (v : Value) (hv : v.oneCell' = true) (k : Int) (h : ¬ (t.op = 102 ∨ t.op = 103 ∨ t.op = 105 ∨ t.op = 107 ∨ t.op = 108 ∨ t.op = 109 ∨ t.op = 110 ∨ t.op = 111 ∨ t.op = 112 ∨ t.op = 113 ∨ t.op = 114 ∨ t.op = 117 ∨ t.op = 118 ∨ t.op = 119 ∨ t.op = 121 ∨ t.op = 126 ∨ t.op = 127 ∨ t.op = 129 ∨ t.op = 130 ∨ t.op = 131 ∨ t.op = 132 ∨ t.op = 133 ∨ t.op = 134 ∨ t.op = 144 ∨ t.op = 163 ∨ t.op = 164 ∨ t.op = 165 ∨ t.op = 166 ∨ t.op = 169 ∨ t.op = 170))  (w : World) (μ : Mem) (hμ : MOk μ w) : Calls Tryz.prog 114 #[.agg (aR t u).toArray, .agg (dS f v).toArray, .int .i64 k] w fun e w' => e = .returned (.bool (aI t f.loc k)) ∧ Below w.heap.size w w' := by
  have e : aI t f.loc k = (t.s.data.toList.isEmpty && (decide (t.m = 0) && decide (t.n = 0))) := by
    unfold aI Iq.cT Iq.cG Iq.bB Iq.eW
    rw [if_neg (show ¬ (t.op = 105) by omega), if_neg (show ¬ (t.op = 111 ∨ t.op = 112 ∨ t.op = 113 ∨ t.op = 114) by omega), if_neg (show ¬ (t.op = 132) by omega), if_neg (show ¬ (t.op = 133) by omega), if_neg (show ¬ (t.op = 134) by omega)]
    rw [if_neg (show ¬ (t.op = 109 ∨ t.op = 110) by omega), if_neg (show ¬ (t.op = 129) by omega), if_neg (show ¬ (t.op = 163) by omega)]
    rw [if_neg (show ¬ (t.op = 102 ∨ t.op = 126 ∨ t.op = 127 ∨ t.op = 144 ∨ t.op = 114) by omega), if_neg (show ¬ (t.op = 103) by omega), if_neg (show ¬ (t.op = 107 ∨ t.op = 108 ∨ t.op = 169) by omega), if_neg (show ¬ (t.op = 109 ∨ t.op = 110 ∨ t.op = 165 ∨ t.op = 166) by omega), if_neg (show ¬ (t.op = 117) by omega), if_neg (show ¬ (t.op = 118) by omega), if_neg (show ¬ (t.op = 119) by omega), if_neg (show ¬ (t.op = 121) by omega), if_neg (show ¬ (t.op = 163 ∨ t.op = 164 ∨ t.op = 170) by omega)]
    rw [if_neg (show ¬ (t.op = 129) by omega), if_neg (show ¬ (t.op = 131) by omega), if_neg (show ¬ (t.op = 130) by omega)]
    rw [Bool.and_true]
  rw [e]
  have e1 : (t.s = ⟨#[]⟩) = (t.s.data.toList = []) := of_nil (a := t.s.data.toList)
  refine aC (args := [.agg (aR t u).toArray, .agg (dS f v).toArray, .int .i64 k]) Tryz.func114 rfl Tryz.ntmps114 (by simp) hμ ?_
  by_cases hs : t.s = ⟨#[]⟩
  · have hs2 : t.s.data.toList.isEmpty = true := by rw [hs]; rfl
    rw [hs2]
    clear e1
    all_goals by_cases hm : t.m = 0
    all_goals by_cases hn : t.n = 0
    all_goals try simp only [hm, hn, decide_true, decide_false, Bool.and_true, Bool.true_and, Bool.and_false, Bool.false_and]
    all_goals repeat' (first | refine KK ?_ | refine NB fun b => ?_ | (refine KB ?_ ?_ <;> intro hp) | refine KG ?_ | fail)
    all_goals first | (exfalso; contradiction) | exact aD rfl rfl rfl | (refine aD rfl rfl ?_; congr 1; (simp [*]; done))
  · have hs2 : t.s.data.toList.isEmpty = false := by rw [e1] at hs; simpa using hs
    rw [hs2]
    clear e1
    all_goals by_cases hm : t.m = 0
    all_goals by_cases hn : t.n = 0
    all_goals try simp only [hm, hn, decide_true, decide_false, Bool.and_true, Bool.true_and, Bool.and_false, Bool.false_and]
    all_goals repeat' (first | refine KK ?_ | refine NB fun b => ?_ | refine KG ?_ | fail)
    all_goals exact aD rfl rfl rfl
theorem IE (t : T) (u : Value) (f : F) (v : Value) (hv : v.oneCell' = true) (k : Int) (h : t.op = 130 ∨ t.op = 131) (w : World) (μ : Mem) (hμ : MOk μ w) (hu : KR μ t.kids u) (hk : t.kids.length ≤ 100000) : Calls Tryz.prog 114 #[.agg (aR t u).toArray, .agg (dS f v).toArray, .int .i64 k] w fun e w' => e = .returned (.bool (aI t f.loc k)) ∧ Below w.heap.size w w' := by
  obtain ⟨A, c, rfl, hc, cL⟩ := hu.form
  have e : aI t f.loc k = (t.s.data.toList.isEmpty && (decide (t.m = 0) && (decide (t.n = 0) && decide ((t.kids.length : Int) - (if t.op = 131 then 1 else 2) ≤ 1024)))) := by
    unfold aI Iq.cT Iq.cG Iq.bB Iq.eW
    rcases h with h | h <;> simp [h]
  rw [e]
  have e1 : (t.s = ⟨#[]⟩) = (t.s.data.toList = []) := of_nil (a := t.s.data.toList)
  refine aC (args := [.agg (aR t (.slice A t.kids.length c)).toArray, .agg (dS f v).toArray, .int .i64 k]) Tryz.func114 rfl Tryz.ntmps114 (by simp) hμ ?_
  by_cases hs : t.s = ⟨#[]⟩
  · have hs2 : t.s.data.toList.isEmpty = true := by rw [hs]; rfl
    rw [hs2]
    clear e1 e
    all_goals by_cases hm : t.m = 0
    all_goals by_cases hn : t.n = 0
    all_goals simp only [hm, hn, decide_true, decide_false, Bool.and_true, Bool.true_and, Bool.and_false, Bool.false_and]
    all_goals rcases h with h | h
    all_goals try simp only [h]
    all_goals repeat' (first | refine KK ?_ | refine NB fun b => ?_ | (refine KB ?_ ?_ <;> intro hp) | refine KG ?_ | fail)
    all_goals first | (exfalso; contradiction) | exact aD rfl rfl rfl
  · have hs2 : t.s.data.toList.isEmpty = false := by rw [e1] at hs; simpa using hs
    rw [hs2, Bool.false_and]
    clear e1 e
    rcases h with h | h
    all_goals repeat' (first | refine KK ?_ | refine NB fun b => ?_ | refine KG ?_ | fail)
    all_goals exact aD rfl rfl rfl
theorem EX (t : T) (u : Value) (f : F) (v : Value) (hv : v.oneCell' = true) (k : Int) (h : t.op = 129) (w : World) (μ : Mem) (hμ : MOk μ w) (hu : KR μ t.kids u) (hk : t.kids.length ≤ 100000) : Calls Tryz.prog 114 #[.agg (aR t u).toArray, .agg (dS f v).toArray, .int .i64 k] w fun e w' => e = .returned (.bool (aI t f.loc k)) ∧ Below w.heap.size w w' := by
  obtain ⟨A, c, rfl, hc, cL⟩ := hu.form
  have e : aI t f.loc k = (t.s.data.toList.isEmpty && (Iq.inI t.m 0 1 && (decide (t.n = 0) && (!(decide (t.m = 1) && (decide (t.kids.length < 2) || decide (t.kids[1]?.map T.op = some 124))) && decide ((t.kids.length : Int) - 1 - t.m ≤ 1024))))) := by
    unfold aI Iq.cT Iq.cG Iq.bB Iq.eW
    simp [h]
  rw [e]
  have e1 : (t.s = ⟨#[]⟩) = (t.s.data.toList = []) := of_nil (a := t.s.data.toList)
  refine aC (args := [.agg (aR t (.slice A t.kids.length c)).toArray, .agg (dS f v).toArray, .int .i64 k]) Tryz.func114 rfl Tryz.ntmps114 (by simp) hμ ?_
  by_cases hs : t.s = ⟨#[]⟩
  · have hs2 : t.s.data.toList.isEmpty = true := by rw [hs]; rfl
    rw [hs2, Bool.true_and]
    clear e1 e
    by_cases h1 : t.m = 1
    · have hI : Iq.inI t.m 0 1 = true := by rw [kB]; exact decide_eq_true (by omega)
      rw [hI, Bool.true_and, h1]
      by_cases h2 : t.kids.length < 2
      · have e9 : (decide (t.n = 0) && (!(decide ((1 : Int) = 1) && (decide (t.kids.length < 2) || decide (t.kids[1]?.map T.op = some 124))) && decide ((t.kids.length : Int) - 1 - 1 ≤ 1024))) = false := by simp [h2]
        rw [e9]
        repeat' (first | refine KO ?_ | refine KI ?_ | refine NB fun b => ?_ | (refine KB ?_ ?_ <;> intro hp) | refine KG ?_ | fail)
        all_goals first | (exfalso; contradiction) | exact aD rfl rfl rfl
      · obtain ⟨ad, x, rfl, hm1, ho, hkr⟩ := cL 1 _ (List.getElem?_eq_getElem (by omega))
        have hka : t.kids[1]? = some t.kids[1] := List.getElem?_eq_getElem (by omega)
        rw [hka]
        generalize t.kids[1] = y at hm1 ⊢
        by_cases h3 : y.op = 124
        · have e9 : (decide (t.n = 0) && (!(decide ((1 : Int) = 1) && (decide (t.kids.length < 2) || decide (Option.map T.op (some y) = some 124))) && decide ((t.kids.length : Int) - 1 - 1 ≤ 1024))) = false := by simp [h3]
          rw [e9]
          repeat' (first | refine KO ?_ | (refine KV (b := by first | exact U1 1 | exact U4 hm1) (c := ?_)) | refine KI ?_ | refine NB fun b => ?_ | (refine KB ?_ ?_ <;> intro hp) | refine KG ?_ | fail)
          all_goals first | (exfalso; contradiction) | exact aD rfl rfl rfl
        · have e9 : (!(decide ((1 : Int) = 1) && (decide (t.kids.length < 2) || decide (Option.map T.op (some y) = some 124)))) = true := by simp [h2, h3]
          rw [e9, Bool.true_and]
          by_cases hn : t.n = 0
          · rw [decide_eq_true hn, Bool.true_and]
            repeat' (first | refine KO ?_ | ((with_reducible apply F1 49); exact rfl; exact EN; (exact fun w μc hw hse => SD _ _ _ _ hI w μc hw)) | (refine KV (b := by first | exact U1 1 | exact U4 hm1) (c := ?_)) | refine KI ?_ | refine NB fun b => ?_ | (refine KB ?_ ?_ <;> intro hp) | refine KG ?_ | fail)
            all_goals first | (exfalso; contradiction) | (refine aD rfl rfl ?_; congr 1; exact decide_eq_decide.2 (by omega))
          · rw [decide_eq_false hn, Bool.false_and]
            repeat' (first | refine KO ?_ | (refine KV (b := by first | exact U1 1 | exact U4 hm1) (c := ?_)) | refine KI ?_ | refine NB fun b => ?_ | (refine KB ?_ ?_ <;> intro hp) | refine KG ?_ | fail)
            all_goals first | (exfalso; contradiction) | exact aD rfl rfl rfl
    · have e9 : (!(decide (t.m = 1) && (decide (t.kids.length < 2) || decide (t.kids[1]?.map T.op = some 124)))) = true := by simp [h1]
      rw [e9, Bool.true_and]
      by_cases hm0 : t.m = 0
      · have hI : Iq.inI t.m 0 1 = true := by rw [kB]; exact decide_eq_true (by omega)
        rw [hI, Bool.true_and]
        by_cases hn : t.n = 0
        · rw [decide_eq_true hn, Bool.true_and]
          repeat' (first | refine KO ?_ | ((with_reducible apply F1 49); exact rfl; exact EN; (exact fun w μc hw hse => SD _ _ _ _ hI w μc hw)) | refine KI ?_ | refine NB fun b => ?_ | (refine KB ?_ ?_ <;> intro hp) | refine KG ?_ | fail)
          all_goals first | (exfalso; contradiction) | exact aD rfl rfl rfl
        · rw [decide_eq_false hn, Bool.false_and]
          repeat' (first | refine KO ?_ | refine KI ?_ | refine NB fun b => ?_ | (refine KB ?_ ?_ <;> intro hp) | refine KG ?_ | fail)
          all_goals first | (exfalso; contradiction) | exact aD rfl rfl rfl
      · have hI : Iq.inI t.m 0 1 = false := by rw [kB, decide_eq_false_iff_not]; omega
        rw [hI, Bool.false_and]
        by_cases hn : t.n = 0
        all_goals repeat' (first | refine KO ?_ | ((with_reducible apply F1 49); exact rfl; exact EN; (exact fun w μc hw hse => SD _ _ _ _ hI w μc hw)) | refine KI ?_ | refine NB fun b => ?_ | (refine KB ?_ ?_ <;> intro hp) | refine KG ?_ | fail)
        all_goals first | (exfalso; contradiction) | exact aD rfl rfl rfl
  · have hs2 : t.s.data.toList.isEmpty = false := by rw [e1] at hs; simpa using hs
    rw [hs2, Bool.false_and]
    clear e1 e
    repeat' (first | refine KK ?_ | refine NB fun b => ?_ | refine KG ?_ | fail)
    all_goals exact aD rfl rfl rfl
theorem ET (t : T) (u : Value) (f : F) (v : Value) (hv : v.oneCell' = true) (k : Int) (hL : 0 ≤ f.loc ∧ f.loc ≤ 100000) (hk : 0 ≤ k ∧ k ≤ 100000) (w : World) (μ : Mem) (hμ : MOk μ w) (hu : KR μ t.kids u) (hkn : t.kids.length ≤ 100000) (hs : t.s.size ≤ 1000000) : Calls Tryz.prog 114 #[.agg (aR t u).toArray, .agg (dS f v).toArray, .int .i64 k] w fun e w' => e = .returned (.bool (aI t f.loc k)) ∧ Below w.heap.size w w' := by
  have ho := hu.one
  by_cases h0 : t.op = 102 ∨ t.op = 126 ∨ t.op = 127 ∨ t.op = 144
  · exact VQ t u ho f v hv k hL hk h0 w μ hμ
  by_cases h1 : t.op = 103
  · exact VO t u ho f v hv k hL hk h1 w μ hμ
  by_cases h2 : t.op = 107 ∨ t.op = 108 ∨ t.op = 169
  · exact VN t u ho f v hv k hL hk h2 w μ hμ
  by_cases h3 : t.op = 165 ∨ t.op = 166
  · exact VM t u ho f v hv k hL hk h3 w μ hμ
  by_cases h4 : t.op = 117
  · exact VL t u ho f v hv k hL hk h4 w μ hμ
  by_cases h5 : t.op = 118
  · exact VK t u ho f v hv k hL hk h5 w μ hμ
  by_cases h6 : t.op = 119
  · exact VJ t u ho f v hv k hL hk h6 w μ hμ
  by_cases h7 : t.op = 121
  · exact VI t u ho f v hv k hL hk h7 w μ hμ
  by_cases h8 : t.op = 164 ∨ t.op = 170
  · exact VH t u ho f v hv k hL hk h8 w μ hμ
  by_cases h9 : t.op = 109 ∨ t.op = 110
  · exact EV t u ho f v hv k h9 w μ hμ
  by_cases h10 : t.op = 105
  · exact ER t u ho f v hv k h10 w μ hμ
  by_cases h11 : t.op = 111 ∨ t.op = 112 ∨ t.op = 113
  · exact EW t u ho f v hv k h11 hs w μ hμ
  by_cases h12 : t.op = 114
  · exact IJ t u ho f v hv k h12 hs w μ hμ
  by_cases h13 : t.op = 132
  · exact II t u ho f v hv k h13 hs w μ hμ
  by_cases h14 : t.op = 133
  · exact IH t u ho f v hv k h14 hs w μ hμ
  by_cases h15 : t.op = 134
  · exact IG t u ho f v hv k h15 hs w μ hμ
  by_cases h16 : t.op = 163
  · exact IF t u ho f v hv k h16 w μ hμ
  by_cases h17 : t.op = 130 ∨ t.op = 131
  · exact IE t u f v hv k h17 w μ hμ hu hkn
  by_cases h18 : t.op = 129
  · exact EX t u f v hv k h18 w μ hμ hu hkn
  exact EU t u ho f v hv k (by omega) w μ hμ
end Go.Proofs.YtoclmkdfcafhfaaGreatDoor
