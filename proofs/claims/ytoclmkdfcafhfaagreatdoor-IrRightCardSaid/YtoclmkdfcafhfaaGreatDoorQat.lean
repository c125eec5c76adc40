/- Package ir: the document's fields of a node. -/
import Derived.Test.YtoclmkdfcafhfaaGreatDoorQas
import Derived.HandedShaped
set_option maxRecDepth 20000
set_option maxHeartbeats 2000000
namespace Go.Proofs.YtoclmkdfcafhfaaGreatDoor
section
open Go.RowKit Go.Vcg Ou
abbrev fieldsB (t : T) (loc k : Int) : Bool := Iq.textB t.op t.s.data.toList && (Iq.moreB t.op t.m && (Iq.numbB t.op t.n loc k && Iq.argsB t.op t.m (t.kids.map T.op)))
attribute [local irreducible] G GC GQ GA GAop Calls IntKind.wrap Int.decLt Int.decLe
theorem rfields_0 (t : T) (u : Value) (hu : u.oneCell' = true) (f : F) (v : Value) (hv : v.oneCell' = true) (k : Int) (hL : 0 ≤ f.loc ∧ f.loc ≤ 100000) (hk : 0 ≤ k ∧ k ≤ 100000) (h : t.op = 102 ∨ t.op = 126 ∨ t.op = 127 ∨ t.op = 144) (w : World) (μ : Mem) (hμ : MOk μ w) : Calls Tryz.prog 114 #[.agg (encT t u).toArray, .agg (encF f v).toArray, .int .i64 k] w fun e w' => e = .returned (.bool (fieldsB t f.loc k)) ∧ Below w.heap.size w w' := by
  have w1 : IntKind.i64.wrap (f.loc - 1) = f.loc - 1 := wrap_i64 ⟨by omega, by omega⟩
  have w2 : IntKind.i64.wrap (k - 1) = k - 1 := wrap_i64 ⟨by omega, by omega⟩
  have e : fieldsB t f.loc k = (t.s.data.toList.isEmpty && (decide (t.m = 0) && Iq.inI t.n 0 1)) := by
    unfold fieldsB Iq.textB Iq.moreB Iq.numbB Iq.argsB
    rcases h with h | h | h | h <;> simp [h]
  rw [e]
  have e1 : (t.s = ⟨#[]⟩) = (t.s.data.toList = []) := of_nil (a := t.s.data.toList)
  refine call_intro (args := [.agg (encT t u).toArray, .agg (encF f v).toArray, .int .i64 k]) Tryz.func114 rfl Tryz.ntmps114 (by simp) hμ ?_
  by_cases hs : t.s = ⟨#[]⟩
  · have hs2 : t.s.data.toList.isEmpty = true := by rw [hs]; rfl
    rw [hs2]
    clear e1
    by_cases hm : t.m = 0
    · rw [decide_eq_true hm, Bool.true_and, Bool.true_and]
      rcases h with h | h | h | h
      all_goals repeat' (first | refine KO ?_ | ((with_reducible apply F1 49); exact rfl; exact EN; (exact fun w μc hw hse => rin_spec _ _ _ w μc hw)) | refine KI ?_ | refine NB fun b => ?_ | (refine KB ?_ ?_ <;> intro hp) | refine KG ?_ | fail)
      all_goals first | (exfalso; first | omega | contradiction | exact absurd ‹_› ‹¬ _›) | exact ret_s rfl rfl rfl | (refine ret_s rfl rfl ?_; congr 1; first | (simp [*]; done) | (rw [Bool.eq_iff_iff]; simp [*]; omega))
    · rw [decide_eq_false hm, Bool.true_and, Bool.false_and]
      rcases h with h | h | h | h
      all_goals repeat' (first | refine KO ?_ | ((with_reducible apply F1 49); exact rfl; exact EN; (exact fun w μc hw hse => rin_spec _ _ _ w μc hw)) | refine KI ?_ | refine NB fun b => ?_ | (refine KB ?_ ?_ <;> intro hp) | refine KG ?_ | fail)
      all_goals first | (exfalso; first | omega | contradiction | exact absurd ‹_› ‹¬ _›) | exact ret_s rfl rfl rfl | (refine ret_s rfl rfl ?_; congr 1; first | (simp [*]; done) | (rw [Bool.eq_iff_iff]; simp [*]; omega))
  · have hs2 : t.s.data.toList.isEmpty = false := by rw [e1] at hs; simpa using hs
    rw [hs2, Bool.false_and]
    clear e1
    rcases h with h | h | h | h
    all_goals repeat' (first | refine KO ?_ | ((with_reducible apply F1 49); exact rfl; exact EN; (exact fun w μc hw hse => rin_spec _ _ _ w μc hw)) | refine KI ?_ | refine NB fun b => ?_ | (refine KB ?_ ?_ <;> intro hp) | refine KG ?_ | fail)
    all_goals first | (exfalso; first | omega | contradiction | exact absurd ‹_› ‹¬ _›) | exact ret_s rfl rfl rfl | (refine ret_s rfl rfl ?_; congr 1; first | (simp [*]; done) | (rw [Bool.eq_iff_iff]; simp [*]; omega))
theorem rfields_1 (t : T) (u : Value) (hu : u.oneCell' = true) (f : F) (v : Value) (hv : v.oneCell' = true) (k : Int) (hL : 0 ≤ f.loc ∧ f.loc ≤ 100000) (hk : 0 ≤ k ∧ k ≤ 100000) (h : t.op = 103) (w : World) (μ : Mem) (hμ : MOk μ w) : Calls Tryz.prog 114 #[.agg (encT t u).toArray, .agg (encF f v).toArray, .int .i64 k] w fun e w' => e = .returned (.bool (fieldsB t f.loc k)) ∧ Below w.heap.size w w' := by
  have w1 : IntKind.i64.wrap (f.loc - 1) = f.loc - 1 := wrap_i64 ⟨by omega, by omega⟩
  have w2 : IntKind.i64.wrap (k - 1) = k - 1 := wrap_i64 ⟨by omega, by omega⟩
  have e : fieldsB t f.loc k = (t.s.data.toList.isEmpty && (decide (t.m = 0) && Iq.inI t.n (-9007199254740992) 9007199254740992)) := by
    unfold fieldsB Iq.textB Iq.moreB Iq.numbB Iq.argsB
    simp [h]
  rw [e]
  have e1 : (t.s = ⟨#[]⟩) = (t.s.data.toList = []) := of_nil (a := t.s.data.toList)
  refine call_intro (args := [.agg (encT t u).toArray, .agg (encF f v).toArray, .int .i64 k]) Tryz.func114 rfl Tryz.ntmps114 (by simp) hμ ?_
  by_cases hs : t.s = ⟨#[]⟩
  · have hs2 : t.s.data.toList.isEmpty = true := by rw [hs]; rfl
    rw [hs2]
    clear e1
    by_cases hm : t.m = 0
    · rw [decide_eq_true hm, Bool.true_and, Bool.true_and]
      repeat' (first | refine KO ?_ | ((with_reducible apply F1 49); exact rfl; exact EN; (exact fun w μc hw hse => rin_spec _ _ _ w μc hw)) | refine KI ?_ | refine NB fun b => ?_ | (refine KB ?_ ?_ <;> intro hp) | refine KG ?_ | fail)
      all_goals first | (exfalso; first | omega | contradiction | exact absurd ‹_› ‹¬ _›) | exact ret_s rfl rfl rfl | (refine ret_s rfl rfl ?_; congr 1; first | (simp [*]; done) | (rw [Bool.eq_iff_iff]; simp [*]; omega))
    · rw [decide_eq_false hm, Bool.true_and, Bool.false_and]
      repeat' (first | refine KO ?_ | ((with_reducible apply F1 49); exact rfl; exact EN; (exact fun w μc hw hse => rin_spec _ _ _ w μc hw)) | refine KI ?_ | refine NB fun b => ?_ | (refine KB ?_ ?_ <;> intro hp) | refine KG ?_ | fail)
      all_goals first | (exfalso; first | omega | contradiction | exact absurd ‹_› ‹¬ _›) | exact ret_s rfl rfl rfl | (refine ret_s rfl rfl ?_; congr 1; first | (simp [*]; done) | (rw [Bool.eq_iff_iff]; simp [*]; omega))
  · have hs2 : t.s.data.toList.isEmpty = false := by rw [e1] at hs; simpa using hs
    rw [hs2, Bool.false_and]
    clear e1
    repeat' (first | refine KO ?_ | ((with_reducible apply F1 49); exact rfl; exact EN; (exact fun w μc hw hse => rin_spec _ _ _ w μc hw)) | refine KI ?_ | refine NB fun b => ?_ | (refine KB ?_ ?_ <;> intro hp) | refine KG ?_ | fail)
    all_goals first | (exfalso; first | omega | contradiction | exact absurd ‹_› ‹¬ _›) | exact ret_s rfl rfl rfl | (refine ret_s rfl rfl ?_; congr 1; first | (simp [*]; done) | (rw [Bool.eq_iff_iff]; simp [*]; omega))
theorem rfields_2 (t : T) (u : Value) (hu : u.oneCell' = true) (f : F) (v : Value) (hv : v.oneCell' = true) (k : Int) (hL : 0 ≤ f.loc ∧ f.loc ≤ 100000) (hk : 0 ≤ k ∧ k ≤ 100000) (h : t.op = 107 ∨ t.op = 108 ∨ t.op = 169) (w : World) (μ : Mem) (hμ : MOk μ w) : Calls Tryz.prog 114 #[.agg (encT t u).toArray, .agg (encF f v).toArray, .int .i64 k] w fun e w' => e = .returned (.bool (fieldsB t f.loc k)) ∧ Below w.heap.size w w' := by
  have w1 : IntKind.i64.wrap (f.loc - 1) = f.loc - 1 := wrap_i64 ⟨by omega, by omega⟩
  have w2 : IntKind.i64.wrap (k - 1) = k - 1 := wrap_i64 ⟨by omega, by omega⟩
  have e : fieldsB t f.loc k = (t.s.data.toList.isEmpty && (decide (t.m = 0) && Iq.inI t.n 0 (f.loc - 1))) := by
    unfold fieldsB Iq.textB Iq.moreB Iq.numbB Iq.argsB
    rcases h with h | h | h <;> simp [h]
  rw [e]
  have e1 : (t.s = ⟨#[]⟩) = (t.s.data.toList = []) := of_nil (a := t.s.data.toList)
  refine call_intro (args := [.agg (encT t u).toArray, .agg (encF f v).toArray, .int .i64 k]) Tryz.func114 rfl Tryz.ntmps114 (by simp) hμ ?_
  by_cases hs : t.s = ⟨#[]⟩
  · have hs2 : t.s.data.toList.isEmpty = true := by rw [hs]; rfl
    rw [hs2]
    clear e1
    by_cases hm : t.m = 0
    · rw [decide_eq_true hm, Bool.true_and, Bool.true_and]
      rcases h with h | h | h
      all_goals repeat' (first | refine KO ?_ | ((with_reducible apply F1 49); exact rfl; exact EN; (exact fun w μc hw hse => rin_spec _ _ _ w μc hw)) | refine KI ?_ | refine NB fun b => ?_ | (refine KB ?_ ?_ <;> intro hp) | refine KG ?_ | fail)
      all_goals first | (exfalso; first | omega | contradiction | exact absurd ‹_› ‹¬ _›) | exact ret_s rfl rfl rfl | (refine ret_s rfl rfl ?_; congr 1; first | (simp [*]; done) | (rw [Bool.eq_iff_iff]; simp [*]; omega))
    · rw [decide_eq_false hm, Bool.true_and, Bool.false_and]
      rcases h with h | h | h
      all_goals repeat' (first | refine KO ?_ | ((with_reducible apply F1 49); exact rfl; exact EN; (exact fun w μc hw hse => rin_spec _ _ _ w μc hw)) | refine KI ?_ | refine NB fun b => ?_ | (refine KB ?_ ?_ <;> intro hp) | refine KG ?_ | fail)
      all_goals first | (exfalso; first | omega | contradiction | exact absurd ‹_› ‹¬ _›) | exact ret_s rfl rfl rfl | (refine ret_s rfl rfl ?_; congr 1; first | (simp [*]; done) | (rw [Bool.eq_iff_iff]; simp [*]; omega))
  · have hs2 : t.s.data.toList.isEmpty = false := by rw [e1] at hs; simpa using hs
    rw [hs2, Bool.false_and]
    clear e1
    rcases h with h | h | h
    all_goals repeat' (first | refine KO ?_ | ((with_reducible apply F1 49); exact rfl; exact EN; (exact fun w μc hw hse => rin_spec _ _ _ w μc hw)) | refine KI ?_ | refine NB fun b => ?_ | (refine KB ?_ ?_ <;> intro hp) | refine KG ?_ | fail)
    all_goals first | (exfalso; first | omega | contradiction | exact absurd ‹_› ‹¬ _›) | exact ret_s rfl rfl rfl | (refine ret_s rfl rfl ?_; congr 1; first | (simp [*]; done) | (rw [Bool.eq_iff_iff]; simp [*]; omega))
theorem rfields_3 (t : T) (u : Value) (hu : u.oneCell' = true) (f : F) (v : Value) (hv : v.oneCell' = true) (k : Int) (hL : 0 ≤ f.loc ∧ f.loc ≤ 100000) (hk : 0 ≤ k ∧ k ≤ 100000) (h : t.op = 165 ∨ t.op = 166) (w : World) (μ : Mem) (hμ : MOk μ w) : Calls Tryz.prog 114 #[.agg (encT t u).toArray, .agg (encF f v).toArray, .int .i64 k] w fun e w' => e = .returned (.bool (fieldsB t f.loc k)) ∧ Below w.heap.size w w' := by
  have w1 : IntKind.i64.wrap (f.loc - 1) = f.loc - 1 := wrap_i64 ⟨by omega, by omega⟩
  have w2 : IntKind.i64.wrap (k - 1) = k - 1 := wrap_i64 ⟨by omega, by omega⟩
  have e : fieldsB t f.loc k = (t.s.data.toList.isEmpty && (decide (t.m = 0) && true)) := by
    unfold fieldsB Iq.textB Iq.moreB Iq.numbB Iq.argsB
    rcases h with h | h <;> simp [h]
  rw [e]
  have e1 : (t.s = ⟨#[]⟩) = (t.s.data.toList = []) := of_nil (a := t.s.data.toList)
  refine call_intro (args := [.agg (encT t u).toArray, .agg (encF f v).toArray, .int .i64 k]) Tryz.func114 rfl Tryz.ntmps114 (by simp) hμ ?_
  by_cases hs : t.s = ⟨#[]⟩
  · have hs2 : t.s.data.toList.isEmpty = true := by rw [hs]; rfl
    rw [hs2]
    clear e1
    by_cases hm : t.m = 0
    · rw [decide_eq_true hm, Bool.true_and, Bool.true_and]
      rcases h with h | h
      all_goals repeat' (first | refine KO ?_ | ((with_reducible apply F1 49); exact rfl; exact EN; (exact fun w μc hw hse => rin_spec _ _ _ w μc hw)) | refine KI ?_ | refine NB fun b => ?_ | (refine KB ?_ ?_ <;> intro hp) | refine KG ?_ | fail)
      all_goals first | (exfalso; first | omega | contradiction | exact absurd ‹_› ‹¬ _›) | exact ret_s rfl rfl rfl | (refine ret_s rfl rfl ?_; congr 1; first | (simp [*]; done) | (rw [Bool.eq_iff_iff]; simp [*]; omega))
    · rw [decide_eq_false hm, Bool.true_and, Bool.false_and]
      rcases h with h | h
      all_goals repeat' (first | refine KO ?_ | ((with_reducible apply F1 49); exact rfl; exact EN; (exact fun w μc hw hse => rin_spec _ _ _ w μc hw)) | refine KI ?_ | refine NB fun b => ?_ | (refine KB ?_ ?_ <;> intro hp) | refine KG ?_ | fail)
      all_goals first | (exfalso; first | omega | contradiction | exact absurd ‹_› ‹¬ _›) | exact ret_s rfl rfl rfl | (refine ret_s rfl rfl ?_; congr 1; first | (simp [*]; done) | (rw [Bool.eq_iff_iff]; simp [*]; omega))
  · have hs2 : t.s.data.toList.isEmpty = false := by rw [e1] at hs; simpa using hs
    rw [hs2, Bool.false_and]
    clear e1
    rcases h with h | h
    all_goals repeat' (first | refine KO ?_ | ((with_reducible apply F1 49); exact rfl; exact EN; (exact fun w μc hw hse => rin_spec _ _ _ w μc hw)) | refine KI ?_ | refine NB fun b => ?_ | (refine KB ?_ ?_ <;> intro hp) | refine KG ?_ | fail)
    all_goals first | (exfalso; first | omega | contradiction | exact absurd ‹_› ‹¬ _›) | exact ret_s rfl rfl rfl | (refine ret_s rfl rfl ?_; congr 1; first | (simp [*]; done) | (rw [Bool.eq_iff_iff]; simp [*]; omega))
theorem rfields_4 (t : T) (u : Value) (hu : u.oneCell' = true) (f : F) (v : Value) (hv : v.oneCell' = true) (k : Int) (hL : 0 ≤ f.loc ∧ f.loc ≤ 100000) (hk : 0 ≤ k ∧ k ≤ 100000) (h : t.op = 117) (w : World) (μ : Mem) (hμ : MOk μ w) : Calls Tryz.prog 114 #[.agg (encT t u).toArray, .agg (encF f v).toArray, .int .i64 k] w fun e w' => e = .returned (.bool (fieldsB t f.loc k)) ∧ Below w.heap.size w w' := by
  have w1 : IntKind.i64.wrap (f.loc - 1) = f.loc - 1 := wrap_i64 ⟨by omega, by omega⟩
  have w2 : IntKind.i64.wrap (k - 1) = k - 1 := wrap_i64 ⟨by omega, by omega⟩
  have e : fieldsB t f.loc k = (t.s.data.toList.isEmpty && (decide (t.m = 0) && Iq.inI t.n (-1) 1024)) := by
    unfold fieldsB Iq.textB Iq.moreB Iq.numbB Iq.argsB
    simp [h]
  rw [e]
  have e1 : (t.s = ⟨#[]⟩) = (t.s.data.toList = []) := of_nil (a := t.s.data.toList)
  refine call_intro (args := [.agg (encT t u).toArray, .agg (encF f v).toArray, .int .i64 k]) Tryz.func114 rfl Tryz.ntmps114 (by simp) hμ ?_
  by_cases hs : t.s = ⟨#[]⟩
  · have hs2 : t.s.data.toList.isEmpty = true := by rw [hs]; rfl
    rw [hs2]
    clear e1
    by_cases hm : t.m = 0
    · rw [decide_eq_true hm, Bool.true_and, Bool.true_and]
      repeat' (first | refine KO ?_ | ((with_reducible apply F1 49); exact rfl; exact EN; (exact fun w μc hw hse => rin_spec _ _ _ w μc hw)) | refine KI ?_ | refine NB fun b => ?_ | (refine KB ?_ ?_ <;> intro hp) | refine KG ?_ | fail)
      all_goals first | (exfalso; first | omega | contradiction | exact absurd ‹_› ‹¬ _›) | exact ret_s rfl rfl rfl | (refine ret_s rfl rfl ?_; congr 1; first | (simp [*]; done) | (rw [Bool.eq_iff_iff]; simp [*]; omega))
    · rw [decide_eq_false hm, Bool.true_and, Bool.false_and]
      repeat' (first | refine KO ?_ | ((with_reducible apply F1 49); exact rfl; exact EN; (exact fun w μc hw hse => rin_spec _ _ _ w μc hw)) | refine KI ?_ | refine NB fun b => ?_ | (refine KB ?_ ?_ <;> intro hp) | refine KG ?_ | fail)
      all_goals first | (exfalso; first | omega | contradiction | exact absurd ‹_› ‹¬ _›) | exact ret_s rfl rfl rfl | (refine ret_s rfl rfl ?_; congr 1; first | (simp [*]; done) | (rw [Bool.eq_iff_iff]; simp [*]; omega))
  · have hs2 : t.s.data.toList.isEmpty = false := by rw [e1] at hs; simpa using hs
    rw [hs2, Bool.false_and]
    clear e1
    repeat' (first | refine KO ?_ | ((with_reducible apply F1 49); exact rfl; exact EN; (exact fun w μc hw hse => rin_spec _ _ _ w μc hw)) | refine KI ?_ | refine NB fun b => ?_ | (refine KB ?_ ?_ <;> intro hp) | refine KG ?_ | fail)
    all_goals first | (exfalso; first | omega | contradiction | exact absurd ‹_› ‹¬ _›) | exact ret_s rfl rfl rfl | (refine ret_s rfl rfl ?_; congr 1; first | (simp [*]; done) | (rw [Bool.eq_iff_iff]; simp [*]; omega))
theorem rfields_5 (t : T) (u : Value) (hu : u.oneCell' = true) (f : F) (v : Value) (hv : v.oneCell' = true) (k : Int) (hL : 0 ≤ f.loc ∧ f.loc ≤ 100000) (hk : 0 ≤ k ∧ k ≤ 100000) (h : t.op = 118) (w : World) (μ : Mem) (hμ : MOk μ w) : Calls Tryz.prog 114 #[.agg (encT t u).toArray, .agg (encF f v).toArray, .int .i64 k] w fun e w' => e = .returned (.bool (fieldsB t f.loc k)) ∧ Below w.heap.size w w' := by
  have w1 : IntKind.i64.wrap (f.loc - 1) = f.loc - 1 := wrap_i64 ⟨by omega, by omega⟩
  have w2 : IntKind.i64.wrap (k - 1) = k - 1 := wrap_i64 ⟨by omega, by omega⟩
  have e : fieldsB t f.loc k = (t.s.data.toList.isEmpty && (decide (t.m = 0) && Iq.inI t.n 0 1024)) := by
    unfold fieldsB Iq.textB Iq.moreB Iq.numbB Iq.argsB
    simp [h]
  rw [e]
  have e1 : (t.s = ⟨#[]⟩) = (t.s.data.toList = []) := of_nil (a := t.s.data.toList)
  refine call_intro (args := [.agg (encT t u).toArray, .agg (encF f v).toArray, .int .i64 k]) Tryz.func114 rfl Tryz.ntmps114 (by simp) hμ ?_
  by_cases hs : t.s = ⟨#[]⟩
  · have hs2 : t.s.data.toList.isEmpty = true := by rw [hs]; rfl
    rw [hs2]
    clear e1
    by_cases hm : t.m = 0
    · rw [decide_eq_true hm, Bool.true_and, Bool.true_and]
      repeat' (first | refine KO ?_ | ((with_reducible apply F1 49); exact rfl; exact EN; (exact fun w μc hw hse => rin_spec _ _ _ w μc hw)) | refine KI ?_ | refine NB fun b => ?_ | (refine KB ?_ ?_ <;> intro hp) | refine KG ?_ | fail)
      all_goals first | (exfalso; first | omega | contradiction | exact absurd ‹_› ‹¬ _›) | exact ret_s rfl rfl rfl | (refine ret_s rfl rfl ?_; congr 1; first | (simp [*]; done) | (rw [Bool.eq_iff_iff]; simp [*]; omega))
    · rw [decide_eq_false hm, Bool.true_and, Bool.false_and]
      repeat' (first | refine KO ?_ | ((with_reducible apply F1 49); exact rfl; exact EN; (exact fun w μc hw hse => rin_spec _ _ _ w μc hw)) | refine KI ?_ | refine NB fun b => ?_ | (refine KB ?_ ?_ <;> intro hp) | refine KG ?_ | fail)
      all_goals first | (exfalso; first | omega | contradiction | exact absurd ‹_› ‹¬ _›) | exact ret_s rfl rfl rfl | (refine ret_s rfl rfl ?_; congr 1; first | (simp [*]; done) | (rw [Bool.eq_iff_iff]; simp [*]; omega))
  · have hs2 : t.s.data.toList.isEmpty = false := by rw [e1] at hs; simpa using hs
    rw [hs2, Bool.false_and]
    clear e1
    repeat' (first | refine KO ?_ | ((with_reducible apply F1 49); exact rfl; exact EN; (exact fun w μc hw hse => rin_spec _ _ _ w μc hw)) | refine KI ?_ | refine NB fun b => ?_ | (refine KB ?_ ?_ <;> intro hp) | refine KG ?_ | fail)
    all_goals first | (exfalso; first | omega | contradiction | exact absurd ‹_› ‹¬ _›) | exact ret_s rfl rfl rfl | (refine ret_s rfl rfl ?_; congr 1; first | (simp [*]; done) | (rw [Bool.eq_iff_iff]; simp [*]; omega))
theorem rfields_6 (t : T) (u : Value) (hu : u.oneCell' = true) (f : F) (v : Value) (hv : v.oneCell' = true) (k : Int) (hL : 0 ≤ f.loc ∧ f.loc ≤ 100000) (hk : 0 ≤ k ∧ k ≤ 100000) (h : t.op = 119) (w : World) (μ : Mem) (hμ : MOk μ w) : Calls Tryz.prog 114 #[.agg (encT t u).toArray, .agg (encF f v).toArray, .int .i64 k] w fun e w' => e = .returned (.bool (fieldsB t f.loc k)) ∧ Below w.heap.size w w' := by
  have w1 : IntKind.i64.wrap (f.loc - 1) = f.loc - 1 := wrap_i64 ⟨by omega, by omega⟩
  have w2 : IntKind.i64.wrap (k - 1) = k - 1 := wrap_i64 ⟨by omega, by omega⟩
  have e : fieldsB t f.loc k = (t.s.data.toList.isEmpty && (decide (t.m = 0) && Iq.inI t.n 1 (k - 1))) := by
    unfold fieldsB Iq.textB Iq.moreB Iq.numbB Iq.argsB
    simp [h]
  rw [e]
  have e1 : (t.s = ⟨#[]⟩) = (t.s.data.toList = []) := of_nil (a := t.s.data.toList)
  refine call_intro (args := [.agg (encT t u).toArray, .agg (encF f v).toArray, .int .i64 k]) Tryz.func114 rfl Tryz.ntmps114 (by simp) hμ ?_
  by_cases hs : t.s = ⟨#[]⟩
  · have hs2 : t.s.data.toList.isEmpty = true := by rw [hs]; rfl
    rw [hs2]
    clear e1
    by_cases hm : t.m = 0
    · rw [decide_eq_true hm, Bool.true_and, Bool.true_and]
      repeat' (first | refine KO ?_ | ((with_reducible apply F1 49); exact rfl; exact EN; (exact fun w μc hw hse => rin_spec _ _ _ w μc hw)) | refine KI ?_ | refine NB fun b => ?_ | (refine KB ?_ ?_ <;> intro hp) | refine KG ?_ | fail)
      all_goals first | (exfalso; first | omega | contradiction | exact absurd ‹_› ‹¬ _›) | exact ret_s rfl rfl rfl | (refine ret_s rfl rfl ?_; congr 1; first | (simp [*]; done) | (rw [Bool.eq_iff_iff]; simp [*]; omega))
    · rw [decide_eq_false hm, Bool.true_and, Bool.false_and]
      repeat' (first | refine KO ?_ | ((with_reducible apply F1 49); exact rfl; exact EN; (exact fun w μc hw hse => rin_spec _ _ _ w μc hw)) | refine KI ?_ | refine NB fun b => ?_ | (refine KB ?_ ?_ <;> intro hp) | refine KG ?_ | fail)
      all_goals first | (exfalso; first | omega | contradiction | exact absurd ‹_› ‹¬ _›) | exact ret_s rfl rfl rfl | (refine ret_s rfl rfl ?_; congr 1; first | (simp [*]; done) | (rw [Bool.eq_iff_iff]; simp [*]; omega))
  · have hs2 : t.s.data.toList.isEmpty = false := by rw [e1] at hs; simpa using hs
    rw [hs2, Bool.false_and]
    clear e1
    repeat' (first | refine KO ?_ | ((with_reducible apply F1 49); exact rfl; exact EN; (exact fun w μc hw hse => rin_spec _ _ _ w μc hw)) | refine KI ?_ | refine NB fun b => ?_ | (refine KB ?_ ?_ <;> intro hp) | refine KG ?_ | fail)
    all_goals first | (exfalso; first | omega | contradiction | exact absurd ‹_› ‹¬ _›) | exact ret_s rfl rfl rfl | (refine ret_s rfl rfl ?_; congr 1; first | (simp [*]; done) | (rw [Bool.eq_iff_iff]; simp [*]; omega))
theorem rfields_7 (t : T) (u : Value) (hu : u.oneCell' = true) (f : F) (v : Value) (hv : v.oneCell' = true) (k : Int) (hL : 0 ≤ f.loc ∧ f.loc ≤ 100000) (hk : 0 ≤ k ∧ k ≤ 100000) (h : t.op = 121) (w : World) (μ : Mem) (hμ : MOk μ w) : Calls Tryz.prog 114 #[.agg (encT t u).toArray, .agg (encF f v).toArray, .int .i64 k] w fun e w' => e = .returned (.bool (fieldsB t f.loc k)) ∧ Below w.heap.size w w' := by
  have w1 : IntKind.i64.wrap (f.loc - 1) = f.loc - 1 := wrap_i64 ⟨by omega, by omega⟩
  have w2 : IntKind.i64.wrap (k - 1) = k - 1 := wrap_i64 ⟨by omega, by omega⟩
  have e : fieldsB t f.loc k = (t.s.data.toList.isEmpty && (decide (t.m = 0) && Iq.inI t.n 0 2)) := by
    unfold fieldsB Iq.textB Iq.moreB Iq.numbB Iq.argsB
    simp [h]
  rw [e]
  have e1 : (t.s = ⟨#[]⟩) = (t.s.data.toList = []) := of_nil (a := t.s.data.toList)
  refine call_intro (args := [.agg (encT t u).toArray, .agg (encF f v).toArray, .int .i64 k]) Tryz.func114 rfl Tryz.ntmps114 (by simp) hμ ?_
  by_cases hs : t.s = ⟨#[]⟩
  · have hs2 : t.s.data.toList.isEmpty = true := by rw [hs]; rfl
    rw [hs2]
    clear e1
    by_cases hm : t.m = 0
    · rw [decide_eq_true hm, Bool.true_and, Bool.true_and]
      repeat' (first | refine KO ?_ | ((with_reducible apply F1 49); exact rfl; exact EN; (exact fun w μc hw hse => rin_spec _ _ _ w μc hw)) | refine KI ?_ | refine NB fun b => ?_ | (refine KB ?_ ?_ <;> intro hp) | refine KG ?_ | fail)
      all_goals first | (exfalso; first | omega | contradiction | exact absurd ‹_› ‹¬ _›) | exact ret_s rfl rfl rfl | (refine ret_s rfl rfl ?_; congr 1; first | (simp [*]; done) | (rw [Bool.eq_iff_iff]; simp [*]; omega))
    · rw [decide_eq_false hm, Bool.true_and, Bool.false_and]
      repeat' (first | refine KO ?_ | ((with_reducible apply F1 49); exact rfl; exact EN; (exact fun w μc hw hse => rin_spec _ _ _ w μc hw)) | refine KI ?_ | refine NB fun b => ?_ | (refine KB ?_ ?_ <;> intro hp) | refine KG ?_ | fail)
      all_goals first | (exfalso; first | omega | contradiction | exact absurd ‹_› ‹¬ _›) | exact ret_s rfl rfl rfl | (refine ret_s rfl rfl ?_; congr 1; first | (simp [*]; done) | (rw [Bool.eq_iff_iff]; simp [*]; omega))
  · have hs2 : t.s.data.toList.isEmpty = false := by rw [e1] at hs; simpa using hs
    rw [hs2, Bool.false_and]
    clear e1
    repeat' (first | refine KO ?_ | ((with_reducible apply F1 49); exact rfl; exact EN; (exact fun w μc hw hse => rin_spec _ _ _ w μc hw)) | refine KI ?_ | refine NB fun b => ?_ | (refine KB ?_ ?_ <;> intro hp) | refine KG ?_ | fail)
    all_goals first | (exfalso; first | omega | contradiction | exact absurd ‹_› ‹¬ _›) | exact ret_s rfl rfl rfl | (refine ret_s rfl rfl ?_; congr 1; first | (simp [*]; done) | (rw [Bool.eq_iff_iff]; simp [*]; omega))
theorem rfields_8 (t : T) (u : Value) (hu : u.oneCell' = true) (f : F) (v : Value) (hv : v.oneCell' = true) (k : Int) (hL : 0 ≤ f.loc ∧ f.loc ≤ 100000) (hk : 0 ≤ k ∧ k ≤ 100000) (h : t.op = 164 ∨ t.op = 170) (w : World) (μ : Mem) (hμ : MOk μ w) : Calls Tryz.prog 114 #[.agg (encT t u).toArray, .agg (encF f v).toArray, .int .i64 k] w fun e w' => e = .returned (.bool (fieldsB t f.loc k)) ∧ Below w.heap.size w w' := by
  have w1 : IntKind.i64.wrap (f.loc - 1) = f.loc - 1 := wrap_i64 ⟨by omega, by omega⟩
  have w2 : IntKind.i64.wrap (k - 1) = k - 1 := wrap_i64 ⟨by omega, by omega⟩
  have e : fieldsB t f.loc k = (t.s.data.toList.isEmpty && (decide (t.m = 0) && Iq.inI t.n 0 4096)) := by
    unfold fieldsB Iq.textB Iq.moreB Iq.numbB Iq.argsB
    rcases h with h | h <;> simp [h]
  rw [e]
  have e1 : (t.s = ⟨#[]⟩) = (t.s.data.toList = []) := of_nil (a := t.s.data.toList)
  refine call_intro (args := [.agg (encT t u).toArray, .agg (encF f v).toArray, .int .i64 k]) Tryz.func114 rfl Tryz.ntmps114 (by simp) hμ ?_
  by_cases hs : t.s = ⟨#[]⟩
  · have hs2 : t.s.data.toList.isEmpty = true := by rw [hs]; rfl
    rw [hs2]
    clear e1
    by_cases hm : t.m = 0
    · rw [decide_eq_true hm, Bool.true_and, Bool.true_and]
      rcases h with h | h
      all_goals repeat' (first | refine KO ?_ | ((with_reducible apply F1 49); exact rfl; exact EN; (exact fun w μc hw hse => rin_spec _ _ _ w μc hw)) | refine KI ?_ | refine NB fun b => ?_ | (refine KB ?_ ?_ <;> intro hp) | refine KG ?_ | fail)
      all_goals first | (exfalso; first | omega | contradiction | exact absurd ‹_› ‹¬ _›) | exact ret_s rfl rfl rfl | (refine ret_s rfl rfl ?_; congr 1; first | (simp [*]; done) | (rw [Bool.eq_iff_iff]; simp [*]; omega))
    · rw [decide_eq_false hm, Bool.true_and, Bool.false_and]
      rcases h with h | h
      all_goals repeat' (first | refine KO ?_ | ((with_reducible apply F1 49); exact rfl; exact EN; (exact fun w μc hw hse => rin_spec _ _ _ w μc hw)) | refine KI ?_ | refine NB fun b => ?_ | (refine KB ?_ ?_ <;> intro hp) | refine KG ?_ | fail)
      all_goals first | (exfalso; first | omega | contradiction | exact absurd ‹_› ‹¬ _›) | exact ret_s rfl rfl rfl | (refine ret_s rfl rfl ?_; congr 1; first | (simp [*]; done) | (rw [Bool.eq_iff_iff]; simp [*]; omega))
  · have hs2 : t.s.data.toList.isEmpty = false := by rw [e1] at hs; simpa using hs
    rw [hs2, Bool.false_and]
    clear e1
    rcases h with h | h
    all_goals repeat' (first | refine KO ?_ | ((with_reducible apply F1 49); exact rfl; exact EN; (exact fun w μc hw hse => rin_spec _ _ _ w μc hw)) | refine KI ?_ | refine NB fun b => ?_ | (refine KB ?_ ?_ <;> intro hp) | refine KG ?_ | fail)
    all_goals first | (exfalso; first | omega | contradiction | exact absurd ‹_› ‹¬ _›) | exact ret_s rfl rfl rfl | (refine ret_s rfl rfl ?_; congr 1; first | (simp [*]; done) | (rw [Bool.eq_iff_iff]; simp [*]; omega))
end
section
open Go.RowKit Go.Vcg Ou
attribute [local irreducible] G GC GQ GA GAop Calls IntKind.wrap Int.decLt Int.decLe
theorem rfields_held (t : T) (u : Value) (hu : u.oneCell' = true) (f : F) (v : Value) (hv : v.oneCell' = true) (k : Int) (h : t.op = 109 ∨ t.op = 110) (w : World) (μ : Mem) (hμ : MOk μ w) : Calls Tryz.prog 114 #[.agg (encT t u).toArray, .agg (encF f v).toArray, .int .i64 k] w fun e w' => e = .returned (.bool (fieldsB t f.loc k)) ∧ Below w.heap.size w w' := by
  have e : fieldsB t f.loc k = t.s.data.toList.isEmpty := by
    unfold fieldsB Iq.textB Iq.moreB Iq.numbB Iq.argsB
    rcases h with h | h <;> simp [h]
  rw [e]
  have e1 : (t.s = ⟨#[]⟩) = (t.s.data.toList = []) := of_nil (a := t.s.data.toList)
  refine call_intro (args := [.agg (encT t u).toArray, .agg (encF f v).toArray, .int .i64 k]) Tryz.func114 rfl Tryz.ntmps114 (by simp) hμ ?_
  by_cases hs : t.s = ⟨#[]⟩
  · have hs2 : t.s.data.toList.isEmpty = true := by rw [hs]; rfl
    rw [hs2]
    clear e1
    rcases h with h | h
    all_goals repeat' (first | refine KK ?_ | refine NB fun b => ?_ | (refine KB ?_ ?_ <;> intro hp) | refine KG ?_ | fail)
    all_goals first | (exfalso; first | omega | contradiction | exact absurd ‹_› ‹¬ _›) | exact ret_s rfl rfl rfl | (refine ret_s rfl rfl ?_; congr 1; first | (simp [*]; done) | (rw [Bool.eq_iff_iff]; simp [*]; omega))
  · have hs2 : t.s.data.toList.isEmpty = false := by rw [e1] at hs; simpa using hs
    rw [hs2]
    clear e1
    rcases h with h | h
    all_goals repeat' (first | refine KK ?_ | refine NB fun b => ?_ | (refine KB ?_ ?_ <;> intro hp) | refine KG ?_ | fail)
    all_goals first | (exfalso; first | omega | contradiction | exact absurd ‹_› ‹¬ _›) | exact ret_s rfl rfl rfl | (refine ret_s rfl rfl ?_; congr 1; first | (simp [*]; done) | (rw [Bool.eq_iff_iff]; simp [*]; omega))
theorem rfields_text (t : T) (u : Value) (hu : u.oneCell' = true) (f : F) (v : Value) (hv : v.oneCell' = true) (k : Int) (h : t.op = 105) (w : World) (μ : Mem) (hμ : MOk μ w) : Calls Tryz.prog 114 #[.agg (encT t u).toArray, .agg (encF f v).toArray, .int .i64 k] w fun e w' => e = .returned (.bool (fieldsB t f.loc k)) ∧ Below w.heap.size w w' := by
  have e : fieldsB t f.loc k = (decide (t.s.size ≤ 65536) && (decide (t.m = 0) && decide (t.n = 0))) := by
    unfold fieldsB Iq.textB Iq.moreB Iq.numbB Iq.argsB
    rw [← len_data]
    simp [h]
  rw [e]
  refine call_intro (args := [.agg (encT t u).toArray, .agg (encF f v).toArray, .int .i64 k]) Tryz.func114 rfl Tryz.ntmps114 (by simp) hμ ?_
  have hz0 : (⟨#[]⟩ : ByteArray).size = 0 := rfl
  have hzz : t.s = ⟨#[]⟩ → t.s.size = 0 := fun h => by rw [h]; rfl
  by_cases hs : t.s = ⟨#[]⟩
  all_goals try have hz := hzz hs
  all_goals clear hzz
  all_goals by_cases hm : t.m = 0
  all_goals by_cases hn : t.n = 0
  all_goals by_cases hl : t.s.size ≤ 65536
  all_goals simp only [hm, hn, hl, decide_true, decide_false, Bool.and_true, Bool.true_and, Bool.and_false, Bool.false_and]
  all_goals repeat' (first | refine KK ?_ | refine NB fun b => ?_ | (refine KB ?_ ?_ <;> intro hp) | refine KG ?_ | fail)
  all_goals first | (exfalso; first | omega | contradiction | exact absurd ‹_› ‹¬ _›) | exact ret_s rfl rfl rfl | (refine ret_s rfl rfl ?_; congr 1; first | (simp [*]; done) | (rw [Bool.eq_iff_iff]; simp [*]; omega))
end
section
section unit1
open Go.RowKit Go.Vcg
structure UFnI where
  name : ByteArray
  kind : Int
  len : Int
  loc : Int
  body : Value
abbrev encFn (f : UFnI) : List Value := [.string f.name, .int .i64 f.kind, .int .i64 f.len, .int .i64 f.loc, f.body]
def FnOk (μ : Mem) (f : UFnI) : Prop := ∃ A n c ts, f.body = .slice A n c ∧ Sl encIt 6 μ A n ts ∧ n ≤ 9223372036854775807
theorem FnOk.mono {μ μ' : Mem} {f : UFnI} (h : FnOk μ f) (hle : MLe μ μ') : FnOk μ' f := by
  obtain ⟨A, n, c, ts, e, hs, hn⟩ := h
  exact ⟨A, n, c, ts, e, hs.mono hle, hn⟩
theorem fs_post {μ μ' : Mem} {A : Option Addr} {c : Nat} {ps : List (F × Value)} (hn : ps.length ≤ 20) (hps : ∀ p ∈ ps, KR μ p.1.body.kids p.2 ∧ p.1.body.size ≤ 100000) (hle : MLe μ μ') (h : Bk.sh (.inr ⟨.slice A ps.length c, 44, 10, ps.length, ps.flatMap encFV⟩) μ') : Fs μ' A ps.length ps :=
  ⟨sl_of_row (enc := encFV) h rfl (by simp) rfl, by omega, fun p hp => ⟨(hps p hp).1.mono hle, (hps p hp).2⟩⟩
attribute [local irreducible] G GC GQ GA GAop Calls IntKind.wrap Int.decLt Int.decLe
end unit1
section unit2
open Go.RowKit Go.Vcg
attribute [local irreducible] smB smLB smFB smUB G GC GQ GA GAop Calls IntKind.wrap Int.decLt Int.decLe
end unit2
end
section
open Go.ChangeShapes Go.WideShapes Go.ChangeAt Go.RowKit Go.Deep Go.Vcg
section
variable {H : Type} {enc : TypeId × Value → H} {W : World} {base : Nat} {spare : Nat → Bool} {held : Bool}
end
section
variable {H : Type} {enc : TypeId × Value → H} {W : World}
end
end
end Go.Proofs.YtoclmkdfcafhfaaGreatDoor
namespace Go
variable {H : Type} {enc : TypeId × Value → H}
theorem returnsInHanded_of_change_both {a : Assume} {C : Checked} {os : Os} {f : FuncId} {fn : Func} {s : ChangeSpec} {conds : List PathCond} {apart fresh handsOn again : Bool} {X : World → Array Value → Prop}
    (hX : ∀ (w w' : World) (args : Array Value), w.heap = w'.heap → X w args → X w' args)
    (own : ownKnob C.prog.godebug = none) (started : os.Started) (noInit : C.prog.inits.idxOf? f = none) (hfn : C.prog.funcs[f]? = some fn)
    (witness : ∃ (w : World) (tape : Tape) (i : Input), w.os = os ∧ (w.forCall tape i).Shaped C.prog ∧ i.vars = [] ∧ Input.okWide C.prog (w.forCall tape i) .any w.heap.size f i ∧
      ((s.pre enc C.prog fn conds apart (w.forCall tape i).memory i.args ∧ X (w.forCall tape i).memory i.args) ∧ sizedMet enc C.prog fn (OpenSpec.ofChange s) apart (w.forCall tape i).memory i.args) ∧ a.holds C.prog (lone (Frame.enter C.prog f i.args .normal) [] (w.forCall tape i)))
    (contract : ∀ (W : World) (base : Nat) (args : Array Value) (ds gs : List (DataW H)) (before : List MemPlace),
      (∀ (j : Nat) t v, fn.params[j]? = some t → args[j]? = some v → Value.okWide C.prog W .any base t v) →
      DataW.Whole enc C.prog fn.params.toList s.vars apart W args.toList ds gs before →
      (DataW.weightsEach C.prog (fn.params.toList ++ s.plain.varTypes C.prog) (ds ++ gs)).all (· ≤ reachBytes) = true → X W args → W.ShapedOpen C.prog →
      Calls C.prog f args W fun e W' => ∃ v, e = .returned v ∧ s.post enc C.prog fn apart fresh handsOn again W args v W') :
    ReturnsInHanded a C os f .any (fun w args => (s.pre enc C.prog fn conds apart w args ∧ X w args) ∧ sizedMet enc C.prog fn (OpenSpec.ofChange s) apart w args) (s.post enc C.prog fn apart fresh handsOn again) := by
  refine returnsInHanded_of_calls own started noInit witness ?_
  intro w tape i _ hsh _ hok hpre _
  obtain ⟨_, _, _, g, hg, _, _, _, _, hval⟩ := hok
  obtain rfl : g = fn := Option.some.inj (hg.symm.trans hfn)
  obtain ⟨⟨⟨ds, gs, before, hw, _⟩, hx⟩, hz⟩ := hpre
  refine (contract (w.forCall tape i) w.heap.size i.args ds gs before hval (DataW.Whole.of_heap (w' := w.forCall tape i) (by rfl) hw) (hz.weights hw) (hX _ _ _ (by rfl) hx) hsh).mono fun e W' hp => ?_
  obtain ⟨v, rfl, hp⟩ := hp
  exact ChangeSpec.post_blind hp
end Go
