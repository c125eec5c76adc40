/- Package ir: an operand's kind against its sign. -/
import Derived.Test.YtoclmkdfcafhfaaGreatDoorZao
import Derived.HandedShaped
import Derived.Shelf.Vars
import Derived.Lay
import Derived.LaidOnce
import Derived.SevenTiedAt
import Derived.Test.YtoclmkdfcafhfaaGreatDoorTie
import Derived.Test.YtoclmkdfcafhfaaGreatDoorCards
import Derived.Laws.IdiomStrings
set_option maxRecDepth 20000
set_option maxHeartbeats 2000000
namespace Go.Proofs.YtoclmkdfcafhfaaGreatDoor
section
open Go.RowKit Go.Vcg
theorem kO {c : UInt8} {k : UInt8} (h : ¬ c = k) : ¬ (c.toNat : Int) = (k.toNat : Int) := fun e => h (UInt8.toNat_inj.1 (Int.ofNat.inj e))
attribute [local irreducible] G GC GQ GA bO Calls IntKind.wrap Int.decLt Int.decLe
theorem OY (op : Int) (b : Bool) (h : Iq.isE op = b) (w : World) (μ : Mem) (hμ : MOk μ w) : Calls Tryz.prog 10 #[.int .i64 op] w fun e w' => e = .returned (.bool b) ∧ Below w.heap.size w w' := by
  subst h
  exact ZZ w μ hμ op
theorem OA (op : Int) (b : Bool) (h : Iq.isE op = b) (w : World) (μ : Mem) (hμ : MOk μ w) : Calls Tryz.prog 11 #[.int .i64 op] w fun e w' => e = .returned (.bool b) ∧ Below w.heap.size w w' := by
  subst h
  exact VF w μ hμ op
theorem xP (op : Int) (b : Bool) (h : Iq.isS op = b) (w : World) (μ : Mem) (hμ : MOk μ w) : Calls Tryz.prog 75 #[.int .i64 op] w fun e w' => e = .returned (.bool b) ∧ Below w.heap.size w w' := by
  subst h
  exact PD op w μ hμ
theorem xE (op : Int) (b : Bool) (h : Iq.isS op = b) (w : World) (μ : Mem) (hμ : MOk μ w) : Calls Tryz.prog 77 #[.int .i64 op] w fun e w' => e = .returned (.bool b) ∧ Below w.heap.size w w' := by
  subst h
  exact NO op w μ hμ
theorem PB (x : Int) (c : UInt8) (op : Int) (hx : x = c.toNat) (w : World) (μ : Mem) (hμ : MOk μ w) : Calls Tryz.prog 134 #[.int .u8 x, .int .i64 op] w fun e w' => e = .returned (.bool (Iq.nE c op)) ∧ Below w.heap.size w w' := by
  refine aC (args := [.int .u8 x, .int .i64 op]) Tryz.func134 rfl Tryz.ntmps134 (by simp) hμ ?_
  have n0 : c = 115 → x = 115 := fun h => by rw [hx, h]; rfl
  have n1 : c = 112 → x = 112 := fun h => by rw [hx, h]; rfl
  have n2 : c = 97 → x = 97 := fun h => by rw [hx, h]; rfl
  have n3 : c = 98 → x = 98 := fun h => by rw [hx, h]; rfl
  have m0 : ¬ c = 115 → ¬ x = 115 := fun h => by rw [hx]; exact kO h
  have m1 : ¬ c = 112 → ¬ x = 112 := fun h => by rw [hx]; exact kO h
  have m2 : ¬ c = 97 → ¬ x = 97 := fun h => by rw [hx]; exact kO h
  have m3 : ¬ c = 98 → ¬ x = 98 := fun h => by rw [hx]; exact kO h
  clear hx
  unfold Iq.nE
  by_cases h0 : c = 115
  · have nx := n0 h0
    rw [if_pos h0]
    clear n0 n1 n2 n3 m0 m1 m2 m3
    cases hS : Iq.isS op
    all_goals repeat' (first | refine KO ?_ | ((with_reducible apply F1 75); exact rfl; exact EN; (exact fun w μc hw hse => xP op _ hS w μc hw)) | fail)
    all_goals exact aD rfl rfl rfl
  rw [if_neg h0]
  by_cases h1 : c = 112
  · have nx := n1 h1
    have mx0 := m0 h0
    rw [if_pos h1]
    clear n0 n1 n2 n3 m0 m1 m2 m3
    by_cases q1 : op = 121
    all_goals by_cases q2 : op = 122
    all_goals repeat' (first | refine KO ?_ | refine KG ?_ | fail)
    all_goals first | (exfalso; omega) | (refine aD rfl rfl ?_; congr 1; (rw [Bool.eq_iff_iff]; simp; omega))
  rw [if_neg h1]
  by_cases h2 : c = 97
  · have nx := n2 h2
    have mx0 := m0 h0
    have mx1 := m1 h1
    rw [if_pos h2]
    clear n0 n1 n2 n3 m0 m1 m2 m3
    cases hE : Iq.isE op
    all_goals by_cases q1 : op = 124
    all_goals repeat' (first | refine KO ?_ | ((with_reducible apply F1 10); exact rfl; exact EN; (exact fun w μc hw hse => OY op _ hE w μc hw)) | fail)
    all_goals exact aD rfl rfl rfl
  rw [if_neg h2]
  by_cases h3 : c = 98
  · have nx := n3 h3
    have mx0 := m0 h0
    have mx1 := m1 h1
    have mx2 := m2 h2
    rw [if_pos h3]
    clear n0 n1 n2 n3 m0 m1 m2 m3
    cases hE : Iq.isE op
    all_goals cases hS : Iq.isS op
    all_goals repeat' (first | refine KO ?_ | ((with_reducible apply F1 10); exact rfl; exact EN; (exact fun w μc hw hse => OY op _ hE w μc hw)) | ((with_reducible apply F1 75); exact rfl; exact EN; (exact fun w μc hw hse => xP op _ hS w μc hw)) | fail)
    all_goals exact aD rfl rfl rfl
  rw [if_neg h3]
  have mx0 := m0 h0
  have mx1 := m1 h1
  have mx2 := m2 h2
  have mx3 := m3 h3
  clear n0 n1 n2 n3 m0 m1 m2 m3
  cases hE : Iq.isE op
  all_goals repeat' (first | refine KO ?_ | ((with_reducible apply F1 10); exact rfl; exact EN; (exact fun w μc hw hse => OY op _ hE w μc hw)) | fail)
  all_goals exact aD rfl rfl rfl
theorem NY (x : Int) (c : UInt8) (op : Int) (hx : x = c.toNat) (hnp : ¬ c = 112) (w : World) (μ : Mem) (hμ : MOk μ w) : Calls Tryz.prog 158 #[.int .u8 x, .int .i64 op] w fun e w' => e = .returned (.bool (Iq.nE c op)) ∧ Below w.heap.size w w' := by
  refine aC (args := [.int .u8 x, .int .i64 op]) Tryz.func158 rfl Tryz.ntmps158 (by simp) hμ ?_
  have n0 : c = 115 → x = 115 := fun h => by rw [hx, h]; rfl
  have n1 : c = 112 → x = 112 := fun h => by rw [hx, h]; rfl
  have n2 : c = 97 → x = 97 := fun h => by rw [hx, h]; rfl
  have n3 : c = 98 → x = 98 := fun h => by rw [hx, h]; rfl
  have m0 : ¬ c = 115 → ¬ x = 115 := fun h => by rw [hx]; exact kO h
  have m1 : ¬ c = 112 → ¬ x = 112 := fun h => by rw [hx]; exact kO h
  have m2 : ¬ c = 97 → ¬ x = 97 := fun h => by rw [hx]; exact kO h
  have m3 : ¬ c = 98 → ¬ x = 98 := fun h => by rw [hx]; exact kO h
  clear hx
  unfold Iq.nE
  by_cases h0 : c = 115
  · have nx := n0 h0
    rw [if_pos h0]
    clear n0 n1 n2 n3 m0 m1 m2 m3
    cases hS : Iq.isS op
    all_goals repeat' (first | refine KO ?_ | ((with_reducible apply F1 77); exact rfl; exact EN; (exact fun w μc hw hse => xE op _ hS w μc hw)) | fail)
    all_goals exact aD rfl rfl rfl
  rw [if_neg h0]
  have h1 : ¬ c = 112 := hnp
  rw [if_neg h1]
  by_cases h2 : c = 97
  · have nx := n2 h2
    have mx0 := m0 h0
    have mx1 := m1 h1
    rw [if_pos h2]
    clear n0 n1 n2 n3 m0 m1 m2 m3
    cases hE : Iq.isE op
    all_goals by_cases q1 : op = 124
    all_goals repeat' (first | refine KO ?_ | ((with_reducible apply F1 11); exact rfl; exact EN; (exact fun w μc hw hse => OA op _ hE w μc hw)) | refine KG ?_ | fail)
    all_goals first | exact aD rfl rfl rfl | (refine aD rfl rfl ?_; congr 1; (rw [Bool.eq_iff_iff]; simp; omega))
  rw [if_neg h2]
  by_cases h3 : c = 98
  · have nx := n3 h3
    have mx0 := m0 h0
    have mx1 := m1 h1
    have mx2 := m2 h2
    rw [if_pos h3]
    clear n0 n1 n2 n3 m0 m1 m2 m3
    cases hE : Iq.isE op
    all_goals cases hS : Iq.isS op
    all_goals repeat' (first | refine KO ?_ | ((with_reducible apply F1 11); exact rfl; exact EN; (exact fun w μc hw hse => OA op _ hE w μc hw)) | ((with_reducible apply F1 77); exact rfl; exact EN; (exact fun w μc hw hse => xE op _ hS w μc hw)) | refine KG ?_ | fail)
    all_goals exact aD rfl rfl rfl
  rw [if_neg h3]
  have mx0 := m0 h0
  have mx1 := m1 h1
  have mx2 := m2 h2
  have mx3 := m3 h3
  clear n0 n1 n2 n3 m0 m1 m2 m3
  cases hE : Iq.isE op
  all_goals repeat' (first | refine KO ?_ | ((with_reducible apply F1 11); exact rfl; exact EN; (exact fun w μc hw hse => OA op _ hE w μc hw)) | refine KG ?_ | fail)
  all_goals exact aD rfl rfl rfl
theorem VD (x : Int) (c : UInt8) (op : Int) (hx : x = c.toNat) (w : World) (μ : Mem) (hμ : MOk μ w) : Calls Tryz.prog 139 #[.int .u8 x, .int .i64 op] w fun e w' => e = .returned (.bool (Iq.nE c op)) ∧ Below w.heap.size w w' := by
  refine aC (args := [.int .u8 x, .int .i64 op]) Tryz.func139 rfl Tryz.ntmps139 (by simp) hμ ?_
  by_cases h : c = 112
  · have nx : x = 112 := by rw [hx, h]; rfl
    have e : Iq.nE c op = (decide (op = 121) || decide (op = 122)) := by
      unfold Iq.nE
      rw [h, if_neg (by decide), if_pos rfl]
    rw [e]
    clear hx
    by_cases q1 : op = 121
    all_goals by_cases q2 : op = 122
    all_goals repeat' (first | refine KK ?_ | refine KG ?_ | fail)
    all_goals first | (exfalso; omega) | (refine aD rfl rfl ?_; congr 1; (rw [Bool.eq_iff_iff]; simp; omega))
  · have mx : ¬ x = 112 := by rw [hx]; exact kO h
    have hc := fun w μc hw => NY x c op hx h w μc hw
    generalize Iq.nE c op = b at hc ⊢
    repeat' (first | refine KO ?_ | ((with_reducible apply F1 158); exact rfl; exact EN; (exact fun w μc hw hse => hc w μc hw)) | fail)
    all_goals exact aD rfl rfl rfl
end
section
open Go.RowKit Go.Vcg Ou
abbrev aI (t : T) (loc k : Int) : Bool := Iq.cT t.op t.s.data.toList && (Iq.cG t.op t.m && (Iq.bB t.op t.n loc k && Iq.eW t.op t.m (t.kids.map T.op)))
attribute [local irreducible] G GC GQ GA bO Calls IntKind.wrap Int.decLt Int.decLe
theorem VQ (t : T) (u : Value) (hu : u.oneCell' = true) (f : F) (v : Value) (hv : v.oneCell' = true) (k : Int) (hL : 0 ≤ f.loc ∧ f.loc ≤ 100000) (hk : 0 ≤ k ∧ k ≤ 100000) (h : t.op = 102 ∨ t.op = 126 ∨ t.op = 127 ∨ t.op = 144) (w : World) (μ : Mem) (hμ : MOk μ w) : Calls Tryz.prog 114 #[.agg (aR t u).toArray, .agg (dS f v).toArray, .int .i64 k] w fun e w' => e = .returned (.bool (aI t f.loc k)) ∧ Below w.heap.size w w' := by
  have w1 : IntKind.i64.wrap (f.loc - 1) = f.loc - 1 := wrap_i64 ⟨by omega, by omega⟩
  have w2 : IntKind.i64.wrap (k - 1) = k - 1 := wrap_i64 ⟨by omega, by omega⟩
  have e : aI t f.loc k = (t.s.data.toList.isEmpty && (decide (t.m = 0) && Iq.inI t.n 0 1)) := by
    unfold aI Iq.cT Iq.cG Iq.bB Iq.eW
    rcases h with h | h | h | h <;> simp [h]
  rw [e]
  have e1 : (t.s = ⟨#[]⟩) = (t.s.data.toList = []) := of_nil (a := t.s.data.toList)
  refine aC (args := [.agg (aR t u).toArray, .agg (dS f v).toArray, .int .i64 k]) Tryz.func114 rfl Tryz.ntmps114 (by simp) hμ ?_
  by_cases hs : t.s = ⟨#[]⟩
  · have hs2 : t.s.data.toList.isEmpty = true := by rw [hs]; rfl
    rw [hs2]
    clear e1
    by_cases hm : t.m = 0
    · rw [decide_eq_true hm, Bool.true_and, Bool.true_and]
      rcases h with h | h | h | h
      all_goals repeat' (first | refine KO ?_ | ((with_reducible apply F1 49); exact rfl; exact EN; (exact fun w μc hw hse => fD _ _ _ w μc hw)) | refine KI ?_ | refine NB fun b => ?_ | (refine KB ?_ ?_ <;> intro hp) | refine KG ?_ | fail)
      all_goals first | (exfalso; contradiction) | exact aD rfl rfl rfl
    · rw [decide_eq_false hm, Bool.true_and, Bool.false_and]
      rcases h with h | h | h | h
      all_goals repeat' (first | refine KO ?_ | refine KI ?_ | refine NB fun b => ?_ | (refine KB ?_ ?_ <;> intro hp) | refine KG ?_ | fail)
      all_goals first | (exfalso; contradiction) | exact aD rfl rfl rfl
  · have hs2 : t.s.data.toList.isEmpty = false := by rw [e1] at hs; simpa using hs
    rw [hs2, Bool.false_and]
    clear e1
    rcases h with h | h | h | h
    all_goals repeat' (first | refine KO ?_ | refine KI ?_ | refine NB fun b => ?_ | refine KG ?_ | fail)
    all_goals exact aD rfl rfl rfl
theorem VO (t : T) (u : Value) (hu : u.oneCell' = true) (f : F) (v : Value) (hv : v.oneCell' = true) (k : Int) (hL : 0 ≤ f.loc ∧ f.loc ≤ 100000) (hk : 0 ≤ k ∧ k ≤ 100000) (h : t.op = 103) (w : World) (μ : Mem) (hμ : MOk μ w) : Calls Tryz.prog 114 #[.agg (aR t u).toArray, .agg (dS f v).toArray, .int .i64 k] w fun e w' => e = .returned (.bool (aI t f.loc k)) ∧ Below w.heap.size w w' := by
  have w1 : IntKind.i64.wrap (f.loc - 1) = f.loc - 1 := wrap_i64 ⟨by omega, by omega⟩
  have w2 : IntKind.i64.wrap (k - 1) = k - 1 := wrap_i64 ⟨by omega, by omega⟩
  have e : aI t f.loc k = (t.s.data.toList.isEmpty && (decide (t.m = 0) && Iq.inI t.n (-9007199254740992) 9007199254740992)) := by
    unfold aI Iq.cT Iq.cG Iq.bB Iq.eW
    simp [h]
  rw [e]
  have e1 : (t.s = ⟨#[]⟩) = (t.s.data.toList = []) := of_nil (a := t.s.data.toList)
  refine aC (args := [.agg (aR t u).toArray, .agg (dS f v).toArray, .int .i64 k]) Tryz.func114 rfl Tryz.ntmps114 (by simp) hμ ?_
  by_cases hs : t.s = ⟨#[]⟩
  · have hs2 : t.s.data.toList.isEmpty = true := by rw [hs]; rfl
    rw [hs2]
    clear e1
    by_cases hm : t.m = 0
    · rw [decide_eq_true hm, Bool.true_and, Bool.true_and]
      repeat' (first | refine KO ?_ | ((with_reducible apply F1 49); exact rfl; exact EN; (exact fun w μc hw hse => fD _ _ _ w μc hw)) | refine KI ?_ | refine NB fun b => ?_ | (refine KB ?_ ?_ <;> intro hp) | refine KG ?_ | fail)
      all_goals first | (exfalso; contradiction) | exact aD rfl rfl rfl
    · rw [decide_eq_false hm, Bool.true_and, Bool.false_and]
      repeat' (first | refine KO ?_ | refine KI ?_ | refine NB fun b => ?_ | (refine KB ?_ ?_ <;> intro hp) | refine KG ?_ | fail)
      all_goals first | (exfalso; contradiction) | exact aD rfl rfl rfl
  · have hs2 : t.s.data.toList.isEmpty = false := by rw [e1] at hs; simpa using hs
    rw [hs2, Bool.false_and]
    clear e1
    repeat' (first | refine KO ?_ | refine KI ?_ | refine NB fun b => ?_ | refine KG ?_ | fail)
    all_goals exact aD rfl rfl rfl
theorem VN (t : T) (u : Value) (hu : u.oneCell' = true) (f : F) (v : Value) (hv : v.oneCell' = true) (k : Int) (hL : 0 ≤ f.loc ∧ f.loc ≤ 100000) (hk : 0 ≤ k ∧ k ≤ 100000) (h : t.op = 107 ∨ t.op = 108 ∨ t.op = 169) (w : World) (μ : Mem) (hμ : MOk μ w) : Calls Tryz.prog 114 #[.agg (aR t u).toArray, .agg (dS f v).toArray, .int .i64 k] w fun e w' => e = .returned (.bool (aI t f.loc k)) ∧ Below w.heap.size w w' := by
  have w1 : IntKind.i64.wrap (f.loc - 1) = f.loc - 1 := wrap_i64 ⟨by omega, by omega⟩
  have w2 : IntKind.i64.wrap (k - 1) = k - 1 := wrap_i64 ⟨by omega, by omega⟩
  have e : aI t f.loc k = (t.s.data.toList.isEmpty && (decide (t.m = 0) && Iq.inI t.n 0 (f.loc - 1))) := by
    unfold aI Iq.cT Iq.cG Iq.bB Iq.eW
    rcases h with h | h | h <;> simp [h]
  rw [e]
  have e1 : (t.s = ⟨#[]⟩) = (t.s.data.toList = []) := of_nil (a := t.s.data.toList)
  refine aC (args := [.agg (aR t u).toArray, .agg (dS f v).toArray, .int .i64 k]) Tryz.func114 rfl Tryz.ntmps114 (by simp) hμ ?_
  by_cases hs : t.s = ⟨#[]⟩
  · have hs2 : t.s.data.toList.isEmpty = true := by rw [hs]; rfl
    rw [hs2]
    clear e1
    by_cases hm : t.m = 0
    · rw [decide_eq_true hm, Bool.true_and, Bool.true_and]
      rcases h with h | h | h
      all_goals repeat' (first | refine KO ?_ | ((with_reducible apply F1 49); exact rfl; exact EN; (exact fun w μc hw hse => fD _ _ _ w μc hw)) | refine KI ?_ | refine NB fun b => ?_ | (refine KB ?_ ?_ <;> intro hp) | refine KG ?_ | fail)
      all_goals first | (exfalso; contradiction) | exact aD rfl rfl rfl
    · rw [decide_eq_false hm, Bool.true_and, Bool.false_and]
      rcases h with h | h | h
      all_goals repeat' (first | refine KO ?_ | refine KI ?_ | refine NB fun b => ?_ | (refine KB ?_ ?_ <;> intro hp) | refine KG ?_ | fail)
      all_goals first | (exfalso; contradiction) | exact aD rfl rfl rfl
  · have hs2 : t.s.data.toList.isEmpty = false := by rw [e1] at hs; simpa using hs
    rw [hs2, Bool.false_and]
    clear e1
    rcases h with h | h | h
    all_goals repeat' (first | refine KO ?_ | refine KI ?_ | refine NB fun b => ?_ | refine KG ?_ | fail)
    all_goals exact aD rfl rfl rfl
theorem VM (t : T) (u : Value) (hu : u.oneCell' = true) (f : F) (v : Value) (hv : v.oneCell' = true) (k : Int) (hL : 0 ≤ f.loc ∧ f.loc ≤ 100000) (hk : 0 ≤ k ∧ k ≤ 100000) (h : t.op = 165 ∨ t.op = 166) (w : World) (μ : Mem) (hμ : MOk μ w) : Calls Tryz.prog 114 #[.agg (aR t u).toArray, .agg (dS f v).toArray, .int .i64 k] w fun e w' => e = .returned (.bool (aI t f.loc k)) ∧ Below w.heap.size w w' := by
  have w1 : IntKind.i64.wrap (f.loc - 1) = f.loc - 1 := wrap_i64 ⟨by omega, by omega⟩
  have w2 : IntKind.i64.wrap (k - 1) = k - 1 := wrap_i64 ⟨by omega, by omega⟩
  have e : aI t f.loc k = (t.s.data.toList.isEmpty && (decide (t.m = 0) && true)) := by
    unfold aI Iq.cT Iq.cG Iq.bB Iq.eW
    rcases h with h | h <;> simp [h]
  rw [e]
  have e1 : (t.s = ⟨#[]⟩) = (t.s.data.toList = []) := of_nil (a := t.s.data.toList)
  refine aC (args := [.agg (aR t u).toArray, .agg (dS f v).toArray, .int .i64 k]) Tryz.func114 rfl Tryz.ntmps114 (by simp) hμ ?_
  by_cases hs : t.s = ⟨#[]⟩
  · have hs2 : t.s.data.toList.isEmpty = true := by rw [hs]; rfl
    rw [hs2]
    clear e1
    by_cases hm : t.m = 0
    · rw [decide_eq_true hm, Bool.true_and, Bool.true_and]
      rcases h with h | h
      all_goals repeat' (first | refine KO ?_ | refine KI ?_ | refine NB fun b => ?_ | (refine KB ?_ ?_ <;> intro hp) | refine KG ?_ | fail)
      all_goals first | (exfalso; contradiction) | exact aD rfl rfl rfl
    · rw [decide_eq_false hm, Bool.true_and, Bool.false_and]
      rcases h with h | h
      all_goals repeat' (first | refine KO ?_ | refine KI ?_ | refine NB fun b => ?_ | (refine KB ?_ ?_ <;> intro hp) | refine KG ?_ | fail)
      all_goals first | (exfalso; contradiction) | exact aD rfl rfl rfl
  · have hs2 : t.s.data.toList.isEmpty = false := by rw [e1] at hs; simpa using hs
    rw [hs2, Bool.false_and]
    clear e1
    rcases h with h | h
    all_goals repeat' (first | refine KO ?_ | refine KI ?_ | refine NB fun b => ?_ | refine KG ?_ | fail)
    all_goals exact aD rfl rfl rfl
theorem VL (t : T) (u : Value) (hu : u.oneCell' = true) (f : F) (v : Value) (hv : v.oneCell' = true) (k : Int) (hL : 0 ≤ f.loc ∧ f.loc ≤ 100000) (hk : 0 ≤ k ∧ k ≤ 100000) (h : t.op = 117) (w : World) (μ : Mem) (hμ : MOk μ w) : Calls Tryz.prog 114 #[.agg (aR t u).toArray, .agg (dS f v).toArray, .int .i64 k] w fun e w' => e = .returned (.bool (aI t f.loc k)) ∧ Below w.heap.size w w' := by
  have w1 : IntKind.i64.wrap (f.loc - 1) = f.loc - 1 := wrap_i64 ⟨by omega, by omega⟩
  have w2 : IntKind.i64.wrap (k - 1) = k - 1 := wrap_i64 ⟨by omega, by omega⟩
  have e : aI t f.loc k = (t.s.data.toList.isEmpty && (decide (t.m = 0) && Iq.inI t.n (-1) 1024)) := by
    unfold aI Iq.cT Iq.cG Iq.bB Iq.eW
    simp [h]
  rw [e]
  have e1 : (t.s = ⟨#[]⟩) = (t.s.data.toList = []) := of_nil (a := t.s.data.toList)
  refine aC (args := [.agg (aR t u).toArray, .agg (dS f v).toArray, .int .i64 k]) Tryz.func114 rfl Tryz.ntmps114 (by simp) hμ ?_
  by_cases hs : t.s = ⟨#[]⟩
  · have hs2 : t.s.data.toList.isEmpty = true := by rw [hs]; rfl
    rw [hs2]
    clear e1
    by_cases hm : t.m = 0
    · rw [decide_eq_true hm, Bool.true_and, Bool.true_and]
      repeat' (first | refine KO ?_ | ((with_reducible apply F1 49); exact rfl; exact EN; (exact fun w μc hw hse => fD _ _ _ w μc hw)) | refine KI ?_ | refine NB fun b => ?_ | (refine KB ?_ ?_ <;> intro hp) | refine KG ?_ | fail)
      all_goals first | (exfalso; contradiction) | exact aD rfl rfl rfl
    · rw [decide_eq_false hm, Bool.true_and, Bool.false_and]
      repeat' (first | refine KO ?_ | refine KI ?_ | refine NB fun b => ?_ | (refine KB ?_ ?_ <;> intro hp) | refine KG ?_ | fail)
      all_goals first | (exfalso; contradiction) | exact aD rfl rfl rfl
  · have hs2 : t.s.data.toList.isEmpty = false := by rw [e1] at hs; simpa using hs
    rw [hs2, Bool.false_and]
    clear e1
    repeat' (first | refine KO ?_ | refine KI ?_ | refine NB fun b => ?_ | refine KG ?_ | fail)
    all_goals exact aD rfl rfl rfl
theorem VK (t : T) (u : Value) (hu : u.oneCell' = true) (f : F) (v : Value) (hv : v.oneCell' = true) (k : Int) (hL : 0 ≤ f.loc ∧ f.loc ≤ 100000) (hk : 0 ≤ k ∧ k ≤ 100000) (h : t.op = 118) (w : World) (μ : Mem) (hμ : MOk μ w) : Calls Tryz.prog 114 #[.agg (aR t u).toArray, .agg (dS f v).toArray, .int .i64 k] w fun e w' => e = .returned (.bool (aI t f.loc k)) ∧ Below w.heap.size w w' := by
  have w1 : IntKind.i64.wrap (f.loc - 1) = f.loc - 1 := wrap_i64 ⟨by omega, by omega⟩
  have w2 : IntKind.i64.wrap (k - 1) = k - 1 := wrap_i64 ⟨by omega, by omega⟩
  have e : aI t f.loc k = (t.s.data.toList.isEmpty && (decide (t.m = 0) && Iq.inI t.n 0 1024)) := by
    unfold aI Iq.cT Iq.cG Iq.bB Iq.eW
    simp [h]
  rw [e]
  have e1 : (t.s = ⟨#[]⟩) = (t.s.data.toList = []) := of_nil (a := t.s.data.toList)
  refine aC (args := [.agg (aR t u).toArray, .agg (dS f v).toArray, .int .i64 k]) Tryz.func114 rfl Tryz.ntmps114 (by simp) hμ ?_
  by_cases hs : t.s = ⟨#[]⟩
  · have hs2 : t.s.data.toList.isEmpty = true := by rw [hs]; rfl
    rw [hs2]
    clear e1
    by_cases hm : t.m = 0
    · rw [decide_eq_true hm, Bool.true_and, Bool.true_and]
      repeat' (first | refine KO ?_ | ((with_reducible apply F1 49); exact rfl; exact EN; (exact fun w μc hw hse => fD _ _ _ w μc hw)) | refine KI ?_ | refine NB fun b => ?_ | (refine KB ?_ ?_ <;> intro hp) | refine KG ?_ | fail)
      all_goals first | (exfalso; contradiction) | exact aD rfl rfl rfl
    · rw [decide_eq_false hm, Bool.true_and, Bool.false_and]
      repeat' (first | refine KO ?_ | refine KI ?_ | refine NB fun b => ?_ | (refine KB ?_ ?_ <;> intro hp) | refine KG ?_ | fail)
      all_goals first | (exfalso; contradiction) | exact aD rfl rfl rfl
  · have hs2 : t.s.data.toList.isEmpty = false := by rw [e1] at hs; simpa using hs
    rw [hs2, Bool.false_and]
    clear e1
    repeat' (first | refine KO ?_ | refine KI ?_ | refine NB fun b => ?_ | refine KG ?_ | fail)
    all_goals exact aD rfl rfl rfl
theorem VJ (t : T) (u : Value) (hu : u.oneCell' = true) (f : F) (v : Value) (hv : v.oneCell' = true) (k : Int) (hL : 0 ≤ f.loc ∧ f.loc ≤ 100000) (hk : 0 ≤ k ∧ k ≤ 100000) (h : t.op = 119) (w : World) (μ : Mem) (hμ : MOk μ w) : Calls Tryz.prog 114 #[.agg (aR t u).toArray, .agg (dS f v).toArray, .int .i64 k] w fun e w' => e = .returned (.bool (aI t f.loc k)) ∧ Below w.heap.size w w' := by
  have w1 : IntKind.i64.wrap (f.loc - 1) = f.loc - 1 := wrap_i64 ⟨by omega, by omega⟩
  have w2 : IntKind.i64.wrap (k - 1) = k - 1 := wrap_i64 ⟨by omega, by omega⟩
  have e : aI t f.loc k = (t.s.data.toList.isEmpty && (decide (t.m = 0) && Iq.inI t.n 1 (k - 1))) := by
    unfold aI Iq.cT Iq.cG Iq.bB Iq.eW
    simp [h]
  rw [e]
  have e1 : (t.s = ⟨#[]⟩) = (t.s.data.toList = []) := of_nil (a := t.s.data.toList)
  refine aC (args := [.agg (aR t u).toArray, .agg (dS f v).toArray, .int .i64 k]) Tryz.func114 rfl Tryz.ntmps114 (by simp) hμ ?_
  by_cases hs : t.s = ⟨#[]⟩
  · have hs2 : t.s.data.toList.isEmpty = true := by rw [hs]; rfl
    rw [hs2]
    clear e1
    by_cases hm : t.m = 0
    · rw [decide_eq_true hm, Bool.true_and, Bool.true_and]
      repeat' (first | refine KO ?_ | ((with_reducible apply F1 49); exact rfl; exact EN; (exact fun w μc hw hse => fD _ _ _ w μc hw)) | refine KI ?_ | refine NB fun b => ?_ | (refine KB ?_ ?_ <;> intro hp) | refine KG ?_ | fail)
      all_goals first | (exfalso; contradiction) | exact aD rfl rfl rfl
    · rw [decide_eq_false hm, Bool.true_and, Bool.false_and]
      repeat' (first | refine KO ?_ | refine KI ?_ | refine NB fun b => ?_ | (refine KB ?_ ?_ <;> intro hp) | refine KG ?_ | fail)
      all_goals first | (exfalso; contradiction) | exact aD rfl rfl rfl
  · have hs2 : t.s.data.toList.isEmpty = false := by rw [e1] at hs; simpa using hs
    rw [hs2, Bool.false_and]
    clear e1
    repeat' (first | refine KO ?_ | refine KI ?_ | refine NB fun b => ?_ | refine KG ?_ | fail)
    all_goals exact aD rfl rfl rfl
theorem VI (t : T) (u : Value) (hu : u.oneCell' = true) (f : F) (v : Value) (hv : v.oneCell' = true) (k : Int) (hL : 0 ≤ f.loc ∧ f.loc ≤ 100000) (hk : 0 ≤ k ∧ k ≤ 100000) (h : t.op = 121) (w : World) (μ : Mem) (hμ : MOk μ w) : Calls Tryz.prog 114 #[.agg (aR t u).toArray, .agg (dS f v).toArray, .int .i64 k] w fun e w' => e = .returned (.bool (aI t f.loc k)) ∧ Below w.heap.size w w' := by
  have w1 : IntKind.i64.wrap (f.loc - 1) = f.loc - 1 := wrap_i64 ⟨by omega, by omega⟩
  have w2 : IntKind.i64.wrap (k - 1) = k - 1 := wrap_i64 ⟨by omega, by omega⟩
  have e : aI t f.loc k = (t.s.data.toList.isEmpty && (decide (t.m = 0) && Iq.inI t.n 0 2)) := by
    unfold aI Iq.cT Iq.cG Iq.bB Iq.eW
    simp [h]
  rw [e]
  have e1 : (t.s = ⟨#[]⟩) = (t.s.data.toList = []) := of_nil (a := t.s.data.toList)
  refine aC (args := [.agg (aR t u).toArray, .agg (dS f v).toArray, .int .i64 k]) Tryz.func114 rfl Tryz.ntmps114 (by simp) hμ ?_
  by_cases hs : t.s = ⟨#[]⟩
  · have hs2 : t.s.data.toList.isEmpty = true := by rw [hs]; rfl
    rw [hs2]
    clear e1
    by_cases hm : t.m = 0
    · rw [decide_eq_true hm, Bool.true_and, Bool.true_and]
      repeat' (first | refine KO ?_ | ((with_reducible apply F1 49); exact rfl; exact EN; (exact fun w μc hw hse => fD _ _ _ w μc hw)) | refine KI ?_ | refine NB fun b => ?_ | (refine KB ?_ ?_ <;> intro hp) | refine KG ?_ | fail)
      all_goals first | (exfalso; contradiction) | exact aD rfl rfl rfl
    · rw [decide_eq_false hm, Bool.true_and, Bool.false_and]
      repeat' (first | refine KO ?_ | refine KI ?_ | refine NB fun b => ?_ | (refine KB ?_ ?_ <;> intro hp) | refine KG ?_ | fail)
      all_goals first | (exfalso; contradiction) | exact aD rfl rfl rfl
  · have hs2 : t.s.data.toList.isEmpty = false := by rw [e1] at hs; simpa using hs
    rw [hs2, Bool.false_and]
    clear e1
    repeat' (first | refine KO ?_ | refine KI ?_ | refine NB fun b => ?_ | refine KG ?_ | fail)
    all_goals exact aD rfl rfl rfl
theorem VH (t : T) (u : Value) (hu : u.oneCell' = true) (f : F) (v : Value) (hv : v.oneCell' = true) (k : Int) (hL : 0 ≤ f.loc ∧ f.loc ≤ 100000) (hk : 0 ≤ k ∧ k ≤ 100000) (h : t.op = 164 ∨ t.op = 170) (w : World) (μ : Mem) (hμ : MOk μ w) : Calls Tryz.prog 114 #[.agg (aR t u).toArray, .agg (dS f v).toArray, .int .i64 k] w fun e w' => e = .returned (.bool (aI t f.loc k)) ∧ Below w.heap.size w w' := by
  have w1 : IntKind.i64.wrap (f.loc - 1) = f.loc - 1 := wrap_i64 ⟨by omega, by omega⟩
  have w2 : IntKind.i64.wrap (k - 1) = k - 1 := wrap_i64 ⟨by omega, by omega⟩
  have e : aI t f.loc k = (t.s.data.toList.isEmpty && (decide (t.m = 0) && Iq.inI t.n 0 4096)) := by
    unfold aI Iq.cT Iq.cG Iq.bB Iq.eW
    rcases h with h | h <;> simp [h]
  rw [e]
  have e1 : (t.s = ⟨#[]⟩) = (t.s.data.toList = []) := of_nil (a := t.s.data.toList)
  refine aC (args := [.agg (aR t u).toArray, .agg (dS f v).toArray, .int .i64 k]) Tryz.func114 rfl Tryz.ntmps114 (by simp) hμ ?_
  by_cases hs : t.s = ⟨#[]⟩
  · have hs2 : t.s.data.toList.isEmpty = true := by rw [hs]; rfl
    rw [hs2]
    clear e1
    by_cases hm : t.m = 0
    · rw [decide_eq_true hm, Bool.true_and, Bool.true_and]
      rcases h with h | h
      all_goals repeat' (first | refine KO ?_ | ((with_reducible apply F1 49); exact rfl; exact EN; (exact fun w μc hw hse => fD _ _ _ w μc hw)) | refine KI ?_ | refine NB fun b => ?_ | (refine KB ?_ ?_ <;> intro hp) | refine KG ?_ | fail)
      all_goals first | (exfalso; contradiction) | exact aD rfl rfl rfl
    · rw [decide_eq_false hm, Bool.true_and, Bool.false_and]
      rcases h with h | h
      all_goals repeat' (first | refine KO ?_ | refine KI ?_ | refine NB fun b => ?_ | (refine KB ?_ ?_ <;> intro hp) | refine KG ?_ | fail)
      all_goals first | (exfalso; contradiction) | exact aD rfl rfl rfl
  · have hs2 : t.s.data.toList.isEmpty = false := by rw [e1] at hs; simpa using hs
    rw [hs2, Bool.false_and]
    clear e1
    rcases h with h | h
    all_goals repeat' (first | refine KO ?_ | refine KI ?_ | refine NB fun b => ?_ | refine KG ?_ | fail)
    all_goals exact aD rfl rfl rfl
end
section
open Go.RowKit Go.Vcg Ou
attribute [local irreducible] G GC GQ GA bO Calls IntKind.wrap Int.decLt Int.decLe
theorem EV (t : T) (u : Value) (hu : u.oneCell' = true) (f : F) (v : Value) (hv : v.oneCell' = true) (k : Int) (h : t.op = 109 ∨ t.op = 110) (w : World) (μ : Mem) (hμ : MOk μ w) : Calls Tryz.prog 114 #[.agg (aR t u).toArray, .agg (dS f v).toArray, .int .i64 k] w fun e w' => e = .returned (.bool (aI t f.loc k)) ∧ Below w.heap.size w w' := by
  have e : aI t f.loc k = t.s.data.toList.isEmpty := by
    unfold aI Iq.cT Iq.cG Iq.bB Iq.eW
    rcases h with h | h <;> simp [h]
  rw [e]
  have e1 : (t.s = ⟨#[]⟩) = (t.s.data.toList = []) := of_nil (a := t.s.data.toList)
  refine aC (args := [.agg (aR t u).toArray, .agg (dS f v).toArray, .int .i64 k]) Tryz.func114 rfl Tryz.ntmps114 (by simp) hμ ?_
  by_cases hs : t.s = ⟨#[]⟩
  · have hs2 : t.s.data.toList.isEmpty = true := by rw [hs]; rfl
    rw [hs2]
    clear e1
    rcases h with h | h
    all_goals repeat' (first | refine KK ?_ | refine NB fun b => ?_ | (refine KB ?_ ?_ <;> intro hp) | refine KG ?_ | fail)
    all_goals first | (exfalso; contradiction) | exact aD rfl rfl rfl
  · have hs2 : t.s.data.toList.isEmpty = false := by rw [e1] at hs; simpa using hs
    rw [hs2]
    clear e1
    rcases h with h | h
    all_goals repeat' (first | refine KK ?_ | refine NB fun b => ?_ | refine KG ?_ | fail)
    all_goals exact aD rfl rfl rfl
theorem ER (t : T) (u : Value) (hu : u.oneCell' = true) (f : F) (v : Value) (hv : v.oneCell' = true) (k : Int) (h : t.op = 105) (w : World) (μ : Mem) (hμ : MOk μ w) : Calls Tryz.prog 114 #[.agg (aR t u).toArray, .agg (dS f v).toArray, .int .i64 k] w fun e w' => e = .returned (.bool (aI t f.loc k)) ∧ Below w.heap.size w w' := by
  have e : aI t f.loc k = (decide (t.s.size ≤ 65536) && (decide (t.m = 0) && decide (t.n = 0))) := by
    unfold aI Iq.cT Iq.cG Iq.bB Iq.eW
    rw [← mZ]
    simp [h]
  rw [e]
  refine aC (args := [.agg (aR t u).toArray, .agg (dS f v).toArray, .int .i64 k]) Tryz.func114 rfl Tryz.ntmps114 (by simp) hμ ?_
  have hz0 : (⟨#[]⟩ : ByteArray).size = 0 := rfl
  have hzz : t.s = ⟨#[]⟩ → t.s.size = 0 := fun h => by rw [h]; rfl
  by_cases hs : t.s = ⟨#[]⟩
  all_goals try have hz := hzz hs
  all_goals clear hzz
  all_goals by_cases hm : t.m = 0
  all_goals by_cases hn : t.n = 0
  all_goals by_cases hl : t.s.size ≤ 65536
  all_goals simp only [hm, hn, hl, decide_true, decide_false, Bool.and_true, Bool.true_and, Bool.and_false, Bool.false_and]
  all_goals repeat' (first | refine KK ?_ | refine NB fun b => ?_ | (refine KB ?_ ?_ <;> intro hp) | refine KG ?_ | fail)
  all_goals first | (exfalso; first | omega | contradiction) | exact aD rfl rfl rfl | (refine aD rfl rfl ?_; congr 1; first | (simp [*]; done) | (rw [Bool.eq_iff_iff]; simp [*]; omega))
end
section
section unit1
open Go.RowKit Go.Vcg
structure aHu where
  name : ByteArray
  kind : Int
  len : Int
  loc : Int
  body : Value
attribute [local irreducible] G GC GQ GA bO Calls IntKind.wrap Int.decLt Int.decLe
end unit1
section unit2
open Go.RowKit Go.Vcg
attribute [local irreducible] smB aBw tK zX G GC GQ GA bO Calls IntKind.wrap Int.decLt Int.decLe
end unit2
end
section
open Go.ChangeShapes Go.WideShapes Go.ChangeAt Go.RowKit Go.Deep Go.Vcg
section
variable {H : Type} {enc : TypeId × Value → H} {W : World} {base : Nat} {spare : Nat → Bool} {held : Bool}
end
section
variable {H : Type} {enc : TypeId × Value → H} {W : World}
end
end
end Go.Proofs.YtoclmkdfcafhfaaGreatDoor
namespace Go
variable {H : Type} {enc : TypeId × Value → H}
theorem jJ {a : Assume} {C : Checked} {os : Os} {f : FuncId} {fn : Func} {s : ChangeSpec} {conds : List PathCond} {apart fresh handsOn again : Bool} {X : World → Array Value → Prop}
    (hX : ∀ (w w' : World) (args : Array Value), w.heap = w'.heap → X w args → X w' args)
    (own : ownKnob C.prog.godebug = none) (started : os.Started) (noInit : C.prog.inits.idxOf? f = none) (hfn : C.prog.funcs[f]? = some fn)
    (witness : ∃ (w : World) (tape : Tape) (i : Input), w.os = os ∧ (w.forCall tape i).Shaped C.prog ∧ i.vars = [] ∧ Input.okWide C.prog (w.forCall tape i) .any w.heap.size f i ∧
      ((s.pre enc C.prog fn conds apart (w.forCall tape i).memory i.args ∧ X (w.forCall tape i).memory i.args) ∧ sizedMet enc C.prog fn (OpenSpec.ofChange s) apart (w.forCall tape i).memory i.args) ∧ a.holds C.prog (lone (Frame.enter C.prog f i.args .normal) [] (w.forCall tape i)))
    (contract : ∀ (W : World) (base : Nat) (args : Array Value) (ds gs : List (DataW H)) (before : List MemPlace),
      (∀ (j : Nat) t v, fn.params[j]? = some t → args[j]? = some v → Value.okWide C.prog W .any base t v) →
      DataW.Whole enc C.prog fn.params.toList s.vars apart W args.toList ds gs before →
      (DataW.weightsEach C.prog (fn.params.toList ++ s.plain.varTypes C.prog) (ds ++ gs)).all (· ≤ reachBytes) = true → X W args → W.ShapedOpen C.prog →
      Calls C.prog f args W fun e W' => ∃ v, e = .returned v ∧ s.post enc C.prog fn apart fresh handsOn again W args v W') :
    ReturnsInHanded a C os f .any (fun w args => (s.pre enc C.prog fn conds apart w args ∧ X w args) ∧ sizedMet enc C.prog fn (OpenSpec.ofChange s) apart w args) (s.post enc C.prog fn apart fresh handsOn again) := by
  refine returnsInHanded_of_calls own started noInit witness ?_
  intro w tape i _ hsh _ hok hpre _
  obtain ⟨_, _, _, g, hg, _, _, _, _, hval⟩ := hok
  obtain rfl : g = fn := Option.some.inj (hg.symm.trans hfn)
  obtain ⟨⟨⟨ds, gs, before, hw, _⟩, hx⟩, hz⟩ := hpre
  refine (contract (w.forCall tape i) w.heap.size i.args ds gs before hval (DataW.Whole.of_heap (w' := w.forCall tape i) (by rfl) hw) (hz.weights hw) (hX _ _ _ (by rfl) hx) hsh).mono fun e W' hp => ?_
  obtain ⟨v, rfl, hp⟩ := hp
  exact ChangeSpec.post_blind hp
end Go
namespace Go.Proofs.YtoclmkdfcafhfaaGreatDoor
open Go.ChangeShapes Go.WideShapes Go.ChangeAt Go.RowKit Go.Deep Go.Vcg
end Go.Proofs.YtoclmkdfcafhfaaGreatDoor
namespace Go.Vcg
open Go.RowKit
section
variable {P : Program} {X : Ctx} {ops : Array Oper} {Q : Exit → Act → World → Prop} {rest : List Oper} {μ : Mem} {l : aF} {L : List Bk} {a : Act} {w : World} {o : Oper} {d : Nat}
variable {ty : TypeId} {pos : String} {af : Array Edge} {gd : Option (Nat × Bool)} {ds : Option Nat}
theorem lT {t e : TypeId} {z : Value} {bytes : Nat} {p q : Operand} {x y : Int} (N : Nat) (xs : List Value) (hn : Nat.blt d X.n = true) (hw : dH ops l ⟨some d, .makeSlice t p q, ty, pos, af, gd⟩ = some true)
    (hp : ev l p = some (.int .i64 x)) (hq : ev l q = some (.int .i64 y)) (hx : x = (N : Int)) (hy : y = (N : Int)) (ht : P.underlying t = some (.slice e)) (hinfo : (P.info? e).map (fun i => (i.zero, i.size, i.bytes)) = some (some z, 1, bytes)) (hz1 : z.cells = #[z])
    (hbytes : bytes * N ≤ 281474976710656) (h63 : N ≤ 9223372036854775807) (hxs : xs = List.replicate N z)
    (h : ∀ b, G P X ops Q rest μ ((d, .slice (some ⟨b, 0, none⟩) N N) :: l) (.inr ⟨.slice (some ⟨b, 0, none⟩) N N, e, 1, N, xs⟩ :: L)) : G P X ops Q (⟨some d, .makeSlice t p q, ty, pos, af, gd⟩ :: rest) μ l L :=
  qG hw fun a w hs => by
    have e1 := hs.eval hp; have e2 := hs.eval hq
    have e0 : (execOp a.eval ⟨some d, .makeSlice t p q, ty, pos, af, gd⟩).run P w = .ok (.value (.slice (some ⟨w.heap.size, 0, none⟩) N N)) (w.alloc (.cells (madeCells #[z] N) e)) := by
      generalize a.eval = ρ at e1 e2
      subst hx hy
      simp [execOp, e1, e2, run_make_row' t e z bytes ht hinfo hz1 .i64 .i64 N hbytes h63 w]
    unfold Oper.wp
    rw [e0, Oper.upon_value]
    have hl : xs.length = N := by rw [hxs, List.length_replicate]
    refine h _ _ _ ((hs.aGk _ (.inr ⟨.slice (some ⟨w.heap.size, 0, none⟩) N N, e, 1, N, xs⟩) rfl ?_).put hn _)
    refine ⟨by show xs.length = N * 1; omega, .inr ⟨w.heap.size, N, madeCells #[z] N, rfl, Nat.zero_le _, heap_alloc_new w _, Nat.le_refl _, h63, ?_, ?_⟩⟩
    · rw [size_madeCells]; exact (Nat.mul_one N).symm
    · rw [toList_madeCells_one, hxs, Nat.mul_one]
      exact List.take_of_length_le (by simp)
theorem vW {p q : Operand} {t t2 : TypeId} {k : IntKind} {x y r : Int} (hx0 : ev l p = some (.int k x)) (hx1 : ev l q = some (.int k y)) (hy : y ≠ 0) (hr : x.tmod y = r) : Val P μ l L ⟨ds, .binOp .rem t p q t2, ty, pos, af, gd⟩ (.int k r) := by
  subst hr
  exact RD hx0 hx1 hy
end
end Go.Vcg
