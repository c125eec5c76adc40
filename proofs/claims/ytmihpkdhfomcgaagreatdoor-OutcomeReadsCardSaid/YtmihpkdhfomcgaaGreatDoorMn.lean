/- Rules for bytes: conversions, quotients, slices of strings. (and what leans on it). No statement of the seat is proved here. -/
import Derived.Test.YtmihpkdhfomcgaaGreatDoorVq
import Derived.Test.YtmihpkdhfomcgaaGreatDoorMt
import Derived.Test.YtmihpkdhfomcgaaGreatDoorSt
import Derived.Test.YtmihpkdhfomcgaaGreatDoorMd
set_option maxRecDepth 20000
set_option maxHeartbeats 2000000
namespace Go.Vcg
open Go.RowKit
section
variable {P : Program} {X : Ctx} {Q : Exit → Act → World → Prop} {μ : Mem} {l : Slots} {L : List Bk} {ty : TypeId} {pos : String} {af : Array Edge} {gd : Option (Nat × Bool)} {ds : Option Nat}
theorem v_conv_u8 {p : Operand} {t u : TypeId} {k : IntKind} {x : Int} {de : TypeDesc} (hx0 : ev l p = some (.int k x)) (ht : P.underlying t = some de) (hu : P.underlying u = some (.int .u8)) (hb : 0 ≤ x ∧ x ≤ 255) : Val P μ l L ⟨ds, .convert t u p, ty, pos, af, gd⟩ (.int .u8 x) := by
  have := v_conv (P := P) (μ := μ) (L := L) (ds := ds) (ty := ty) (pos := pos) (af := af) (gd := gd) hx0 ht hu
  rw [wrap_u8 hb] at this
  exact this
theorem v_quo8 {p q : Operand} {t t2 : TypeId} {x y : Int} (hx0 : ev l p = some (.int .u8 x)) (hx1 : ev l q = some (.int .u8 y)) (hx : 0 ≤ x ∧ x ≤ 255) (hy : 1 ≤ y) : Val P μ l L ⟨ds, .binOp .quo t p q t2, ty, pos, af, gd⟩ (.int .u8 (x / y)) := by
  have h := v_quo (P := P) (μ := μ) (L := L) (ds := ds) (ty := ty) (pos := pos) (af := af) (gd := gd) (t := t) (t2 := t2) hx0 hx1 (by omega)
  have h1 : 0 ≤ x / y := Int.ediv_nonneg hx.1 (by omega)
  have h2 : x / y ≤ x := Int.ediv_le_self y hx.1
  rw [Int.tdiv_eq_ediv_of_nonneg hx.1, wrap_u8 (by omega)] at h
  exact h
theorem v_rem8 {p q : Operand} {t t2 : TypeId} {x y : Int} (hx0 : ev l p = some (.int .u8 x)) (hx1 : ev l q = some (.int .u8 y)) (hx : 0 ≤ x ∧ x ≤ 255) (hy : 1 ≤ y) : Val P μ l L ⟨ds, .binOp .rem t p q t2, ty, pos, af, gd⟩ (.int .u8 (x % y)) := by
  have h := v_rem (P := P) (μ := μ) (L := L) (ds := ds) (ty := ty) (pos := pos) (af := af) (gd := gd) (t := t) (t2 := t2) hx0 hx1 (by omega)
  rw [Int.tmod_eq_emod_of_nonneg hx.1] at h
  exact h
theorem run_boundU8 {k : Nat} {y : Nat} {c : BoundsCode} (h : k ≤ y) (w : World) : (Instr.sliceBound (.int .u8 (k : Int)) y c).run P w = .ok k w := by
  have : (0 : Int) ≤ k ∧ (k : Int) ≤ y := by omega
  simp [Instr.sliceBound, asIntOf, this]
theorem v_str_both8 {p q r : Operand} {t : TypeId} {b : ByteArray} {j i : Int} {ds : Option Nat} (k m : Nat) (ht : P.underlying t = some .string) (hx : ev l p = some (.string b)) (hq : ev l q = some (.int .u8 j)) (hj : j = (k : Int)) (hr' : ev l r = some (.int .u8 i)) (hi : i = (m : Int)) (hk : k ≤ m) (hm : m ≤ b.size) :
    Val P μ l L ⟨ds, .slice t p (some q) (some r) none, ty, pos, af, gd⟩ (.string (b.extract k m)) := fun a w hr => by
  have e0 := hr.eval hx
  have e1 := hr.eval hq
  have e2 := hr.eval hr'
  generalize a.eval = ρ at e0 e1 e2
  subst hj hi
  simp [execOp, e0, e1, e2, Instr.sliceAt, Instr.slice, run_underlying ht, Instr.sliceBounds, run_boundU8 hk, run_boundU8 hm]
end
end Go.Vcg
namespace Go.Proofs.YtmihpkdhfomcgaaGreatDoor
open Go.RowKit Go.Vcg Ou
def hexI (c : UInt8) : Int := match hexV c with
  | some d => d
  | none => -1
def rOneV (n k : Nat) (r : Except Int (UInt8 × List UInt8)) : List Value := match r with
  | .ok (b, u) => [.int .u8 b.toNat, .int .i64 ((n - u.length : Nat) - (k : Int)), .int .i64 0]
  | .error e => [.int .u8 0, .int .i64 0, .int .i64 e]
attribute [local irreducible] G GC GQ GA GAop Calls IntKind.wrap Int.decLt Int.decLe
theorem rhex_spec (x : Int) (c : UInt8) (hx : x = c.toNat) (w : World) (μ : Mem) (hμ : MOk μ w) : Calls Tryz.prog 88 #[.int .u8 x] w fun e w' => e = .returned (.int .i64 (hexI c)) ∧ Below w.heap.size w w' := by
  subst hx
  have hc := c.toNat_lt
  refine call_intro (args := [.int .u8 c.toNat]) Tryz.func88 rfl Tryz.ntmps88 (by simp) hμ ?_
  have h0 : hexI c = if 48 ≤ c.toNat ∧ c.toNat ≤ 57 then (c.toNat : Int) - 48 else if 97 ≤ c.toNat ∧ c.toNat ≤ 102 then (c.toNat : Int) - 87 else if 65 ≤ c.toNat ∧ c.toNat ≤ 70 then (c.toNat : Int) - 55 else -1 := by
    unfold hexI hexV
    by_cases h1 : 48 ≤ c.toNat ∧ c.toNat ≤ 57
    · rw [if_pos h1, if_pos h1]; dsimp only; omega
    rw [if_neg h1, if_neg h1]
    by_cases h2 : 97 ≤ c.toNat ∧ c.toNat ≤ 102
    · rw [if_pos h2, if_pos h2]; dsimp only; omega
    rw [if_neg h2, if_neg h2]
    by_cases h3 : 65 ≤ c.toNat ∧ c.toNat ≤ 70
    · rw [if_pos h3, if_pos h3]; dsimp only; omega
    rw [if_neg h3, if_neg h3]
  rw [h0]
  by_cases h1 : 48 ≤ c.toNat ∧ c.toNat ≤ 57
  · rw [if_pos h1]
    repeat' (first | refine KK ?_ | ((refine KB ?_ ?_ <;> intro hp)) | refine KG ?_ | fail)
    all_goals first | (exfalso; omega) | exact ret_s rfl rfl rfl
  rw [if_neg h1]
  by_cases h2 : 97 ≤ c.toNat ∧ c.toNat ≤ 102
  · rw [if_pos h2]
    repeat' (first | refine KK ?_ | ((refine KB ?_ ?_ <;> intro hp)) | refine KG ?_ | fail)
    all_goals first | (exfalso; omega) | exact ret_s rfl rfl rfl
  rw [if_neg h2]
  by_cases h3 : 65 ≤ c.toNat ∧ c.toNat ≤ 70
  · rw [if_pos h3]
    repeat' (first | refine KK ?_ | ((refine KB ?_ ?_ <;> intro hp)) | refine KG ?_ | fail)
    all_goals first | (exfalso; omega) | exact ret_s rfl rfl rfl
  rw [if_neg h3]
  repeat' (first | refine KK ?_ | ((refine KB ?_ ?_ <;> intro hp)) | refine KG ?_ | fail)
  all_goals first | (exfalso; omega) | exact ret_s rfl rfl rfl
theorem rhex_some {x : Int} {c : UInt8} {d : Nat} (hx : x = c.toNat) (h : hexV c = some d) (w : World) (μ : Mem) (hμ : MOk μ w) : Calls Tryz.prog 88 #[.int .u8 x] w fun e w' => e = .returned (.int .i64 d) ∧ Below w.heap.size w w' := by
  have := rhex_spec x c hx w μ hμ
  unfold hexI at this
  rw [h] at this
  exact this
theorem rhex_none {x : Int} {c : UInt8} (hx : x = c.toNat) (h : hexV c = none) (w : World) (μ : Mem) (hμ : MOk μ w) : Calls Tryz.prog 88 #[.int .u8 x] w fun e w' => e = .returned (.int .i64 (-1)) ∧ Below w.heap.size w w' := by
  have := rhex_spec x c hx w μ hμ
  unfold hexI at this
  rw [h] at this
  exact this
theorem rone_spec (s : ByteArray) (hs : s.size ≤ 1000000) (k : Nat) (hk : k < s.size) (w : World) (μ : Mem) (hμ : MOk μ w) :
    Calls Tryz.prog 71 #[.string s, .int .i64 k] w fun e w' => e = .returned (.tuple (rOneV s.size k (escB ((bl s).drop (k + 1)))).toArray) ∧ Below w.heap.size w w' := by
  refine call_intro (args := [.string s, .int .i64 k]) Tryz.func71 rfl Tryz.ntmps71 (by simp) hμ ?_
  by_cases h0 : k + 1 < s.size
  · obtain ⟨c, hb1, hb2⟩ := bl_at h0
    rw [drop_c hb1]
    have hn : ∀ n : UInt8, (c = n) = (c.toNat = n.toNat) := fun n => propext UInt8.toNat_inj.symm
    have hq : escB (c :: (bl s).drop (k + 1 + 1)) = if c.toNat = 110 then .ok (10, (bl s).drop (k + 1 + 1)) else if c.toNat = 116 then .ok (9, (bl s).drop (k + 1 + 1)) else if c.toNat = 114 then .ok (13, (bl s).drop (k + 1 + 1)) else if c.toNat = 48 then .ok (0, (bl s).drop (k + 1 + 1))
        else if c.toNat = 92 ∨ c.toNat = 39 ∨ c.toNat = 34 ∨ c.toNat = 96 ∨ c.toNat = 36 then .ok (c, (bl s).drop (k + 1 + 1)) else if c.toNat = 120 then hex2 ((bl s).drop (k + 1 + 1)) else .error 21 := by
      unfold escB
      simp only [hn]
      rfl
    have hE : ∀ b : UInt8, rOneV s.size k (.ok (b, (bl s).drop (k + 1 + 1))) = [.int .u8 b.toNat, .int .i64 2, .int .i64 0] := fun b => by
      unfold rOneV
      dsimp only
      rw [drop_n, show ((s.size - (s.size - (k + 1 + 1)) : Nat) : Int) - (k : Int) = 2 by omega]
    rw [hq]
    by_cases h110 : c.toNat = 110
    · rw [if_pos h110, hE]
      repeat' (first | refine KO ?_ | (refine KV (b := by first | exact U2 (k + 1)) (c := ?_)) | refine KI ?_ | ((refine KB ?_ ?_ <;> intro hp)) | refine KG ?_ | fail)
      all_goals first | (exfalso; omega) | exact ret_vn rfl (by repeat first | exact rvs_nil | refine rvs_cons (by first | exact rv_tmp rfl | exact (rv_agg 0 rfl rfl rfl rfl rfl (by repeat first | exact lc_nil | refine lc_cons rfl ?_)) | exact (rv_agg 1 rfl rfl rfl rfl rfl (by repeat first | exact lc_nil | refine lc_cons rfl ?_)) | exact (rv_agg 2 rfl rfl rfl rfl rfl (by repeat first | exact lc_nil | refine lc_cons rfl ?_)) | exact (rv_agg 3 rfl rfl rfl rfl rfl (by repeat first | exact lc_nil | refine lc_cons rfl ?_))) ?_) rfl rfl | (refine ret_vn rfl (by repeat first | exact rvs_nil | refine rvs_cons (by first | exact rv_tmp rfl | exact (rv_agg 0 rfl rfl rfl rfl rfl (by repeat first | exact lc_nil | refine lc_cons rfl ?_)) | exact (rv_agg 1 rfl rfl rfl rfl rfl (by repeat first | exact lc_nil | refine lc_cons rfl ?_)) | exact (rv_agg 2 rfl rfl rfl rfl rfl (by repeat first | exact lc_nil | refine lc_cons rfl ?_)) | exact (rv_agg 3 rfl rfl rfl rfl rfl (by repeat first | exact lc_nil | refine lc_cons rfl ?_))) ?_) rfl ?_; rw [← hb2])
    rw [if_neg h110]
    by_cases h116 : c.toNat = 116
    · rw [if_pos h116, hE]
      repeat' (first | refine KO ?_ | (refine KV (b := by first | exact U2 (k + 1)) (c := ?_)) | refine KI ?_ | ((refine KB ?_ ?_ <;> intro hp)) | refine KG ?_ | fail)
      all_goals first | (exfalso; omega) | exact ret_vn rfl (by repeat first | exact rvs_nil | refine rvs_cons (by first | exact rv_tmp rfl | exact (rv_agg 0 rfl rfl rfl rfl rfl (by repeat first | exact lc_nil | refine lc_cons rfl ?_)) | exact (rv_agg 1 rfl rfl rfl rfl rfl (by repeat first | exact lc_nil | refine lc_cons rfl ?_)) | exact (rv_agg 2 rfl rfl rfl rfl rfl (by repeat first | exact lc_nil | refine lc_cons rfl ?_)) | exact (rv_agg 3 rfl rfl rfl rfl rfl (by repeat first | exact lc_nil | refine lc_cons rfl ?_))) ?_) rfl rfl | (refine ret_vn rfl (by repeat first | exact rvs_nil | refine rvs_cons (by first | exact rv_tmp rfl | exact (rv_agg 0 rfl rfl rfl rfl rfl (by repeat first | exact lc_nil | refine lc_cons rfl ?_)) | exact (rv_agg 1 rfl rfl rfl rfl rfl (by repeat first | exact lc_nil | refine lc_cons rfl ?_)) | exact (rv_agg 2 rfl rfl rfl rfl rfl (by repeat first | exact lc_nil | refine lc_cons rfl ?_)) | exact (rv_agg 3 rfl rfl rfl rfl rfl (by repeat first | exact lc_nil | refine lc_cons rfl ?_))) ?_) rfl ?_; rw [← hb2])
    rw [if_neg h116]
    by_cases h114 : c.toNat = 114
    · rw [if_pos h114, hE]
      repeat' (first | refine KO ?_ | (refine KV (b := by first | exact U2 (k + 1)) (c := ?_)) | refine KI ?_ | ((refine KB ?_ ?_ <;> intro hp)) | refine KG ?_ | fail)
      all_goals first | (exfalso; omega) | exact ret_vn rfl (by repeat first | exact rvs_nil | refine rvs_cons (by first | exact rv_tmp rfl | exact (rv_agg 0 rfl rfl rfl rfl rfl (by repeat first | exact lc_nil | refine lc_cons rfl ?_)) | exact (rv_agg 1 rfl rfl rfl rfl rfl (by repeat first | exact lc_nil | refine lc_cons rfl ?_)) | exact (rv_agg 2 rfl rfl rfl rfl rfl (by repeat first | exact lc_nil | refine lc_cons rfl ?_)) | exact (rv_agg 3 rfl rfl rfl rfl rfl (by repeat first | exact lc_nil | refine lc_cons rfl ?_))) ?_) rfl rfl | (refine ret_vn rfl (by repeat first | exact rvs_nil | refine rvs_cons (by first | exact rv_tmp rfl | exact (rv_agg 0 rfl rfl rfl rfl rfl (by repeat first | exact lc_nil | refine lc_cons rfl ?_)) | exact (rv_agg 1 rfl rfl rfl rfl rfl (by repeat first | exact lc_nil | refine lc_cons rfl ?_)) | exact (rv_agg 2 rfl rfl rfl rfl rfl (by repeat first | exact lc_nil | refine lc_cons rfl ?_)) | exact (rv_agg 3 rfl rfl rfl rfl rfl (by repeat first | exact lc_nil | refine lc_cons rfl ?_))) ?_) rfl ?_; rw [← hb2])
    rw [if_neg h114]
    by_cases h48 : c.toNat = 48
    · rw [if_pos h48, hE]
      repeat' (first | refine KO ?_ | (refine KV (b := by first | exact U2 (k + 1)) (c := ?_)) | refine KI ?_ | ((refine KB ?_ ?_ <;> intro hp)) | refine KG ?_ | fail)
      all_goals first | (exfalso; omega) | exact ret_vn rfl (by repeat first | exact rvs_nil | refine rvs_cons (by first | exact rv_tmp rfl | exact (rv_agg 0 rfl rfl rfl rfl rfl (by repeat first | exact lc_nil | refine lc_cons rfl ?_)) | exact (rv_agg 1 rfl rfl rfl rfl rfl (by repeat first | exact lc_nil | refine lc_cons rfl ?_)) | exact (rv_agg 2 rfl rfl rfl rfl rfl (by repeat first | exact lc_nil | refine lc_cons rfl ?_)) | exact (rv_agg 3 rfl rfl rfl rfl rfl (by repeat first | exact lc_nil | refine lc_cons rfl ?_))) ?_) rfl rfl | (refine ret_vn rfl (by repeat first | exact rvs_nil | refine rvs_cons (by first | exact rv_tmp rfl | exact (rv_agg 0 rfl rfl rfl rfl rfl (by repeat first | exact lc_nil | refine lc_cons rfl ?_)) | exact (rv_agg 1 rfl rfl rfl rfl rfl (by repeat first | exact lc_nil | refine lc_cons rfl ?_)) | exact (rv_agg 2 rfl rfl rfl rfl rfl (by repeat first | exact lc_nil | refine lc_cons rfl ?_)) | exact (rv_agg 3 rfl rfl rfl rfl rfl (by repeat first | exact lc_nil | refine lc_cons rfl ?_))) ?_) rfl ?_; rw [← hb2])
    rw [if_neg h48]
    by_cases hc : c.toNat = 92 ∨ c.toNat = 39 ∨ c.toNat = 34 ∨ c.toNat = 96 ∨ c.toNat = 36
    · rw [if_pos hc, hE, ← hb2]
      rcases hc with hc | hc | hc | hc | hc
      all_goals
        repeat' (first | refine KO ?_ | (refine KV (b := by first | exact U2 (k + 1)) (c := ?_)) | refine KI ?_ | ((refine KB ?_ ?_ <;> intro hp)) | refine KG ?_ | fail)
        all_goals first | (exfalso; omega) | exact ret_vn rfl (by repeat first | exact rvs_nil | refine rvs_cons (by first | exact rv_tmp rfl | exact (rv_agg 0 rfl rfl rfl rfl rfl (by repeat first | exact lc_nil | refine lc_cons rfl ?_)) | exact (rv_agg 1 rfl rfl rfl rfl rfl (by repeat first | exact lc_nil | refine lc_cons rfl ?_)) | exact (rv_agg 2 rfl rfl rfl rfl rfl (by repeat first | exact lc_nil | refine lc_cons rfl ?_)) | exact (rv_agg 3 rfl rfl rfl rfl rfl (by repeat first | exact lc_nil | refine lc_cons rfl ?_))) ?_) rfl rfl | (refine ret_vn rfl (by repeat first | exact rvs_nil | refine rvs_cons (by first | exact rv_tmp rfl | exact (rv_agg 0 rfl rfl rfl rfl rfl (by repeat first | exact lc_nil | refine lc_cons rfl ?_)) | exact (rv_agg 1 rfl rfl rfl rfl rfl (by repeat first | exact lc_nil | refine lc_cons rfl ?_)) | exact (rv_agg 2 rfl rfl rfl rfl rfl (by repeat first | exact lc_nil | refine lc_cons rfl ?_)) | exact (rv_agg 3 rfl rfl rfl rfl rfl (by repeat first | exact lc_nil | refine lc_cons rfl ?_))) ?_) rfl ?_; rw [← hb2])
    rw [if_neg hc]
    by_cases h120 : c.toNat = 120
    rotate_left
    · rw [if_neg h120]
      repeat' (first | refine KO ?_ | (refine KV (b := by first | exact U2 (k + 1)) (c := ?_)) | refine KI ?_ | ((refine KB ?_ ?_ <;> intro hp)) | refine KG ?_ | fail)
      all_goals first | (exfalso; omega) | exact ret_vn rfl (by repeat first | exact rvs_nil | refine rvs_cons (by first | exact rv_tmp rfl | exact (rv_agg 0 rfl rfl rfl rfl rfl (by repeat first | exact lc_nil | refine lc_cons rfl ?_)) | exact (rv_agg 1 rfl rfl rfl rfl rfl (by repeat first | exact lc_nil | refine lc_cons rfl ?_)) | exact (rv_agg 2 rfl rfl rfl rfl rfl (by repeat first | exact lc_nil | refine lc_cons rfl ?_)) | exact (rv_agg 3 rfl rfl rfl rfl rfl (by repeat first | exact lc_nil | refine lc_cons rfl ?_))) ?_) rfl rfl | (refine ret_vn rfl (by repeat first | exact rvs_nil | refine rvs_cons (by first | exact rv_tmp rfl | exact (rv_agg 0 rfl rfl rfl rfl rfl (by repeat first | exact lc_nil | refine lc_cons rfl ?_)) | exact (rv_agg 1 rfl rfl rfl rfl rfl (by repeat first | exact lc_nil | refine lc_cons rfl ?_)) | exact (rv_agg 2 rfl rfl rfl rfl rfl (by repeat first | exact lc_nil | refine lc_cons rfl ?_)) | exact (rv_agg 3 rfl rfl rfl rfl rfl (by repeat first | exact lc_nil | refine lc_cons rfl ?_))) ?_) rfl ?_; rw [← hb2])
    rw [if_pos h120]
    by_cases h2 : k + 2 < s.size
    rotate_left
    · rw [show (bl s).drop (k + 1 + 1) = [] from List.drop_eq_nil_of_le (by rw [bl_len]; omega)]
      repeat' (first | (with_reducible apply gq_round) | refine KO ?_ | (refine KV (b := by first | exact U2 (k + 1)) (c := ?_)) | refine KI ?_ | ((refine KB ?_ ?_ <;> intro hp)) | refine KG ?_ | fail)
      refine gc_rounds 2 ?_
      repeat' (first | (with_reducible apply gq_round) | refine KO ?_ | (refine KV (b := by first | exact U2 (k + 1)) (c := ?_)) | refine KI ?_ | ((refine KB ?_ ?_ <;> intro hp)) | refine KG ?_ | fail)
      all_goals first | (exfalso; omega) | exact ret_vn rfl (by repeat first | exact rvs_nil | refine rvs_cons (by first | exact rv_tmp rfl | exact (rv_agg 0 rfl rfl rfl rfl rfl (by repeat first | exact lc_nil | refine lc_cons rfl ?_)) | exact (rv_agg 1 rfl rfl rfl rfl rfl (by repeat first | exact lc_nil | refine lc_cons rfl ?_)) | exact (rv_agg 2 rfl rfl rfl rfl rfl (by repeat first | exact lc_nil | refine lc_cons rfl ?_)) | exact (rv_agg 3 rfl rfl rfl rfl rfl (by repeat first | exact lc_nil | refine lc_cons rfl ?_))) ?_) rfl rfl | (refine ret_vn rfl (by repeat first | exact rvs_nil | refine rvs_cons (by first | exact rv_tmp rfl | exact (rv_agg 0 rfl rfl rfl rfl rfl (by repeat first | exact lc_nil | refine lc_cons rfl ?_)) | exact (rv_agg 1 rfl rfl rfl rfl rfl (by repeat first | exact lc_nil | refine lc_cons rfl ?_)) | exact (rv_agg 2 rfl rfl rfl rfl rfl (by repeat first | exact lc_nil | refine lc_cons rfl ?_)) | exact (rv_agg 3 rfl rfl rfl rfl rfl (by repeat first | exact lc_nil | refine lc_cons rfl ?_))) ?_) rfl ?_; rw [← hb2])
    obtain ⟨g, hg1, hg2⟩ := bl_at h2
    rw [drop_c hg1]
    unfold hex2
    dsimp only
    cases hg : hexV g with
    | none =>
      dsimp only
      repeat' (first | (with_reducible apply gq_round) | refine KO ?_ | ((with_reducible apply F1 88); exact rfl; exact EN; (exact fun w μc hw hse => rhex_none hg2 hg w μc hw)) | (refine KV (b := by first | exact U2 (k + 1) | exact U2 (k + 2)) (c := ?_)) | refine KI ?_ | ((refine KB ?_ ?_ <;> intro hp)) | refine KG ?_ | fail)
      refine gc_rounds 2 ?_
      repeat' (first | (with_reducible apply gq_round) | refine KO ?_ | ((with_reducible apply F1 88); exact rfl; exact EN; (exact fun w μc hw hse => rhex_none hg2 hg w μc hw)) | (refine KV (b := by first | exact U2 (k + 1) | exact U2 (k + 2)) (c := ?_)) | refine KI ?_ | ((refine KB ?_ ?_ <;> intro hp)) | refine KG ?_ | fail)
      all_goals first | (exfalso; omega) | exact ret_vn rfl (by repeat first | exact rvs_nil | refine rvs_cons (by first | exact rv_tmp rfl | exact (rv_agg 0 rfl rfl rfl rfl rfl (by repeat first | exact lc_nil | refine lc_cons rfl ?_)) | exact (rv_agg 1 rfl rfl rfl rfl rfl (by repeat first | exact lc_nil | refine lc_cons rfl ?_)) | exact (rv_agg 2 rfl rfl rfl rfl rfl (by repeat first | exact lc_nil | refine lc_cons rfl ?_)) | exact (rv_agg 3 rfl rfl rfl rfl rfl (by repeat first | exact lc_nil | refine lc_cons rfl ?_))) ?_) rfl rfl | (refine ret_vn rfl (by repeat first | exact rvs_nil | refine rvs_cons (by first | exact rv_tmp rfl | exact (rv_agg 0 rfl rfl rfl rfl rfl (by repeat first | exact lc_nil | refine lc_cons rfl ?_)) | exact (rv_agg 1 rfl rfl rfl rfl rfl (by repeat first | exact lc_nil | refine lc_cons rfl ?_)) | exact (rv_agg 2 rfl rfl rfl rfl rfl (by repeat first | exact lc_nil | refine lc_cons rfl ?_)) | exact (rv_agg 3 rfl rfl rfl rfl rfl (by repeat first | exact lc_nil | refine lc_cons rfl ?_))) ?_) rfl ?_; rw [← hb2])
    | some x =>
      have hx := hexV_le hg
      dsimp only
      by_cases h3 : k + 3 < s.size
      rotate_left
      · rw [show (bl s).drop (k + 2 + 1) = [] from List.drop_eq_nil_of_le (by rw [bl_len]; omega)]
        dsimp only
        repeat' (first | (with_reducible apply gq_round) | refine KO ?_ | ((with_reducible apply F1 88); exact rfl; exact EN; (exact fun w μc hw hse => rhex_some hg2 hg w μc hw)) | (refine KV (b := by first | exact U2 (k + 1) | exact U2 (k + 2)) (c := ?_)) | refine KI ?_ | ((refine KB ?_ ?_ <;> intro hp)) | refine KG ?_ | fail)
        refine gc_rounds 2 ?_
        repeat' (first | (with_reducible apply gq_round) | refine KO ?_ | ((with_reducible apply F1 88); exact rfl; exact EN; (exact fun w μc hw hse => rhex_some hg2 hg w μc hw)) | (refine KV (b := by first | exact U2 (k + 1) | exact U2 (k + 2)) (c := ?_)) | refine KI ?_ | ((refine KB ?_ ?_ <;> intro hp)) | refine KG ?_ | fail)
        all_goals first | (exfalso; omega) | exact ret_vn rfl (by repeat first | exact rvs_nil | refine rvs_cons (by first | exact rv_tmp rfl | exact (rv_agg 0 rfl rfl rfl rfl rfl (by repeat first | exact lc_nil | refine lc_cons rfl ?_)) | exact (rv_agg 1 rfl rfl rfl rfl rfl (by repeat first | exact lc_nil | refine lc_cons rfl ?_)) | exact (rv_agg 2 rfl rfl rfl rfl rfl (by repeat first | exact lc_nil | refine lc_cons rfl ?_)) | exact (rv_agg 3 rfl rfl rfl rfl rfl (by repeat first | exact lc_nil | refine lc_cons rfl ?_))) ?_) rfl rfl | (refine ret_vn rfl (by repeat first | exact rvs_nil | refine rvs_cons (by first | exact rv_tmp rfl | exact (rv_agg 0 rfl rfl rfl rfl rfl (by repeat first | exact lc_nil | refine lc_cons rfl ?_)) | exact (rv_agg 1 rfl rfl rfl rfl rfl (by repeat first | exact lc_nil | refine lc_cons rfl ?_)) | exact (rv_agg 2 rfl rfl rfl rfl rfl (by repeat first | exact lc_nil | refine lc_cons rfl ?_)) | exact (rv_agg 3 rfl rfl rfl rfl rfl (by repeat first | exact lc_nil | refine lc_cons rfl ?_))) ?_) rfl ?_; rw [← hb2])
      obtain ⟨f, hf1, hf2⟩ := bl_at h3
      rw [drop_c hf1]
      dsimp only
      cases hf : hexV f with
      | none =>
        dsimp only
        repeat' (first | (with_reducible apply gq_round) | refine KO ?_ | ((with_reducible apply F1 88); exact rfl; exact EN; first | (exact fun w μc hw hse => rhex_some hg2 hg w μc hw) | (exact fun w μc hw hse => rhex_none hf2 hf w μc hw)) | (refine KV (b := by first | exact U2 (k + 1) | exact U2 (k + 2) | exact U2 (k + 3)) (c := ?_)) | refine KI ?_ | ((refine KB ?_ ?_ <;> intro hp)) | refine KG ?_ | fail)
        refine gc_rounds 2 ?_
        repeat' (first | (with_reducible apply gq_round) | refine KO ?_ | ((with_reducible apply F1 88); exact rfl; exact EN; first | (exact fun w μc hw hse => rhex_some hg2 hg w μc hw) | (exact fun w μc hw hse => rhex_none hf2 hf w μc hw)) | (refine KV (b := by first | exact U2 (k + 1) | exact U2 (k + 2) | exact U2 (k + 3)) (c := ?_)) | refine KI ?_ | ((refine KB ?_ ?_ <;> intro hp)) | refine KG ?_ | fail)
        all_goals first | (exfalso; omega) | exact ret_vn rfl (by repeat first | exact rvs_nil | refine rvs_cons (by first | exact rv_tmp rfl | exact (rv_agg 0 rfl rfl rfl rfl rfl (by repeat first | exact lc_nil | refine lc_cons rfl ?_)) | exact (rv_agg 1 rfl rfl rfl rfl rfl (by repeat first | exact lc_nil | refine lc_cons rfl ?_)) | exact (rv_agg 2 rfl rfl rfl rfl rfl (by repeat first | exact lc_nil | refine lc_cons rfl ?_)) | exact (rv_agg 3 rfl rfl rfl rfl rfl (by repeat first | exact lc_nil | refine lc_cons rfl ?_))) ?_) rfl rfl | (refine ret_vn rfl (by repeat first | exact rvs_nil | refine rvs_cons (by first | exact rv_tmp rfl | exact (rv_agg 0 rfl rfl rfl rfl rfl (by repeat first | exact lc_nil | refine lc_cons rfl ?_)) | exact (rv_agg 1 rfl rfl rfl rfl rfl (by repeat first | exact lc_nil | refine lc_cons rfl ?_)) | exact (rv_agg 2 rfl rfl rfl rfl rfl (by repeat first | exact lc_nil | refine lc_cons rfl ?_)) | exact (rv_agg 3 rfl rfl rfl rfl rfl (by repeat first | exact lc_nil | refine lc_cons rfl ?_))) ?_) rfl ?_; rw [← hb2])
      | some y =>
        have hy := hexV_le hf
        have hE2 : rOneV s.size k (.ok (UInt8.ofNat (16 * x + y), (bl s).drop (k + 3 + 1))) = [.int .u8 (16 * (16 * 0 + (x : Int)) + y), .int .i64 4, .int .i64 0] := by
          unfold rOneV
          dsimp only
          rw [drop_n, UInt8.toNat_ofNat', show (((16 * x + y) % 2 ^ 8 : Nat) : Int) = 16 * (16 * 0 + (x : Int)) + y by omega, show ((s.size - (s.size - (k + 3 + 1)) : Nat) : Int) - (k : Int) = 4 by omega]
        dsimp only
        rw [hE2]
        repeat' (first | (with_reducible apply gq_round) | refine KO ?_ | ((with_reducible apply F1 88); exact rfl; exact EN; first | (exact fun w μc hw hse => rhex_some hg2 hg w μc hw) | (exact fun w μc hw hse => rhex_some hf2 hf w μc hw)) | (refine KV (b := by first | exact U2 (k + 1) | exact U2 (k + 2) | exact U2 (k + 3) | ((with_reducible apply v_conv_u8); exact rfl; exact rfl; exact rfl; omega)) (c := ?_)) | refine KI ?_ | ((refine KB ?_ ?_ <;> intro hp)) | refine KG ?_ | fail)
        refine gc_rounds 2 ?_
        repeat' (first | (with_reducible apply gq_round) | refine KO ?_ | ((with_reducible apply F1 88); exact rfl; exact EN; first | (exact fun w μc hw hse => rhex_some hg2 hg w μc hw) | (exact fun w μc hw hse => rhex_some hf2 hf w μc hw)) | (refine KV (b := by first | exact U2 (k + 1) | exact U2 (k + 2) | exact U2 (k + 3) | ((with_reducible apply v_conv_u8); exact rfl; exact rfl; exact rfl; omega)) (c := ?_)) | refine KI ?_ | ((refine KB ?_ ?_ <;> intro hp)) | refine KG ?_ | fail)
        all_goals first | (exfalso; omega) | exact ret_vn rfl (by repeat first | exact rvs_nil | refine rvs_cons (by first | exact rv_tmp rfl | exact (rv_agg 0 rfl rfl rfl rfl rfl (by repeat first | exact lc_nil | refine lc_cons rfl ?_)) | exact (rv_agg 1 rfl rfl rfl rfl rfl (by repeat first | exact lc_nil | refine lc_cons rfl ?_)) | exact (rv_agg 2 rfl rfl rfl rfl rfl (by repeat first | exact lc_nil | refine lc_cons rfl ?_)) | exact (rv_agg 3 rfl rfl rfl rfl rfl (by repeat first | exact lc_nil | refine lc_cons rfl ?_))) ?_) rfl rfl | (refine ret_vn rfl (by repeat first | exact rvs_nil | refine rvs_cons (by first | exact rv_tmp rfl | exact (rv_agg 0 rfl rfl rfl rfl rfl (by repeat first | exact lc_nil | refine lc_cons rfl ?_)) | exact (rv_agg 1 rfl rfl rfl rfl rfl (by repeat first | exact lc_nil | refine lc_cons rfl ?_)) | exact (rv_agg 2 rfl rfl rfl rfl rfl (by repeat first | exact lc_nil | refine lc_cons rfl ?_)) | exact (rv_agg 3 rfl rfl rfl rfl rfl (by repeat first | exact lc_nil | refine lc_cons rfl ?_))) ?_) rfl ?_; rw [← hb2])
  · have hd : (bl s).drop (k + 1) = [] := List.drop_eq_nil_of_le (by rw [bl_len]; omega)
    rw [hd]
    repeat' (first | refine KK ?_ | ((refine KB ?_ ?_ <;> intro hp)) | refine KG ?_ | fail)
    all_goals first | (exfalso; omega) | exact ret_vn rfl (by repeat first | exact rvs_nil | refine rvs_cons (by first | exact rv_tmp rfl | exact (rv_agg 0 rfl rfl rfl rfl rfl (by repeat first | exact lc_nil | refine lc_cons rfl ?_)) | exact (rv_agg 1 rfl rfl rfl rfl rfl (by repeat first | exact lc_nil | refine lc_cons rfl ?_)) | exact (rv_agg 2 rfl rfl rfl rfl rfl (by repeat first | exact lc_nil | refine lc_cons rfl ?_)) | exact (rv_agg 3 rfl rfl rfl rfl rfl (by repeat first | exact lc_nil | refine lc_cons rfl ?_))) ?_) rfl rfl | (refine ret_vn rfl (by repeat first | exact rvs_nil | refine rvs_cons (by first | exact rv_tmp rfl | exact (rv_agg 0 rfl rfl rfl rfl rfl (by repeat first | exact lc_nil | refine lc_cons rfl ?_)) | exact (rv_agg 1 rfl rfl rfl rfl rfl (by repeat first | exact lc_nil | refine lc_cons rfl ?_)) | exact (rv_agg 2 rfl rfl rfl rfl rfl (by repeat first | exact lc_nil | refine lc_cons rfl ?_)) | exact (rv_agg 3 rfl rfl rfl rfl rfl (by repeat first | exact lc_nil | refine lc_cons rfl ?_))) ?_) rfl ?_; rw [← hb2])
end Go.Proofs.YtmihpkdhfomcgaaGreatDoor
namespace Go.Proofs.YtmihpkdhfomcgaaGreatDoor
open Go.RowKit Go.Vcg Ou
open Go.Lib (byteCells)
attribute [local irreducible] G GC GQ GA GAop Calls IntKind.wrap Int.decLt Int.decLe
theorem rread_spec (s : ByteArray) (hs : s.size ≤ 1000000) (k : Nat) (hk0 : k ≤ 2000000) (w : World) (μ : Mem) (hμ : MOk μ w) :
    Calls Tryz.prog 53 #[.string s, .int .i64 k] w fun e w' => e = .returned (.tuple (readV s.size (readL ((bl s).drop k))).toArray) ∧ Below w.heap.size w w' := by
  refine call_intro (args := [.string s, .int .i64 k]) Tryz.func53 rfl Tryz.ntmps53 (by simp) hμ ?_
  by_cases h0 : k < s.size
  · obtain ⟨q, hq1, hq2⟩ := bl_at h0
    have hl : (bl s).drop k = q :: (bl s).drop (k + 1) := drop_c hq1
    by_cases hq : q.toNat = 34 ∨ q.toNat = 39
    · have hq' : q = 34 ∨ q = 39 := hq.imp (fun h => UInt8.toNat_inj.1 h) (fun h => UInt8.toNat_inj.1 h)
      obtain ⟨res, hres⟩ : ∃ res, readL ((bl s).drop k) = res := ⟨_, rfl⟩
      rw [hres]
      rw [hl] at hres
      unfold readL at hres
      dsimp only at hres
      rw [if_pos hq'] at hres
      have hqq : bAt s k = 34 ∨ bAt s k = 39 := by rw [hq2]; omega
      rcases hqq with hq3 | hq3
      all_goals
        repeat' (first | refine KO ?_ | (refine KV (b := by first | exact U2 k) (c := ?_)) | refine KI ?_ | refine NB fun b => ?_ | ((refine KB ?_ ?_ <;> intro hp)) | refine KG ?_ | fail)
        all_goals try (exfalso; omega)
        refine gc_nilR 5 1 ?_
        refine gc_loop (ι := Nat × List UInt8 × Value) (fun i => k + 1 ≤ i.1 ∧ i.1 ≤ s.size ∧ i.2.1.length ≤ 65536 ∧ litB q (((bl s).drop i.1).length + 1) ((bl s).drop i.1) i.2.1 = res) (fun i => s.size - i.1) (fun _ => μ)
          (fun i => [(0, .string s), (1, .int .i64 k), (7, i.2.2), (8, .int .i64 i.1)]) (fun i => [.inr ⟨i.2.2, 5, 1, i.2.1.length, byteCells i.2.1⟩]) (k + 1, [], .slice none 0 0) ⟨Nat.le_refl _, h0, by simp, hres⟩ (fun a w hs => J5 hs) ?_
        rintro ⟨i, out, v⟩ ⟨h1, h2, h3, hrun⟩
        dsimp only at h1 h2 h3 hrun ⊢
        by_cases hlt : i < s.size
        · obtain ⟨c, hb1, hb2⟩ := bl_at hlt
          have hone := fun (w : World) (μ : Mem) (hμ : MOk μ w) => rone_spec s hs i hlt w μ hμ
          have hdl := drop_n s (i + 1)
          rw [drop_c hb1, litB] at hrun
          refine gc_rowOk 0 rfl ?_
          rintro A cap rfl hok
          repeat' (first | refine KK ?_ | refine NB fun b => ?_ | ((refine KB ?_ ?_ <;> intro hp)) | refine KG ?_ | fail)
          all_goals try (exfalso; omega)
          refine gc_draw 7 _ (by kernel_rfl) rfl (List.Sublist.cons_cons _ (List.nil_sublist _)) ?_
          all_goals refine DD 0 ?_
          all_goals refine DD 1 ?_
          all_goals (first | refine D1 2 ?_ | (refine DV (k := 2) (b := by first | exact U2 i | exact U2 k) (c := ?_)) | refine DD 2 ?_ | fail)
          all_goals refine DD 3 ?_
          all_goals refine DD 4 ?_
          all_goals (first | refine D1 5 ?_ | (refine DV (k := 5) (b := by first | exact U2 i | exact U2 k) (c := ?_)) | refine DD 5 ?_ | fail)
          all_goals (first | refine D1 6 ?_ | (refine DV (k := 6) (b := by first | exact U2 i | exact U2 k) (c := ?_)) | refine DD 6 ?_ | fail)
          all_goals refine D8 ?_
          by_cases hcq : c.toNat = q.toNat
          · have hcq' : c = q := UInt8.toNat_inj.1 hcq
            rw [if_pos hcq'] at hrun
            subst hrun
            have hE : readV s.size (.ok (out, (bl s).drop (i + 1))) = [.string ⟨out.toArray⟩, .int .i64 ((i : Int) + 1), .int .i64 0] := by
              unfold readV
              dsimp only
              rw [hdl, show ((s.size - (s.size - (i + 1)) : Nat) : Int) = (i : Int) + 1 by omega]
              rfl
            rw [hE]
            repeat' (first | refine KO ?_ | (refine KV (b := by first | ((with_reducible apply v_rowstr 0); exact rfl; exact rfl; exact rfl; exact rfl; exact rfl)) (c := ?_)) | refine KI ?_ | refine NB fun b => ?_ | ((refine KB ?_ ?_ <;> intro hp)) | refine KG ?_ | fail)
            all_goals first | (exfalso; omega) | exact ret_vn rfl (by repeat first | exact rvs_nil | refine rvs_cons (by first | exact rv_tmp rfl | exact (rv_agg 0 rfl rfl rfl rfl rfl (by repeat first | exact lc_nil | refine lc_cons rfl ?_)) | exact (rv_agg 1 rfl rfl rfl rfl rfl (by repeat first | exact lc_nil | refine lc_cons rfl ?_)) | exact (rv_agg 2 rfl rfl rfl rfl rfl (by repeat first | exact lc_nil | refine lc_cons rfl ?_)) | exact (rv_agg 3 rfl rfl rfl rfl rfl (by repeat first | exact lc_nil | refine lc_cons rfl ?_))) ?_) rfl rfl
          · have hcq' : ¬ c = q := fun h => hcq (by rw [h])
            rw [if_neg hcq'] at hrun
            by_cases h10 : c.toNat = 10 ∨ c.toNat = 13
            · rw [if_pos (h10.imp (fun h => UInt8.toNat_inj.1 h) (fun h => UInt8.toNat_inj.1 h))] at hrun
              subst hrun
              unfold readV
              dsimp only
              rcases h10 with h10 | h10
              all_goals repeat' (first | refine KO ?_ | (refine KV (b := by first | exact U2 i) (c := ?_)) | refine KI ?_ | refine NB fun b => ?_ | ((refine KB ?_ ?_ <;> intro hp)) | refine KG ?_ | fail)
              all_goals first | (exfalso; omega) | exact ret_vn rfl (by repeat first | exact rvs_nil | refine rvs_cons (by first | exact rv_tmp rfl | exact (rv_agg 0 rfl rfl rfl rfl rfl (by repeat first | exact lc_nil | refine lc_cons rfl ?_)) | exact (rv_agg 1 rfl rfl rfl rfl rfl (by repeat first | exact lc_nil | refine lc_cons rfl ?_)) | exact (rv_agg 2 rfl rfl rfl rfl rfl (by repeat first | exact lc_nil | refine lc_cons rfl ?_)) | exact (rv_agg 3 rfl rfl rfl rfl rfl (by repeat first | exact lc_nil | refine lc_cons rfl ?_))) ?_) rfl rfl
            · rw [if_neg (fun h => h10 (h.imp (fun h => by rw [h]; rfl) (fun h => by rw [h]; rfl)))] at hrun
              by_cases h92 : c.toNat = 92
              · have hc92 : c = 92 := UInt8.toNat_inj.1 h92
                have hob : oneB c ((bl s).drop (i + 1)) = escB ((bl s).drop (i + 1)) := by unfold oneB; rw [if_pos hc92]
                cases ho : escB ((bl s).drop (i + 1)) with
                | error e =>
                  rw [ho] at hob
                  have he := oneB_err hob
                  rw [hob] at hrun
                  rw [ho] at hone
                  dsimp only at hrun
                  subst hrun
                  unfold rOneV at hone
                  dsimp only at hone
                  unfold readV
                  dsimp only
                  repeat' (first | refine KO ?_ | ((with_reducible apply F1 71); exact rfl; exact EN; (exact fun w μc hw hse => hone w μc hw)) | (refine KV (b := by first | exact U2 i) (c := ?_)) | refine KI ?_ | refine NB fun b => ?_ | ((refine KB ?_ ?_ <;> intro hp)) | refine KG ?_ | fail)
                  all_goals first | (exfalso; omega) | exact ret_vn rfl (by repeat first | exact rvs_nil | refine rvs_cons (by first | exact rv_tmp rfl | exact (rv_agg 0 rfl rfl rfl rfl rfl (by repeat first | exact lc_nil | refine lc_cons rfl ?_)) | exact (rv_agg 1 rfl rfl rfl rfl rfl (by repeat first | exact lc_nil | refine lc_cons rfl ?_)) | exact (rv_agg 2 rfl rfl rfl rfl rfl (by repeat first | exact lc_nil | refine lc_cons rfl ?_)) | exact (rv_agg 3 rfl rfl rfl rfl rfl (by repeat first | exact lc_nil | refine lc_cons rfl ?_))) ?_) rfl rfl
                | ok p =>
                  obtain ⟨b0, u0⟩ := p
                  rw [ho] at hob hone
                  have hul := oneB_len hob
                  rw [hob] at hrun
                  dsimp only at hrun
                  unfold rOneV at hone
                  dsimp only at hone
                  obtain ⟨m, hm⟩ : ∃ m, s.size - u0.length = m := ⟨_, rfl⟩
                  obtain ⟨d, hd⟩ : ∃ d : Int, ((s.size - u0.length : Nat) : Int) - (i : Int) = d := ⟨_, rfl⟩
                  rw [hd] at hone
                  by_cases hlong : 65536 < out.length + 1
                  · rw [if_pos hlong] at hrun
                    subst hrun
                    unfold readV
                    dsimp only
                    repeat' (first | refine KO ?_ | ((with_reducible apply F1 71); exact rfl; exact EN; (exact fun w μc hw hse => hone w μc hw)) | (first | ((with_reducible apply g_ap); exact rfl; exact rfl; exact rfl; (repeat first | with_reducible exact rowup_hd | with_reducible apply rowup_tl); (iterate 6 exact rfl); (first | ((with_reducible apply src_in); exact rfl; (repeat first | with_reducible exact inb_hd | with_reducible apply inb_tl); exact rfl)); (first | exact rfl | omega | simp); (first | assumption | (exact ones_mem (by (repeat first | with_reducible exact ones_nil | ((with_reducible apply ones_cons); (first | exact rfl | assumption))))) | simp [Value.oneCell']); omega; omega; intro v; ((with_reducible apply g_rowSlice 1); exact rfl); (rintro A2 cap2 rfl)) | ((with_reducible apply g_append0); (iterate 9 exact rfl); (first | ((with_reducible apply src_in); exact rfl; (repeat first | with_reducible exact inb_hd | with_reducible apply inb_tl); exact rfl)); (first | exact rfl | omega | simp); (first | assumption | (exact ones_mem (by (repeat first | with_reducible exact ones_nil | ((with_reducible apply ones_cons); (first | exact rfl | assumption))))) | simp [Value.oneCell']); omega; omega; intro v; ((with_reducible apply g_rowSlice 1); exact rfl); (rintro A2 cap2 rfl))) | (refine KV (b := by first | exact U2 i) (c := ?_)) | refine KI ?_ | refine NB fun b => ?_ | ((refine KB ?_ ?_ <;> intro hp)) | refine KG ?_ | fail)
                    all_goals first | (exfalso; omega) | exact ret_vn rfl (by repeat first | exact rvs_nil | refine rvs_cons (by first | exact rv_tmp rfl | exact (rv_agg 0 rfl rfl rfl rfl rfl (by repeat first | exact lc_nil | refine lc_cons rfl ?_)) | exact (rv_agg 1 rfl rfl rfl rfl rfl (by repeat first | exact lc_nil | refine lc_cons rfl ?_)) | exact (rv_agg 2 rfl rfl rfl rfl rfl (by repeat first | exact lc_nil | refine lc_cons rfl ?_)) | exact (rv_agg 3 rfl rfl rfl rfl rfl (by repeat first | exact lc_nil | refine lc_cons rfl ?_))) ?_) rfl rfl
                  · rw [if_neg hlong] at hrun
                    have hud : u0 = (bl s).drop (s.size - u0.length) := by
                      obtain ⟨n, hn⟩ := oneB_suf hob
                      rw [List.drop_drop] at hn
                      rw [hn, List.length_drop, bl_len]
                      by_cases hm : i + 1 + n ≤ s.size
                      · rw [show s.size - (s.size - (i + 1 + n)) = i + 1 + n by omega]
                      · rw [List.drop_eq_nil_of_le (by rw [bl_len]; omega), List.drop_eq_nil_of_le (by rw [bl_len]; omega)]
                    have hint : (i : Int) + d = (m : Int) := by omega
                    repeat' (first | refine KO ?_ | ((with_reducible apply F1 71); exact rfl; exact EN; (exact fun w μc hw hse => hone w μc hw)) | (first | ((with_reducible apply g_ap); exact rfl; exact rfl; exact rfl; (repeat first | with_reducible exact rowup_hd | with_reducible apply rowup_tl); (iterate 6 exact rfl); (first | ((with_reducible apply src_in); exact rfl; (repeat first | with_reducible exact inb_hd | with_reducible apply inb_tl); exact rfl)); (first | exact rfl | omega | simp); (first | assumption | (exact ones_mem (by (repeat first | with_reducible exact ones_nil | ((with_reducible apply ones_cons); (first | exact rfl | assumption))))) | simp [Value.oneCell']); omega; omega; intro v; ((with_reducible apply g_rowSlice 1); exact rfl); (rintro A2 cap2 rfl)) | ((with_reducible apply g_append0); (iterate 9 exact rfl); (first | ((with_reducible apply src_in); exact rfl; (repeat first | with_reducible exact inb_hd | with_reducible apply inb_tl); exact rfl)); (first | exact rfl | omega | simp); (first | assumption | (exact ones_mem (by (repeat first | with_reducible exact ones_nil | ((with_reducible apply ones_cons); (first | exact rfl | assumption))))) | simp [Value.oneCell']); omega; omega; intro v; ((with_reducible apply g_rowSlice 1); exact rfl); (rintro A2 cap2 rfl))) | (refine KV (b := by first | exact U2 i) (c := ?_)) | refine KI ?_ | refine NB fun b => ?_ | ((refine KB ?_ ?_ <;> intro hp)) | refine KG ?_ | fail)
                    all_goals try (exfalso; omega)
                    all_goals rw [hint]
                    all_goals refine gq_rowEq (n' := (out ++ [b0]).length) (xs' := byteCells (out ++ [b0])) 1 rfl (by simp) (by rw [byteCells_app]; rfl) ?_
                    all_goals refine J2 (m, out ++ [b0], .slice A2 (out.length + 1) cap2) ⟨by dsimp only; omega, by dsimp only; omega, by dsimp only; simp; omega, ?_⟩ (by dsimp only; omega)
                    all_goals
                      dsimp only
                      rw [← hm, ← hud]
                      rw [litB_fuel q _ _ _ _ (Nat.lt_succ_self _) (show u0.length < ((bl s).drop (i + 1)).length + 1 by omega)]
                      exact hrun
              · have hc92 : ¬ c = 92 := fun h => h92 (by rw [h]; rfl)
                have hob : oneB c ((bl s).drop (i + 1)) = .ok (c, (bl s).drop (i + 1)) := by unfold oneB; rw [if_neg hc92]
                rw [hob] at hrun
                dsimp only at hrun
                by_cases hlong : 65536 < out.length + 1
                · rw [if_pos hlong] at hrun
                  subst hrun
                  unfold readV
                  dsimp only
                  repeat' (first | refine KO ?_ | (first | ((with_reducible apply g_ap); exact rfl; exact rfl; exact rfl; (repeat first | with_reducible exact rowup_hd | with_reducible apply rowup_tl); (iterate 6 exact rfl); (first | ((with_reducible apply src_in); exact rfl; (repeat first | with_reducible exact inb_hd | with_reducible apply inb_tl); exact rfl)); (first | exact rfl | omega | simp); (first | assumption | (exact ones_mem (by (repeat first | with_reducible exact ones_nil | ((with_reducible apply ones_cons); (first | exact rfl | assumption))))) | simp [Value.oneCell']); omega; omega; intro v; ((with_reducible apply g_rowSlice 1); exact rfl); (rintro A2 cap2 rfl)) | ((with_reducible apply g_append0); (iterate 9 exact rfl); (first | ((with_reducible apply src_in); exact rfl; (repeat first | with_reducible exact inb_hd | with_reducible apply inb_tl); exact rfl)); (first | exact rfl | omega | simp); (first | assumption | (exact ones_mem (by (repeat first | with_reducible exact ones_nil | ((with_reducible apply ones_cons); (first | exact rfl | assumption))))) | simp [Value.oneCell']); omega; omega; intro v; ((with_reducible apply g_rowSlice 1); exact rfl); (rintro A2 cap2 rfl))) | (refine KV (b := by first | exact U2 i) (c := ?_)) | refine KI ?_ | refine NB fun b => ?_ | ((refine KB ?_ ?_ <;> intro hp)) | refine KG ?_ | fail)
                  all_goals first | (exfalso; omega) | exact ret_vn rfl (by repeat first | exact rvs_nil | refine rvs_cons (by first | exact rv_tmp rfl | exact (rv_agg 0 rfl rfl rfl rfl rfl (by repeat first | exact lc_nil | refine lc_cons rfl ?_)) | exact (rv_agg 1 rfl rfl rfl rfl rfl (by repeat first | exact lc_nil | refine lc_cons rfl ?_)) | exact (rv_agg 2 rfl rfl rfl rfl rfl (by repeat first | exact lc_nil | refine lc_cons rfl ?_)) | exact (rv_agg 3 rfl rfl rfl rfl rfl (by repeat first | exact lc_nil | refine lc_cons rfl ?_))) ?_) rfl rfl
                · rw [if_neg hlong] at hrun
                  repeat' (first | refine KO ?_ | (first | ((with_reducible apply g_ap); exact rfl; exact rfl; exact rfl; (repeat first | with_reducible exact rowup_hd | with_reducible apply rowup_tl); (iterate 6 exact rfl); (first | ((with_reducible apply src_in); exact rfl; (repeat first | with_reducible exact inb_hd | with_reducible apply inb_tl); exact rfl)); (first | exact rfl | omega | simp); (first | assumption | (exact ones_mem (by (repeat first | with_reducible exact ones_nil | ((with_reducible apply ones_cons); (first | exact rfl | assumption))))) | simp [Value.oneCell']); omega; omega; intro v; ((with_reducible apply g_rowSlice 1); exact rfl); (rintro A2 cap2 rfl)) | ((with_reducible apply g_append0); (iterate 9 exact rfl); (first | ((with_reducible apply src_in); exact rfl; (repeat first | with_reducible exact inb_hd | with_reducible apply inb_tl); exact rfl)); (first | exact rfl | omega | simp); (first | assumption | (exact ones_mem (by (repeat first | with_reducible exact ones_nil | ((with_reducible apply ones_cons); (first | exact rfl | assumption))))) | simp [Value.oneCell']); omega; omega; intro v; ((with_reducible apply g_rowSlice 1); exact rfl); (rintro A2 cap2 rfl))) | (refine KV (b := by first | exact U2 i) (c := ?_)) | refine KI ?_ | refine NB fun b => ?_ | ((refine KB ?_ ?_ <;> intro hp)) | refine KG ?_ | fail)
                  all_goals try (exfalso; omega)
                  all_goals refine gq_rowEq (n' := (out ++ [c]).length) (xs' := byteCells (out ++ [c])) 1 rfl (by simp) (by rw [byteCells_app]; rw [hb2]; rfl) ?_
                  all_goals refine J2 (i + 1, out ++ [c], .slice A2 (out.length + 1) cap2) ⟨by dsimp only; omega, by dsimp only; omega, by dsimp only; simp; omega, ?_⟩ (by dsimp only; omega)
                  all_goals
                    dsimp only
                    exact hrun
        · have hi : (bl s).drop i = [] := List.drop_eq_nil_of_le (by rw [bl_len]; omega)
          rw [hi] at hrun
          have : res = .error 8 := hrun.symm
          subst this
          unfold readV
          dsimp only
          repeat' (first | refine KK ?_ | refine NB fun b => ?_ | ((refine KB ?_ ?_ <;> intro hp)) | refine KG ?_ | fail)
          all_goals first | (exfalso; omega) | exact ret_vn rfl (by repeat first | exact rvs_nil | refine rvs_cons (by first | exact rv_tmp rfl | exact (rv_agg 0 rfl rfl rfl rfl rfl (by repeat first | exact lc_nil | refine lc_cons rfl ?_)) | exact (rv_agg 1 rfl rfl rfl rfl rfl (by repeat first | exact lc_nil | refine lc_cons rfl ?_)) | exact (rv_agg 2 rfl rfl rfl rfl rfl (by repeat first | exact lc_nil | refine lc_cons rfl ?_)) | exact (rv_agg 3 rfl rfl rfl rfl rfl (by repeat first | exact lc_nil | refine lc_cons rfl ?_))) ?_) rfl rfl
    · have hE : readL ((bl s).drop k) = .error 1 := by
        rw [hl]
        unfold readL
        dsimp only
        rw [if_neg (fun h => hq (h.imp (fun h => by rw [h]; rfl) (fun h => by rw [h]; rfl)))]
      rw [hE]
      unfold readV
      dsimp only
      repeat' (first | refine KO ?_ | (refine KV (b := by first | exact U2 k) (c := ?_)) | refine KI ?_ | refine NB fun b => ?_ | ((refine KB ?_ ?_ <;> intro hp)) | refine KG ?_ | fail)
      all_goals first | (exfalso; omega) | exact ret_vn rfl (by repeat first | exact rvs_nil | refine rvs_cons (by first | exact rv_tmp rfl | exact (rv_agg 0 rfl rfl rfl rfl rfl (by repeat first | exact lc_nil | refine lc_cons rfl ?_)) | exact (rv_agg 1 rfl rfl rfl rfl rfl (by repeat first | exact lc_nil | refine lc_cons rfl ?_)) | exact (rv_agg 2 rfl rfl rfl rfl rfl (by repeat first | exact lc_nil | refine lc_cons rfl ?_)) | exact (rv_agg 3 rfl rfl rfl rfl rfl (by repeat first | exact lc_nil | refine lc_cons rfl ?_))) ?_) rfl rfl
  · have hE : readL ((bl s).drop k) = .error 1 := by
      have : (bl s).drop k = [] := List.drop_eq_nil_of_le (by rw [bl_len]; omega)
      rw [this]; rfl
    rw [hE]
    unfold readV
    dsimp only
    repeat' (first | refine KK ?_ | refine NB fun b => ?_ | ((refine KB ?_ ?_ <;> intro hp)) | refine KG ?_ | fail)
    all_goals first | (exfalso; omega) | exact ret_vn rfl (by repeat first | exact rvs_nil | refine rvs_cons (by first | exact rv_tmp rfl | exact (rv_agg 0 rfl rfl rfl rfl rfl (by repeat first | exact lc_nil | refine lc_cons rfl ?_)) | exact (rv_agg 1 rfl rfl rfl rfl rfl (by repeat first | exact lc_nil | refine lc_cons rfl ?_)) | exact (rv_agg 2 rfl rfl rfl rfl rfl (by repeat first | exact lc_nil | refine lc_cons rfl ?_)) | exact (rv_agg 3 rfl rfl rfl rfl rfl (by repeat first | exact lc_nil | refine lc_cons rfl ?_))) ?_) rfl rfl
end Go.Proofs.YtmihpkdhfomcgaaGreatDoor
namespace Go.Vcg
open Go.RowKit
section
variable {P : Program} {X : Ctx} {Q : Exit → Act → World → Prop} {μ : Mem} {l : Slots} {L : List Bk} {ty : TypeId} {pos : String} {af : Array Edge} {gd : Option (Nat × Bool)} {ds : Option Nat}
theorem ext_one {s : ByteArray} {k : Nat} {c : UInt8} (h : (bl s)[k]? = some c) : s.extract k (k + 1) = ⟨#[c]⟩ := bl_inj (by
  obtain ⟨h1, h2⟩ := List.getElem?_eq_some_iff.1 h
  rw [bl_extract, List.drop_eq_getElem_cons h1, h2, show k + 1 - k = 1 by omega]
  rfl)
theorem v_str_at {p q r : Operand} {t : TypeId} {s : ByteArray} {j i : Int} {c : UInt8} (k : Nat) (h : (bl s)[k]? = some c) (ht : P.underlying t = some .string) (hx : ev l p = some (.string s)) (hq : ev l q = some (.int .i64 j)) (hj : j = (k : Int)) (hr' : ev l r = some (.int .i64 i)) (hi : i = (k : Int) + 1) :
    Val P μ l L ⟨ds, .slice t p (some q) (some r) none, ty, pos, af, gd⟩ (.string ⟨#[c]⟩) := by
  have hk : k < s.size := by have := (List.getElem?_eq_some_iff.1 h).1; rwa [bl_len] at this
  rw [← ext_one h]
  exact v_str_both k (k + 1) ht hx hq hj hr' (by omega) (by omega) (by omega)
theorem v_str_at8 {p q r : Operand} {t : TypeId} {s : ByteArray} {j i : Int} {c : UInt8} (k : Nat) (h : (bl s)[k]? = some c) (ht : P.underlying t = some .string) (hx : ev l p = some (.string s)) (hq : ev l q = some (.int .u8 j)) (hj : j = (k : Int)) (hr' : ev l r = some (.int .u8 i)) (hi : i = (k : Int) + 1) :
    Val P μ l L ⟨ds, .slice t p (some q) (some r) none, ty, pos, af, gd⟩ (.string ⟨#[c]⟩) := by
  have hk : k < s.size := by have := (List.getElem?_eq_some_iff.1 h).1; rwa [bl_len] at this
  rw [← ext_one h]
  exact v_str_both8 k (k + 1) ht hx hq hj hr' (by omega) (by omega) (by omega)
end
end Go.Vcg
namespace Go.Proofs.YtmihpkdhfomcgaaGreatDoor
open Go.RowKit Go.Vcg Ou
theorem hexS_get {d : Nat} (h : d < 16) : (bl hexS)[d]? = some (hexT.getD d 0) := by
  have key : ∀ d, d < 16 → (bl hexS)[d]? = some (hexT.getD d 0) := by decide +kernel
  exact key d h
attribute [local irreducible] G GC GQ GA GAop Calls IntKind.wrap Int.decLt Int.decLe
theorem rquote_spec (s : ByteArray) (hs : s.size ≤ 1000000) (w : World) (μ : Mem) (hμ : MOk μ w) :
    Calls Tryz.prog 54 #[.string s] w fun e w' => e = .returned (.string (ofB (quoteB (byS s)))) ∧ Below w.heap.size w w' := by
  refine call_intro (args := [.string s]) Tryz.func54 rfl Tryz.ntmps54 (by simp) hμ ?_
  repeat' (first | refine KK ?_ | ((refine KB ?_ ?_ <;> intro hp)) | refine KG ?_ | fail)
  refine gc_loop (ι := Nat) (fun i => i ≤ s.size) (fun i => s.size - i) (fun _ => μ) (fun i => [(5, .int .i64 i), (4, .string (ofB (34 :: ((byS s).take i).flatMap q1))), (3, .string hexS), (0, .string s)])
    (fun i => []) 0 (Nat.zero_le _) (fun a w hs => J5 hs) ?_
  intro i hi
  by_cases hlt : i < s.size
  · obtain ⟨c, hb1, hb2⟩ := bl_at hlt
    have hc := c.toNat_lt
    have hb1' : (byS s)[i]? = some c := hb1
    have hl := qs_len ((byS s).take i)
    have hl2 : ((byS s).take i).length ≤ i := by rw [List.length_take]; omega
    have htk : ((byS s).take (i + 1)).flatMap q1 = ((byS s).take i).flatMap q1 ++ q1 c := by rw [List.take_add_one, hb1', List.flatMap_append]; simp
    generalize hout : ((byS s).take i).flatMap q1 = out at hl htk
    have hn : ∀ n : UInt8, (c = n) = (c.toNat = n.toNat) := fun n => propext UInt8.toNat_inj.symm
    have hq : q1 c = if c.toNat = 10 then [92, 110] else if c.toNat = 9 then [92, 116] else if c.toNat = 13 then [92, 114] else if c.toNat = 0 then [92, 48] else if c.toNat = 34 ∨ c.toNat = 92 then [92, c] else if c.toNat < 32 ∨ 126 < c.toNat then [92, 120, hexT.getD (c.toNat / 16) 0, hexT.getD (c.toNat % 16) 0] else [c] := by
      unfold q1
      simp only [hn]
      rfl
    by_cases h10 : c.toNat = 10
    · rw [if_pos h10] at hq
      repeat' (first | refine KO ?_ | (refine KV (b := by first | exact U2 i | ((refine v_str_at i hb1 rfl rfl rfl (by omega) rfl (by omega))) | ((with_reducible apply v_addL); exact rfl; exact rfl; (simp only [List.length_append, List.length_cons, List.length_nil]; omega))) (c := ?_)) | refine KI ?_ | ((refine KB ?_ ?_ <;> intro hp)) | refine KG ?_ | fail)
      all_goals first | (exfalso; omega) | (refine gq_backS (i + 1) (by omega) (by omega) rfl ?_ PS; rw [htk, hq]; have hE : ofB (34 :: (out ++ [92, 110])) = ofB ((34 :: out) ++ [92, 110]) := rfl; rw [hE]; exact PU)
    rw [if_neg h10] at hq
    by_cases h9 : c.toNat = 9
    · rw [if_pos h9] at hq
      repeat' (first | refine KO ?_ | (refine KV (b := by first | exact U2 i | ((refine v_str_at i hb1 rfl rfl rfl (by omega) rfl (by omega))) | ((with_reducible apply v_addL); exact rfl; exact rfl; (simp only [List.length_append, List.length_cons, List.length_nil]; omega))) (c := ?_)) | refine KI ?_ | ((refine KB ?_ ?_ <;> intro hp)) | refine KG ?_ | fail)
      all_goals first | (exfalso; omega) | (refine gq_backS (i + 1) (by omega) (by omega) rfl ?_ PS; rw [htk, hq]; have hE : ofB (34 :: (out ++ [92, 116])) = ofB ((34 :: out) ++ [92, 116]) := rfl; rw [hE]; exact PU)
    rw [if_neg h9] at hq
    by_cases h13 : c.toNat = 13
    · rw [if_pos h13] at hq
      repeat' (first | refine KO ?_ | (refine KV (b := by first | exact U2 i | ((refine v_str_at i hb1 rfl rfl rfl (by omega) rfl (by omega))) | ((with_reducible apply v_addL); exact rfl; exact rfl; (simp only [List.length_append, List.length_cons, List.length_nil]; omega))) (c := ?_)) | refine KI ?_ | ((refine KB ?_ ?_ <;> intro hp)) | refine KG ?_ | fail)
      all_goals first | (exfalso; omega) | (refine gq_backS (i + 1) (by omega) (by omega) rfl ?_ PS; rw [htk, hq]; have hE : ofB (34 :: (out ++ [92, 114])) = ofB ((34 :: out) ++ [92, 114]) := rfl; rw [hE]; exact PU)
    rw [if_neg h13] at hq
    by_cases h0 : c.toNat = 0
    · rw [if_pos h0] at hq
      repeat' (first | refine KO ?_ | (refine KV (b := by first | exact U2 i | ((refine v_str_at i hb1 rfl rfl rfl (by omega) rfl (by omega))) | ((with_reducible apply v_addL); exact rfl; exact rfl; (simp only [List.length_append, List.length_cons, List.length_nil]; omega))) (c := ?_)) | refine KI ?_ | ((refine KB ?_ ?_ <;> intro hp)) | refine KG ?_ | fail)
      all_goals first | (exfalso; omega) | (refine gq_backS (i + 1) (by omega) (by omega) rfl ?_ PS; rw [htk, hq]; have hE : ofB (34 :: (out ++ [92, 48])) = ofB ((34 :: out) ++ [92, 48]) := rfl; rw [hE]; exact PU)
    rw [if_neg h0] at hq
    by_cases h34 : c.toNat = 34 ∨ c.toNat = 92
    · rw [if_pos h34] at hq
      rcases h34 with h34 | h34
      all_goals
        repeat' (first | refine KO ?_ | (refine KV (b := by first | exact U2 i | ((refine v_str_at i hb1 rfl rfl rfl (by omega) rfl (by omega))) | ((with_reducible apply v_addL); exact rfl; exact rfl; (simp only [List.length_append, List.length_cons, List.length_nil]; omega))) (c := ?_)) | refine KI ?_ | ((refine KB ?_ ?_ <;> intro hp)) | refine KG ?_ | fail)
        all_goals first | (exfalso; omega) | (refine gq_backS (i + 1) (by omega) (by omega) rfl ?_ PS; rw [htk, hq]; have hE : ofB (34 :: (out ++ [92, c])) = ofB (((34 :: out) ++ [92]) ++ [c]) := (by simp); rw [hE]; exact PU)
    rw [if_neg h34] at hq
    by_cases hx : c.toNat < 32 ∨ 126 < c.toNat
    · rw [if_pos hx] at hq
      have hi1 : c.toNat / 16 < 16 := by omega
      have hi2 : c.toNat % 16 < 16 := by omega
      rcases hx with hx | hx
      all_goals
        repeat' (first | refine KO ?_ | (refine KV (b := by first | exact U2 i | ((refine v_str_at i hb1 rfl rfl rfl (by omega) rfl (by omega))) | ((with_reducible apply v_addL); exact rfl; exact rfl; (simp only [List.length_append, List.length_cons, List.length_nil]; omega))) (c := ?_)) | refine KI ?_ | ((refine KB ?_ ?_ <;> intro hp)) | refine KG ?_ | fail)
        all_goals first | (exfalso; omega) | skip
        refine gc_draw 19 ([]) (by kernel_rfl) rfl (by first | exact List.Sublist.refl _ | simp) ?_
        all_goals refine DD 0 ?_
        all_goals (first | refine D1 1 ?_ | (refine DV (k := 1) (b := by first | ((with_reducible apply v_quo8); exact rfl; exact rfl; omega; omega) | ((with_reducible apply v_rem8); exact rfl; exact rfl; omega; omega) | ((with_reducible apply v_str_at8 (c.toNat / 16) (hexS_get hi1)); exact rfl; exact rfl; exact rfl; (first | rfl | omega); exact rfl; (first | rfl | omega)) | ((with_reducible apply v_str_at8 (c.toNat % 16) (hexS_get hi2)); exact rfl; exact rfl; exact rfl; (first | rfl | omega); exact rfl; (first | rfl | omega)) | ((with_reducible apply arB_sound); exact rfl; omega) | ((with_reducible apply v_addL); exact rfl; exact rfl; (simp only [List.length_append, List.length_cons, List.length_nil]; omega))) (c := ?_)) | refine DD 1 ?_ | fail)
        all_goals refine DD 2 ?_
        all_goals refine DD 3 ?_
        all_goals (first | refine D1 4 ?_ | (refine DV (k := 4) (b := by first | ((with_reducible apply v_quo8); exact rfl; exact rfl; omega; omega) | ((with_reducible apply v_rem8); exact rfl; exact rfl; omega; omega) | ((with_reducible apply v_str_at8 (c.toNat / 16) (hexS_get hi1)); exact rfl; exact rfl; exact rfl; (first | rfl | omega); exact rfl; (first | rfl | omega)) | ((with_reducible apply v_str_at8 (c.toNat % 16) (hexS_get hi2)); exact rfl; exact rfl; exact rfl; (first | rfl | omega); exact rfl; (first | rfl | omega)) | ((with_reducible apply arB_sound); exact rfl; omega) | ((with_reducible apply v_addL); exact rfl; exact rfl; (simp only [List.length_append, List.length_cons, List.length_nil]; omega))) (c := ?_)) | refine DD 4 ?_ | fail)
        all_goals refine DD 5 ?_
        all_goals (first | refine D1 6 ?_ | (refine DV (k := 6) (b := by first | ((with_reducible apply v_quo8); exact rfl; exact rfl; omega; omega) | ((with_reducible apply v_rem8); exact rfl; exact rfl; omega; omega) | ((with_reducible apply v_str_at8 (c.toNat / 16) (hexS_get hi1)); exact rfl; exact rfl; exact rfl; (first | rfl | omega); exact rfl; (first | rfl | omega)) | ((with_reducible apply v_str_at8 (c.toNat % 16) (hexS_get hi2)); exact rfl; exact rfl; exact rfl; (first | rfl | omega); exact rfl; (first | rfl | omega)) | ((with_reducible apply arB_sound); exact rfl; omega) | ((with_reducible apply v_addL); exact rfl; exact rfl; (simp only [List.length_append, List.length_cons, List.length_nil]; omega))) (c := ?_)) | refine DD 6 ?_ | fail)
        all_goals (first | refine D1 7 ?_ | (refine DV (k := 7) (b := by first | ((with_reducible apply v_quo8); exact rfl; exact rfl; omega; omega) | ((with_reducible apply v_rem8); exact rfl; exact rfl; omega; omega) | ((with_reducible apply v_str_at8 (c.toNat / 16) (hexS_get hi1)); exact rfl; exact rfl; exact rfl; (first | rfl | omega); exact rfl; (first | rfl | omega)) | ((with_reducible apply v_str_at8 (c.toNat % 16) (hexS_get hi2)); exact rfl; exact rfl; exact rfl; (first | rfl | omega); exact rfl; (first | rfl | omega)) | ((with_reducible apply arB_sound); exact rfl; omega) | ((with_reducible apply v_addL); exact rfl; exact rfl; (simp only [List.length_append, List.length_cons, List.length_nil]; omega))) (c := ?_)) | refine DD 7 ?_ | fail)
        all_goals (first | refine D1 8 ?_ | (refine DV (k := 8) (b := by first | ((with_reducible apply v_quo8); exact rfl; exact rfl; omega; omega) | ((with_reducible apply v_rem8); exact rfl; exact rfl; omega; omega) | ((with_reducible apply v_str_at8 (c.toNat / 16) (hexS_get hi1)); exact rfl; exact rfl; exact rfl; (first | rfl | omega); exact rfl; (first | rfl | omega)) | ((with_reducible apply v_str_at8 (c.toNat % 16) (hexS_get hi2)); exact rfl; exact rfl; exact rfl; (first | rfl | omega); exact rfl; (first | rfl | omega)) | ((with_reducible apply arB_sound); exact rfl; omega) | ((with_reducible apply v_addL); exact rfl; exact rfl; (simp only [List.length_append, List.length_cons, List.length_nil]; omega))) (c := ?_)) | refine DD 8 ?_ | fail)
        all_goals (first | refine D1 9 ?_ | (refine DV (k := 9) (b := by first | ((with_reducible apply v_quo8); exact rfl; exact rfl; omega; omega) | ((with_reducible apply v_rem8); exact rfl; exact rfl; omega; omega) | ((with_reducible apply v_str_at8 (c.toNat / 16) (hexS_get hi1)); exact rfl; exact rfl; exact rfl; (first | rfl | omega); exact rfl; (first | rfl | omega)) | ((with_reducible apply v_str_at8 (c.toNat % 16) (hexS_get hi2)); exact rfl; exact rfl; exact rfl; (first | rfl | omega); exact rfl; (first | rfl | omega)) | ((with_reducible apply arB_sound); exact rfl; omega) | ((with_reducible apply v_addL); exact rfl; exact rfl; (simp only [List.length_append, List.length_cons, List.length_nil]; omega))) (c := ?_)) | refine DD 9 ?_ | fail)
        all_goals refine DD 10 ?_
        all_goals refine DD 11 ?_
        all_goals (first | refine D1 12 ?_ | (refine DV (k := 12) (b := by first | ((with_reducible apply v_quo8); exact rfl; exact rfl; omega; omega) | ((with_reducible apply v_rem8); exact rfl; exact rfl; omega; omega) | ((with_reducible apply v_str_at8 (c.toNat / 16) (hexS_get hi1)); exact rfl; exact rfl; exact rfl; (first | rfl | omega); exact rfl; (first | rfl | omega)) | ((with_reducible apply v_str_at8 (c.toNat % 16) (hexS_get hi2)); exact rfl; exact rfl; exact rfl; (first | rfl | omega); exact rfl; (first | rfl | omega)) | ((with_reducible apply arB_sound); exact rfl; omega) | ((with_reducible apply v_addL); exact rfl; exact rfl; (simp only [List.length_append, List.length_cons, List.length_nil]; omega))) (c := ?_)) | refine DD 12 ?_ | fail)
        all_goals refine DD 13 ?_
        all_goals (first | refine D1 14 ?_ | (refine DV (k := 14) (b := by first | ((with_reducible apply v_quo8); exact rfl; exact rfl; omega; omega) | ((with_reducible apply v_rem8); exact rfl; exact rfl; omega; omega) | ((with_reducible apply v_str_at8 (c.toNat / 16) (hexS_get hi1)); exact rfl; exact rfl; exact rfl; (first | rfl | omega); exact rfl; (first | rfl | omega)) | ((with_reducible apply v_str_at8 (c.toNat % 16) (hexS_get hi2)); exact rfl; exact rfl; exact rfl; (first | rfl | omega); exact rfl; (first | rfl | omega)) | ((with_reducible apply arB_sound); exact rfl; omega) | ((with_reducible apply v_addL); exact rfl; exact rfl; (simp only [List.length_append, List.length_cons, List.length_nil]; omega))) (c := ?_)) | refine DD 14 ?_ | fail)
        all_goals (first | refine D1 15 ?_ | (refine DV (k := 15) (b := by first | ((with_reducible apply v_quo8); exact rfl; exact rfl; omega; omega) | ((with_reducible apply v_rem8); exact rfl; exact rfl; omega; omega) | ((with_reducible apply v_str_at8 (c.toNat / 16) (hexS_get hi1)); exact rfl; exact rfl; exact rfl; (first | rfl | omega); exact rfl; (first | rfl | omega)) | ((with_reducible apply v_str_at8 (c.toNat % 16) (hexS_get hi2)); exact rfl; exact rfl; exact rfl; (first | rfl | omega); exact rfl; (first | rfl | omega)) | ((with_reducible apply arB_sound); exact rfl; omega) | ((with_reducible apply v_addL); exact rfl; exact rfl; (simp only [List.length_append, List.length_cons, List.length_nil]; omega))) (c := ?_)) | refine DD 15 ?_ | fail)
        all_goals (first | refine D1 16 ?_ | (refine DV (k := 16) (b := by first | ((with_reducible apply v_quo8); exact rfl; exact rfl; omega; omega) | ((with_reducible apply v_rem8); exact rfl; exact rfl; omega; omega) | ((with_reducible apply v_str_at8 (c.toNat / 16) (hexS_get hi1)); exact rfl; exact rfl; exact rfl; (first | rfl | omega); exact rfl; (first | rfl | omega)) | ((with_reducible apply v_str_at8 (c.toNat % 16) (hexS_get hi2)); exact rfl; exact rfl; exact rfl; (first | rfl | omega); exact rfl; (first | rfl | omega)) | ((with_reducible apply arB_sound); exact rfl; omega) | ((with_reducible apply v_addL); exact rfl; exact rfl; (simp only [List.length_append, List.length_cons, List.length_nil]; omega))) (c := ?_)) | refine DD 16 ?_ | fail)
        all_goals (first | refine D1 17 ?_ | (refine DV (k := 17) (b := by first | ((with_reducible apply v_quo8); exact rfl; exact rfl; omega; omega) | ((with_reducible apply v_rem8); exact rfl; exact rfl; omega; omega) | ((with_reducible apply v_str_at8 (c.toNat / 16) (hexS_get hi1)); exact rfl; exact rfl; exact rfl; (first | rfl | omega); exact rfl; (first | rfl | omega)) | ((with_reducible apply v_str_at8 (c.toNat % 16) (hexS_get hi2)); exact rfl; exact rfl; exact rfl; (first | rfl | omega); exact rfl; (first | rfl | omega)) | ((with_reducible apply arB_sound); exact rfl; omega) | ((with_reducible apply v_addL); exact rfl; exact rfl; (simp only [List.length_append, List.length_cons, List.length_nil]; omega))) (c := ?_)) | refine DD 17 ?_ | fail)
        all_goals refine DD 18 ?_
        all_goals refine D8 ?_
        all_goals repeat' (first | refine KO ?_ | (refine KV (b := by first | ((with_reducible apply v_addL); exact rfl; exact rfl; (simp only [List.length_append, List.length_cons, List.length_nil]; omega))) (c := ?_)) | refine KI ?_ | ((refine KB ?_ ?_ <;> intro hp)) | refine KG ?_ | fail)
        all_goals first | (exfalso; omega) | (refine gq_backS (i + 1) (by omega) (by omega) rfl ?_ PS; rw [htk, hq]; have hE : ofB (34 :: (out ++ [92, 120, hexT.getD (c.toNat / 16) 0, hexT.getD (c.toNat % 16) 0])) = ofB (34 :: out ++ [92, 120] ++ [hexT.getD (c.toNat / 16) 0] ++ [hexT.getD (c.toNat % 16) 0]) := (by simp); rw [hE]; exact PU)
    rw [if_neg hx] at hq
    repeat' (first | refine KO ?_ | (refine KV (b := by first | exact U2 i | ((refine v_str_at i hb1 rfl rfl rfl (by omega) rfl (by omega))) | ((with_reducible apply v_addL); exact rfl; exact rfl; (simp only [List.length_append, List.length_cons, List.length_nil]; omega))) (c := ?_)) | refine KI ?_ | ((refine KB ?_ ?_ <;> intro hp)) | refine KG ?_ | fail)
    all_goals first | (exfalso; omega) | (refine gq_backS (i + 1) (by omega) (by omega) rfl ?_ PS; rw [htk, hq]; have hE : ofB (34 :: (out ++ [c])) = ofB ((34 :: out) ++ [c]) := rfl; rw [hE]; exact PU)
  · have hall : (byS s).take i = byS s := List.take_of_length_le (by rw [show (byS s).length = s.size from bl_len s]; omega)
    have hl := qs_len (byS s)
    have hl2 : (byS s).length = s.size := bl_len s
    rw [hall]
    generalize hout : (byS s).flatMap q1 = out at hl
    have hqb : ofB (quoteB (byS s)) = ofB ((34 :: out) ++ [34]) := by unfold quoteB; rw [hout]; rfl
    rw [hqb]
    repeat' (first | refine KO ?_ | (refine KV (b := by first | ((with_reducible apply v_addL); exact rfl; exact rfl; (simp only [List.length_append, List.length_cons, List.length_nil]; omega))) (c := ?_)) | refine KI ?_ | ((refine KB ?_ ?_ <;> intro hp)) | refine KG ?_ | fail)
    all_goals first | (exfalso; omega) | exact ret_s rfl rfl rfl
end Go.Proofs.YtmihpkdhfomcgaaGreatDoor
