/- The reference's prop, more and Kinds: the patterns of kinds. No statement of the seat is proved here. -/
import Derived.Test.YtocidaibmadekaaGreatDoorQal
set_option maxRecDepth 20000
set_option maxHeartbeats 2000000
namespace Go.Proofs.YtocidaibmadekaaGreatDoor
open Go.RowKit Go.Vcg
def gY (t : T) : ByteArray := if t.m = 1 then ⟨#[69]⟩ else ⟨#[107]⟩
def kZ (t : T) : ByteArray :=
  if t.n = 0 then gY t ++ ⟨#[69]⟩ else if t.n = 1 then gY t ++ ⟨#[103]⟩ else if t.n = 2 then gY t ++ ⟨#[115]⟩ else if t.n = 3 then ⟨#[119]⟩ else if t.n = 4 then ⟨#[69]⟩ else if t.n = 5 then gY t ++ ⟨#[109]⟩ else ⟨#[33]⟩
def dO (t : T) : ByteArray :=
  if t.op = 21 then ⟨#[69, 75, 42]⟩
  else if t.op = 22 then (if t.n = 1 then ⟨#[83, 42]⟩ else ⟨#[69, 83, 42]⟩)
  else if t.op = 23 then ⟨#[83]⟩
  else if t.op = 37 then ⟨#[65, 42]⟩
  else if t.op = 38 then ⟨#[82, 42]⟩
  else if t.op = 39 then (kZ t)
  else if t.op = 43 then ⟨#[116]⟩
  else if t.op = 44 ∨ t.op = 45 ∨ t.op = 52 then ⟨#[69, 69]⟩
  else if t.op = 46 then (if t.s = ⟨#[61]⟩ then ⟨#[84, 69]⟩ else ⟨#[116, 69]⟩)
  else if t.op = 47 then ⟨#[69, 69, 69]⟩
  else if t.op = 48 then ⟨#[69, 69, 69, 42]⟩
  else if t.op = 49 ∨ t.op = 50 then ⟨#[69, 97, 42]⟩
  else if t.op = 51 then ⟨#[69]⟩
  else if t.op = 53 then ⟨#[99]⟩
  else if t.op = 54 then (if t.n = 1 then ⟨#[69]⟩ else ⟨#[69, 63]⟩)
  else if t.op = 60 then ⟨#[72, 42, 90, 63]⟩
  else if t.op = 61 then ⟨#[81, 42, 90, 63]⟩
  else if t.op = 62 then (if t.m = 1 then ⟨#[69, 70]⟩ else ⟨#[107, 70]⟩)
  else if t.op = 63 then ⟨#[84, 69]⟩
  else if t.op = 64 then ⟨#[84]⟩
  else ⟨#[33]⟩
def aH (t : T) : ByteArray :=
  if t.op = 1 ∨ t.op = 6 then ⟨#[83, 42]⟩
  else if t.op = 2 then ⟨#[68, 68, 42]⟩
  else if t.op = 3 then ⟨#[84, 69, 63]⟩
  else if t.op = 4 then (if (IntKind.i64.wrap (t.n.tdiv 128)).tmod 2 = 1 then ⟨#[80, 69]⟩ else ⟨#[80, 66]⟩)
  else if t.op = 5 then ⟨#[70, 42, 90, 63]⟩
  else if t.op = 7 ∨ t.op = 15 ∨ t.op = 16 ∨ t.op = 30 ∨ t.op = 31 ∨ t.op = 32 ∨ t.op = 33 ∨ t.op = 34 ∨ t.op = 35 ∨ t.op = 40 then ⟨#[]⟩
  else if t.op = 8 ∨ t.op = 18 ∨ t.op = 41 ∨ t.op = 42 then ⟨#[69]⟩
  else if t.op = 9 then ⟨#[69, 83, 83, 63]⟩
  else if t.op = 10 then ⟨#[73, 77, 77, 83]⟩
  else if t.op = 11 ∨ t.op = 12 then ⟨#[76, 69, 83]⟩
  else if t.op = 13 then ⟨#[69, 83]⟩
  else if t.op = 14 then ⟨#[83, 69]⟩
  else if t.op = 17 then ⟨#[69, 63]⟩
  else if t.op = 19 then ⟨#[66, 67, 89]⟩
  else if t.op = 20 then ⟨#[71, 66]⟩
  else dO t
theorem PZ (t : T) : (gY t).size = 1 := by unfold gY; split <;> rfl
attribute [local irreducible] gY G GC GQ GA bX Calls IntKind.wrap Int.decLt Int.decLe
theorem JB (t : T) (u : Value) (w : World) (μ : Mem) (hμ : MOk μ w) (hk : KR μ t.kids u) :
    Calls Tryz.prog 104 #[.agg (aD t u).toArray] w fun e w' => e = .returned (.string (kZ t)) ∧ Below w.heap.size w w' := by
  have ho := hk.one
  refine aA (args := [.agg (aD t u).toArray]) Tryz.func104 rfl Tryz.ntmps104 (by simp) hμ ?_
  by_cases hm : t.m = 1
  · have hg : gY t = ⟨#[69]⟩ := by unfold gY; rw [if_pos hm]
    unfold kZ
    rw [hg]
    repeat' (first | refine KO ?_ | (refine KV (b := by ((with_reducible apply IA); exact rfl; exact rfl; decide)) (c := ?_)) | refine KI ?_ | refine NB fun b => ?_ | ((refine KB ?_ ?_ <;> intro hp)) | fail)
    all_goals (refine aB rfl rfl ?_; (repeat first | rw [if_pos (by omega)] | rw [if_neg (by omega)]); done)
  · have hg : gY t = ⟨#[107]⟩ := by unfold gY; rw [if_neg hm]
    unfold kZ
    rw [hg]
    repeat' (first | refine KO ?_ | (refine KV (b := by ((with_reducible apply IA); exact rfl; exact rfl; decide)) (c := ?_)) | refine KI ?_ | refine NB fun b => ?_ | ((refine KB ?_ ?_ <;> intro hp)) | fail)
    all_goals (refine aB rfl rfl ?_; (repeat first | rw [if_pos (by omega)] | rw [if_neg (by omega)]); done)
theorem OX (t : T) (u : Value) (w : World) (μ : Mem) (hμ : MOk μ w) (hk : KR μ t.kids u) :
    Calls Tryz.prog 71 #[.agg (aD t u).toArray] w fun e w' => e = .returned (.string (dO t)) ∧ Below w.heap.size w w' := by
  have ho := hk.one
  refine aA (args := [.agg (aD t u).toArray]) Tryz.func71 rfl Tryz.ntmps71 (by simp) hμ ?_
  unfold dO
  by_cases h21 : t.op = 21
  · rw [if_pos h21]
    repeat' (first | refine KO ?_ | refine KI ?_ | refine NB fun b => ?_ | fail)
    all_goals exact aB rfl rfl rfl
  rw [if_neg h21]
  by_cases h22 : t.op = 22
  · rw [if_pos h22]
    by_cases hs22 : t.n = 1
    · rw [if_pos hs22]
      repeat' (first | refine KO ?_ | refine KI ?_ | refine NB fun b => ?_ | fail)
      all_goals exact aB rfl rfl rfl
    · rw [if_neg hs22]
      repeat' (first | refine KO ?_ | refine KI ?_ | refine NB fun b => ?_ | fail)
      all_goals exact aB rfl rfl rfl
  rw [if_neg h22]
  by_cases h23 : t.op = 23
  · rw [if_pos h23]
    repeat' (first | refine KO ?_ | refine KI ?_ | refine NB fun b => ?_ | fail)
    all_goals exact aB rfl rfl rfl
  rw [if_neg h23]
  by_cases h37 : t.op = 37
  · rw [if_pos h37]
    repeat' (first | refine KO ?_ | refine KI ?_ | refine NB fun b => ?_ | fail)
    all_goals exact aB rfl rfl rfl
  rw [if_neg h37]
  by_cases h38 : t.op = 38
  · rw [if_pos h38]
    repeat' (first | refine KO ?_ | refine KI ?_ | refine NB fun b => ?_ | fail)
    all_goals exact aB rfl rfl rfl
  rw [if_neg h38]
  by_cases h39 : t.op = 39
  · rw [if_pos h39]
    repeat' (first | refine KO ?_ | ((with_reducible apply F1 104); exact rfl; exact EN; (exact fun w μc hw hse => JB t u w μc hw (hk.mono hse.le))) | refine KI ?_ | refine NB fun b => ?_ | fail)
    all_goals exact aB rfl rfl rfl
  rw [if_neg h39]
  by_cases h43 : t.op = 43
  · rw [if_pos h43]
    repeat' (first | refine KO ?_ | refine KI ?_ | refine NB fun b => ?_ | fail)
    all_goals exact aB rfl rfl rfl
  rw [if_neg h43]
  by_cases h44 : t.op = 44 ∨ t.op = 45 ∨ t.op = 52
  · rw [if_pos h44]
    repeat' (first | refine KO ?_ | refine KI ?_ | refine NB fun b => ?_ | ((refine KB ?_ ?_ <;> intro hp)) | fail)
    all_goals exact aB rfl rfl rfl
  rw [if_neg h44]
  by_cases h46 : t.op = 46
  · rw [if_pos h46]
    by_cases hs46 : t.s = ⟨#[61]⟩
    · rw [if_pos hs46]
      repeat' (first | refine KO ?_ | refine KI ?_ | refine NB fun b => ?_ | fail)
      all_goals exact aB rfl rfl rfl
    · rw [if_neg hs46]
      repeat' (first | refine KO ?_ | refine KI ?_ | refine NB fun b => ?_ | fail)
      all_goals exact aB rfl rfl rfl
  rw [if_neg h46]
  by_cases h47 : t.op = 47
  · rw [if_pos h47]
    repeat' (first | refine KO ?_ | refine KI ?_ | refine NB fun b => ?_ | fail)
    all_goals exact aB rfl rfl rfl
  rw [if_neg h47]
  by_cases h48 : t.op = 48
  · rw [if_pos h48]
    repeat' (first | refine KO ?_ | refine KI ?_ | refine NB fun b => ?_ | fail)
    all_goals exact aB rfl rfl rfl
  rw [if_neg h48]
  by_cases h49 : t.op = 49 ∨ t.op = 50
  · rw [if_pos h49]
    repeat' (first | refine KO ?_ | refine KI ?_ | refine NB fun b => ?_ | ((refine KB ?_ ?_ <;> intro hp)) | fail)
    all_goals exact aB rfl rfl rfl
  rw [if_neg h49]
  by_cases h51 : t.op = 51
  · rw [if_pos h51]
    repeat' (first | refine KO ?_ | refine KI ?_ | refine NB fun b => ?_ | fail)
    all_goals exact aB rfl rfl rfl
  rw [if_neg h51]
  by_cases h53 : t.op = 53
  · rw [if_pos h53]
    repeat' (first | refine KO ?_ | refine KI ?_ | refine NB fun b => ?_ | fail)
    all_goals exact aB rfl rfl rfl
  rw [if_neg h53]
  by_cases h54 : t.op = 54
  · rw [if_pos h54]
    by_cases hs54 : t.n = 1
    · rw [if_pos hs54]
      repeat' (first | refine KO ?_ | refine KI ?_ | refine NB fun b => ?_ | fail)
      all_goals exact aB rfl rfl rfl
    · rw [if_neg hs54]
      repeat' (first | refine KO ?_ | refine KI ?_ | refine NB fun b => ?_ | fail)
      all_goals exact aB rfl rfl rfl
  rw [if_neg h54]
  by_cases h60 : t.op = 60
  · rw [if_pos h60]
    repeat' (first | refine KO ?_ | refine KI ?_ | refine NB fun b => ?_ | fail)
    all_goals exact aB rfl rfl rfl
  rw [if_neg h60]
  by_cases h61 : t.op = 61
  · rw [if_pos h61]
    repeat' (first | refine KO ?_ | refine KI ?_ | refine NB fun b => ?_ | fail)
    all_goals exact aB rfl rfl rfl
  rw [if_neg h61]
  by_cases h62 : t.op = 62
  · rw [if_pos h62]
    by_cases hs62 : t.m = 1
    · rw [if_pos hs62]
      repeat' (first | refine KO ?_ | refine KI ?_ | refine NB fun b => ?_ | fail)
      all_goals exact aB rfl rfl rfl
    · rw [if_neg hs62]
      repeat' (first | refine KO ?_ | refine KI ?_ | refine NB fun b => ?_ | fail)
      all_goals exact aB rfl rfl rfl
  rw [if_neg h62]
  by_cases h63 : t.op = 63
  · rw [if_pos h63]
    repeat' (first | refine KO ?_ | refine KI ?_ | refine NB fun b => ?_ | fail)
    all_goals exact aB rfl rfl rfl
  rw [if_neg h63]
  by_cases h64 : t.op = 64
  · rw [if_pos h64]
    repeat' (first | refine KO ?_ | refine KI ?_ | refine NB fun b => ?_ | fail)
    all_goals exact aB rfl rfl rfl
  rw [if_neg h64]
  repeat' (first | refine KO ?_ | refine KI ?_ | refine NB fun b => ?_ | fail)
  all_goals exact aB rfl rfl rfl
theorem JU (t : T) (u : Value) (w : World) (μ : Mem) (hμ : MOk μ w) (hk : KR μ t.kids u) :
    Calls Tryz.prog 47 #[.agg (aD t u).toArray] w fun e w' => e = .returned (.string (aH t)) ∧ Below w.heap.size w w' := by
  have ho := hk.one
  refine aA (args := [.agg (aD t u).toArray]) Tryz.func47 rfl Tryz.ntmps47 (by simp) hμ ?_
  unfold aH
  by_cases h1 : t.op = 1 ∨ t.op = 6
  · rw [if_pos h1]
    repeat' (first | refine KO ?_ | refine KI ?_ | refine NB fun b => ?_ | ((refine KB ?_ ?_ <;> intro hp)) | fail)
    all_goals exact aB rfl rfl rfl
  rw [if_neg h1]
  by_cases h2 : t.op = 2
  · rw [if_pos h2]
    repeat' (first | refine KO ?_ | refine KI ?_ | refine NB fun b => ?_ | fail)
    all_goals exact aB rfl rfl rfl
  rw [if_neg h2]
  by_cases h3 : t.op = 3
  · rw [if_pos h3]
    repeat' (first | refine KO ?_ | refine KI ?_ | refine NB fun b => ?_ | fail)
    all_goals exact aB rfl rfl rfl
  rw [if_neg h3]
  by_cases h4 : t.op = 4
  · rw [if_pos h4]
    by_cases hs4 : (IntKind.i64.wrap (t.n.tdiv 128)).tmod 2 = 1
    · rw [if_pos hs4]
      repeat' (first | refine KO ?_ | (refine KV (b := by ((with_reducible apply RI); exact rfl; exact rfl; decide)) (c := ?_)) | refine KI ?_ | refine NB fun b => ?_ | fail)
      all_goals exact aB rfl rfl rfl
    · rw [if_neg hs4]
      repeat' (first | refine KO ?_ | (refine KV (b := by ((with_reducible apply RI); exact rfl; exact rfl; decide)) (c := ?_)) | refine KI ?_ | refine NB fun b => ?_ | fail)
      all_goals exact aB rfl rfl rfl
  rw [if_neg h4]
  by_cases h5 : t.op = 5
  · rw [if_pos h5]
    repeat' (first | refine KO ?_ | refine KI ?_ | refine NB fun b => ?_ | fail)
    all_goals exact aB rfl rfl rfl
  rw [if_neg h5]
  by_cases h7 : t.op = 7 ∨ t.op = 15 ∨ t.op = 16 ∨ t.op = 30 ∨ t.op = 31 ∨ t.op = 32 ∨ t.op = 33 ∨ t.op = 34 ∨ t.op = 35 ∨ t.op = 40
  · rw [if_pos h7]
    repeat' (first | refine KO ?_ | refine KI ?_ | refine NB fun b => ?_ | ((refine KB ?_ ?_ <;> intro hp)) | fail)
    all_goals exact aB rfl rfl rfl
  rw [if_neg h7]
  by_cases h8 : t.op = 8 ∨ t.op = 18 ∨ t.op = 41 ∨ t.op = 42
  · rw [if_pos h8]
    repeat' (first | refine KO ?_ | refine KI ?_ | refine NB fun b => ?_ | ((refine KB ?_ ?_ <;> intro hp)) | fail)
    all_goals exact aB rfl rfl rfl
  rw [if_neg h8]
  by_cases h9 : t.op = 9
  · rw [if_pos h9]
    repeat' (first | refine KO ?_ | refine KI ?_ | refine NB fun b => ?_ | fail)
    all_goals exact aB rfl rfl rfl
  rw [if_neg h9]
  by_cases h10 : t.op = 10
  · rw [if_pos h10]
    repeat' (first | refine KO ?_ | refine KI ?_ | refine NB fun b => ?_ | fail)
    all_goals exact aB rfl rfl rfl
  rw [if_neg h10]
  by_cases h11 : t.op = 11 ∨ t.op = 12
  · rw [if_pos h11]
    repeat' (first | refine KO ?_ | refine KI ?_ | refine NB fun b => ?_ | ((refine KB ?_ ?_ <;> intro hp)) | fail)
    all_goals exact aB rfl rfl rfl
  rw [if_neg h11]
  by_cases h13 : t.op = 13
  · rw [if_pos h13]
    repeat' (first | refine KO ?_ | refine KI ?_ | refine NB fun b => ?_ | fail)
    all_goals exact aB rfl rfl rfl
  rw [if_neg h13]
  by_cases h14 : t.op = 14
  · rw [if_pos h14]
    repeat' (first | refine KO ?_ | refine KI ?_ | refine NB fun b => ?_ | fail)
    all_goals exact aB rfl rfl rfl
  rw [if_neg h14]
  by_cases h17 : t.op = 17
  · rw [if_pos h17]
    repeat' (first | refine KO ?_ | refine KI ?_ | refine NB fun b => ?_ | fail)
    all_goals exact aB rfl rfl rfl
  rw [if_neg h17]
  by_cases h19 : t.op = 19
  · rw [if_pos h19]
    repeat' (first | refine KO ?_ | refine KI ?_ | refine NB fun b => ?_ | fail)
    all_goals exact aB rfl rfl rfl
  rw [if_neg h19]
  by_cases h20 : t.op = 20
  · rw [if_pos h20]
    repeat' (first | refine KO ?_ | refine KI ?_ | refine NB fun b => ?_ | fail)
    all_goals exact aB rfl rfl rfl
  rw [if_neg h20]
  repeat' (first | refine KO ?_ | ((with_reducible apply F1 71); exact rfl; exact EN; (exact fun w μc hw hse => OX t u w μc hw (hk.mono hse.le))) | refine KI ?_ | refine NB fun b => ?_ | fail)
  all_goals exact aB rfl rfl rfl
end Go.Proofs.YtocidaibmadekaaGreatDoor
namespace Go.Proofs.YtocidaibmadekaaGreatDoor
open Go.RowKit Go.Vcg
noncomputable def stB (t : T) : Bool :=
  if t.op = 1 ∨ t.op = 6 then dQ cB 0 (-1) t.kids
  else if t.op = 2 then dQ (ofT [3]) 1 (-1) t.kids
  else if t.op = 3 then bC [(aV, 0), (aK, 1)] t.kids
  else if t.op = 4 then bC (bM [ofT [5], rO t]) t.kids
  else if t.op = 5 then bC [(eiT [aV, ofT [63]], 2), (ofT [64], 1)] t.kids
  else if t.op = 7 ∨ t.op = 15 ∨ t.op = 16 then decide (t.kids.length = 0)
  else if t.op = 8 ∨ t.op = 18 then bC (bM [aK]) t.kids
  else if t.op = 9 then bC [(aK, 0), (cB, 0), (cB, 1)] t.kids
  else if t.op = 10 then bC (bM [ofT [2, 8, 7], eiT [aK, ofT [7]], eiT [aK, ofT [7]], cB]) t.kids
  else if t.op = 11 ∨ t.op = 12 then bC (bM [nK, aK, cB]) t.kids
  else if t.op = 13 then bC (bM [aK, cB]) t.kids
  else if t.op = 14 then bC (bM [cB, aK]) t.kids
  else if t.op = 17 then dQ aK 0 1 t.kids
  else if t.op = 20 then bC (bM [eiT [aV, ofT [7]], ofT [6]]) t.kids
  else if t.op = 21 then bC [(aK, 0), (ofT [22], 2)] t.kids
  else if t.op = 22 then (if t.n = 1 then dQ cB 0 (-1) t.kids else bC [(aK, 0), (cB, 2)] t.kids)
  else if t.op = 19 then EL t.kids
  else bC (bM [cB]) t.kids
noncomputable def exB (t : T) : Bool :=
  if t.op = 30 ∨ t.op = 31 ∨ t.op = 32 ∨ t.op = 33 ∨ t.op = 34 ∨ t.op = 35 ∨ t.op = 40 then decide (t.kids.length = 0)
  else if t.op = 36 then fP aK t.kids
  else if t.op = 37 then dQ (eiT [aK, ofT [40, 41]]) 0 (-1) t.kids
  else if t.op = 38 then dQ (ofT [39]) 0 (-1) t.kids
  else if t.op = 39 then kY t
  else if t.op = 41 ∨ t.op = 42 then bC (bM [aK]) t.kids
  else if t.op = 43 then bC (bM [dS]) t.kids
  else if t.op = 44 ∨ t.op = 45 ∨ t.op = 52 then dQ aK 2 2 t.kids
  else if t.op = 46 then (if t.s = ⟨#[61]⟩ then bC (bM [aV, aK]) t.kids else bC (bM [dS, aK]) t.kids)
  else if t.op = 47 then dQ aK 3 3 t.kids
  else if t.op = 48 then dQ aK 2 (-1) t.kids
  else if t.op = 49 ∨ t.op = 50 then bC [(aK, 0), (zJ, 2)] t.kids
  else if t.op = 51 then dQ aK 1 1 t.kids
  else if t.op = 53 then mC t.kids
  else if t.op = 54 then dQ aK t.n 1 t.kids
  else fB t
theorem vV (t : T) (u : Value) (w : World) (μ : Mem) (hμ : MOk μ w) (hk : KR μ t.kids u) (hs : t.size ≤ 100000) (hks : ∀ k ∈ t.kids, T.size k ≤ 100000 ∧ k.s.size ≤ 65536) :
    Calls Tryz.prog 80 #[.agg (aD t u).toArray] w fun e w' => e = .returned (.bool (stB t)) ∧ Below w.heap.size w w' := by
  unfold stB
  by_cases h_prog : t.op = 1 ∨ t.op = 6
  · rw [if_pos h_prog]
    exact WY t u w μ hμ hk hs hks h_prog
  rw [if_neg h_prog]
  by_cases h_var : t.op = 2
  · rw [if_pos h_var]
    exact aBb t u w μ hμ hk hs hks h_var
  rw [if_neg h_var]
  by_cases h_decl : t.op = 3
  · rw [if_pos h_decl]
    exact XC t u w μ hμ hk hs hks h_decl
  rw [if_neg h_decl]
  by_cases h_func : t.op = 4
  · rw [if_pos h_func]
    exact XA t u w μ hμ hk hs hks h_func
  rw [if_neg h_func]
  by_cases h_params : t.op = 5
  · rw [if_pos h_params]
    exact OF t u w μ hμ hk hs hks h_params
  rw [if_neg h_params]
  by_cases h_none : t.op = 7 ∨ t.op = 15 ∨ t.op = 16
  · rw [if_pos h_none]
    exact WZ t u w μ hμ hk hs hks h_none
  rw [if_neg h_none]
  by_cases h_expr : t.op = 8 ∨ t.op = 18
  · rw [if_pos h_expr]
    exact XB t u w μ hμ hk hs hks h_expr
  rw [if_neg h_expr]
  by_cases h_if : t.op = 9
  · rw [if_pos h_if]
    exact aDr t u w μ hμ hk hs hks h_if
  rw [if_neg h_if]
  by_cases h_for : t.op = 10
  · rw [if_pos h_for]
    exact aBe t u w μ hμ hk hs hks h_for
  rw [if_neg h_for]
  by_cases h_forin : t.op = 11 ∨ t.op = 12
  · rw [if_pos h_forin]
    exact RW t u w μ hμ hk hs hks h_forin
  rw [if_neg h_forin]
  by_cases h_while : t.op = 13
  · rw [if_pos h_while]
    exact RU t u w μ hμ hk hs hks h_while
  rw [if_neg h_while]
  by_cases h_do : t.op = 14
  · rw [if_pos h_do]
    exact aDs t u w μ hμ hk hs hks h_do
  rw [if_neg h_do]
  by_cases h_ret : t.op = 17
  · rw [if_pos h_ret]
    exact aBd t u w μ hμ hk hs hks h_ret
  rw [if_neg h_ret]
  by_cases h_catch : t.op = 20
  · rw [if_pos h_catch]
    exact RX t u w μ hμ hk hs hks h_catch
  rw [if_neg h_catch]
  by_cases h_switch : t.op = 21
  · rw [if_pos h_switch]
    exact OE t u w μ hμ hk hs hks h_switch
  rw [if_neg h_switch]
  by_cases h_case : t.op = 22
  · rw [if_pos h_case]
    exact XD t u w μ hμ hk hs hks h_case
  rw [if_neg h_case]
  by_cases h_try : t.op = 19
  · rw [if_pos h_try]
    exact aBc t u w μ hμ hk hs hks h_try
  rw [if_neg h_try]
  exact WX t u w μ hμ hk hs hks (by omega)
theorem uP (t : T) (u : Value) (w : World) (μ : Mem) (hμ : MOk μ w) (hk : KR μ t.kids u) (hs : t.size ≤ 100000) (hks : ∀ k ∈ t.kids, T.size k ≤ 100000 ∧ k.s.size ≤ 65536) (hsh : ∀ k ∈ t.kids, Sh' k) :
    Calls Tryz.prog 79 #[.agg (aD t u).toArray] w fun e w' => e = .returned (.bool (exB t)) ∧ Below w.heap.size w w' := by
  unfold exB
  by_cases h_none : t.op = 30 ∨ t.op = 31 ∨ t.op = 32 ∨ t.op = 33 ∨ t.op = 34 ∨ t.op = 35 ∨ t.op = 40
  · rw [if_pos h_none]
    exact ZT t u w μ hμ hk hs hks h_none
  rw [if_neg h_none]
  by_cases h_tmpl : t.op = 36
  · rw [if_pos h_tmpl]
    exact ZQ t u w μ hμ hk hs hks h_tmpl
  rw [if_neg h_tmpl]
  by_cases h_array : t.op = 37
  · rw [if_pos h_array]
    exact VL t u w μ hμ hk hs hks h_array
  rw [if_neg h_array]
  by_cases h_object : t.op = 38
  · rw [if_pos h_object]
    exact QS t u w μ hμ hk hs hks h_object
  rw [if_neg h_object]
  by_cases h_prop : t.op = 39
  · rw [if_pos h_prop]
    exact ZS t u w μ hμ hk hs hks h_prop
  rw [if_neg h_prop]
  by_cases h_spread : t.op = 41 ∨ t.op = 42
  · rw [if_pos h_spread]
    exact QR t u w μ hμ hk hs hks h_spread
  rw [if_neg h_spread]
  by_cases h_update : t.op = 43
  · rw [if_pos h_update]
    exact QQ t u w μ hμ hk hs hks h_update
  rw [if_neg h_update]
  by_cases h_bin : t.op = 44 ∨ t.op = 45 ∨ t.op = 52
  · rw [if_pos h_bin]
    exact aCy t u w μ hμ hk hs hks h_bin
  rw [if_neg h_bin]
  by_cases h_assignT : t.op = 46
  · rw [if_pos h_assignT]
    by_cases hss : t.s = ⟨#[61]⟩
    · rw [if_pos hss]
      exact KM t u w μ hμ hk hs hks h_assignT hss
    · rw [if_neg hss]
      exact KN t u w μ hμ hk hs hks h_assignT hss
  rw [if_neg h_assignT]
  by_cases h_cond : t.op = 47
  · rw [if_pos h_cond]
    exact ZU t u w μ hμ hk hs hks h_cond
  rw [if_neg h_cond]
  by_cases h_seq : t.op = 48
  · rw [if_pos h_seq]
    exact aCw t u w μ hμ hk hs hks h_seq
  rw [if_neg h_seq]
  by_cases h_call : t.op = 49 ∨ t.op = 50
  · rw [if_pos h_call]
    exact ZV t u w μ hμ hk hs hks h_call
  rw [if_neg h_call]
  by_cases h_dot : t.op = 51
  · rw [if_pos h_dot]
    exact aCx t u w μ hμ hk hs hks h_dot
  rw [if_neg h_dot]
  by_cases h_chain : t.op = 53
  · rw [if_pos h_chain]
    exact VK t u w μ hμ hk hs hks h_chain hsh
  rw [if_neg h_chain]
  by_cases h_yield : t.op = 54
  · rw [if_pos h_yield]
    exact VI t u w μ hμ hk hs hks h_yield
  rw [if_neg h_yield]
  exact ZR t u w μ hμ hk hs hks (by omega)
noncomputable def aE (t : T) : Bool := if t.op ≤ 23 then stB t else exB t
def onT (t : T) (i : Nat) (k : T) (spine : Bool) : Bool := decide (i = 0) && cW k && (decide (t.op = 53) || spine && cW t)
def Nd (t : T) (spine : Bool) : Prop := kU t.op = true ∧ gD t = true ∧ ¬(cW t = true ∧ t.n = 1 ∧ spine = false)
inductive Rt : T → Nat → Bool → Prop
  | mk {t : T} {deep : Nat} {spine : Bool} (hd : deep ≤ 200) (hn : Nd t spine) (hk : aE t = true) (hr : ∀ (i : Nat) (k : T), t.kids[i]? = some k → Rt k (deep + 1) (onT t i k spine)) : Rt t deep spine
noncomputable def rtB (t : T) (deep : Nat) (spine : Bool) : Bool := dB (Rt t deep spine)
theorem MG {t : T} {d : Nat} {s : Bool} (h : Rt t d s) : rtB t d s = true := by unfold rtB; exact VR h
theorem lV {t : T} {d : Nat} {s : Bool} (h : ¬Rt t d s) : rtB t d s = false := by unfold rtB; exact VS h
theorem dZ {t : T} {d : Nat} {s : Bool} (h : rtB t d s = true) : Rt t d s := by unfold rtB at h; exact NQ h
theorem eZ {t : T} {d : Nat} {s : Bool} (h : rtB t d s = false) : ¬Rt t d s := by unfold rtB at h; exact HQ h
theorem mX {t k : T} (h : Sh t) (hk : k ∈ t.kids) : Sh k := by
  cases h with
  | mk _ _ _ _ h => exact h k hk
theorem aAi {t : T} (h : Sh t) : eH t.op := by cases h; assumption
theorem zP {t : T} (h : Sh t) : t.s.size ≤ 4000 := by cases h; assumption
theorem RZ : ∀ {t : T}, Sh t → Sh' t := fun {t} => T.YN (p := fun t => Sh t → Sh' t) (fun t ih h => .mk (by have := zP h; omega) fun k hk => ih k hk (mX h hk)) t
attribute [local irreducible] kU gD stB exB rtB G GC GQ GA bX Calls IntKind.wrap Int.decLt Int.decLe
theorem IW : ∀ (n : Nat), n ≤ 100000 → ∀ (t : T) (u : Value) (deep : Nat) (spine : Bool) (w : World) (μ : Mem), MOk μ w → KR μ t.kids u → t.size ≤ n → deep ≤ 201 → Sh t → kX μ →
    Calls Tryz.prog 61 #[.agg (aD t u).toArray, .int .i64 deep, .bool spine] w fun e w' => e = .returned (.bool (rtB t deep spine)) ∧ Below w.heap.size w w' := by
  intro n
  induction n with
  | zero => intro _ t u d s w μ hμ hk hn; exact absurd hn (by rw [T.size_eq]; omega)
  | succ n ih =>
    intro hnb t u deep spine w μ hμ hk hn hdp hsh hT
    have ho := hk.one
    have hop := aAi hsh
    unfold eH at hop
    have hss := zP hsh
    have hks : ∀ k ∈ t.kids, T.size k ≤ 100000 ∧ k.s.size ≤ 65536 := fun k hk => by
      obtain ⟨i, hi⟩ := List.mem_iff_getElem?.1 hk
      have h1 := T.dH hi
      have h2 := zP (mX hsh hk)
      exact ⟨by omega, by omega⟩
    have hks' : ∀ k ∈ t.kids, Sh' k := fun k hk => RZ (mX hsh hk)
    have hlen := bK t
    obtain ⟨A, c, rfl, hlc, hkid⟩ := hk.form
    have c1 := fun (w : World) (μc : Mem) (hw : MOk μc w) (hle : MLe μ μc) => JT t.op hop w μc hw (hT.mono hle)
    have c2 := fun (w : World) (μc : Mem) (hw : MOk μc w) (hle : MLe μ μc) => DQ t _ w μc hw (hk.mono hle) (by omega) (by omega) (hT.mono hle)
    have c3 := fun (w : World) (μc : Mem) (hw : MOk μc w) (hle : MLe μ μc) => nI t _ w μc hw (hk.mono hle) (by omega) (by omega)
    have c4 := fun (w : World) (μc : Mem) (hw : MOk μc w) (hle : MLe μ μc) => vV t _ w μc hw (hk.mono hle) (by omega) hks
    have c5 := fun (w : World) (μc : Mem) (hw : MOk μc w) (hle : MLe μ μc) => uP t _ w μc hw (hk.mono hle) (by omega) hks hks'
    refine aA (args := [.agg (aD t (.slice A t.kids.length c)).toArray, .int .i64 deep, .bool spine]) Tryz.func61 rfl Tryz.ntmps61 (by simp) hμ ?_
    by_cases h1 : deep ≤ 200 ∧ Nd t spine
    · obtain ⟨hd, hnd⟩ := h1
      obtain ⟨hkn, hf, hl⟩ := id hnd
      rw [hkn] at c1
      rw [hf] at c2
      cases hkb : aE t
      · have hR : rtB t deep spine = false := lV fun h => by
          cases h with
          | mk _ _ h2 _ => rw [hkb] at h2; cases h2
        rw [hR]
        unfold aE at hkb
        repeat' (first | ((with_reducible show GC _ _ (Code.seq (Code.region 3 _ _) _) _ _ _ _); (apply bF)) | refine KO ?_ | ((with_reducible apply F1 76); exact rfl; exact EN; (exact fun w μc hw hse => c1 w μc hw hse.le)) | ((with_reducible apply F1 77); exact rfl; exact EN; (exact fun w μc hw hse => c2 w μc hw hse.le)) | ((with_reducible apply F1 78); exact rfl; exact EN; (exact fun w μc hw hse => c3 w μc hw hse.le)) | refine KI ?_ | refine NB fun b => ?_ | ((refine KB ?_ ?_ <;> intro hp)) | refine KG ?_ | fail)
        all_goals try (exfalso; apply hl; refine ⟨?_, ?_, ?_⟩ <;> assumption)
        all_goals
          refine gcs ?_
          by_cases h23 : t.op ≤ 23
          · rw [if_pos h23] at hkb
            rw [hkb] at c4
            repeat' (first | refine KO ?_ | ((with_reducible apply C1); exact rfl; exact EN; exact fun w μc hw hse => c4 w μc hw hse.le) | refine KI ?_ | fail)
            all_goals exact aB rfl rfl rfl
          · rw [if_neg h23] at hkb
            rw [hkb] at c5
            repeat' (first | refine KO ?_ | ((with_reducible apply C1); exact rfl; exact EN; exact fun w μc hw hse => c5 w μc hw hse.le) | refine KI ?_ | fail)
            all_goals exact aB rfl rfl rfl
      · have hkb' := hkb
        unfold aE at hkb'
        repeat' (first | ((with_reducible show GC _ _ (Code.seq (Code.seq (Code.region 1 _ _) _) _) _ _ _ _); (apply bF)) | refine KK ?_ | refine NB fun b => ?_ | fail)
        refine gcs (dY (ι := Unit) (fun _ => True) (fun _ => μ) (fun _ => [(1, .int .i64 deep), (2, .bool spine), (3, .pointer (some ⟨b, 0, none⟩))]) (fun _ => [.inl ⟨b, 24, 6, idx 0 (aD t (.slice A t.kids.length c))⟩]) ?_ ?_)
        · repeat' (first | refine KO ?_ | ((with_reducible apply F1 76); exact rfl; exact EN; (exact fun w μc hw hse => c1 w μc hw hse.le)) | ((with_reducible apply F1 77); exact rfl; exact EN; (exact fun w μc hw hse => c2 w μc hw hse.le)) | ((with_reducible apply F1 78); exact rfl; exact EN; (exact fun w μc hw hse => c3 w μc hw hse.le)) | refine KI ?_ | ((refine KB ?_ ?_ <;> intro hp)) | refine KG ?_ | fail)
          all_goals try (exfalso; apply hl; refine ⟨?_, ?_, ?_⟩ <;> assumption)
          all_goals exact J1 () trivial
        intro _ _
        by_cases h23 : t.op ≤ 23
        · rw [if_pos h23] at hkb'
          rw [hkb'] at c4
          repeat' (first | refine KO ?_ | ((with_reducible apply C1); exact rfl; exact EN; exact fun w μc hw hse => c4 w μc hw hse.le) | refine KI ?_ | fail)
          all_goals try (exfalso; omega)
          refine aX (ι := Nat) (fun i => i ≤ t.kids.length ∧ ∀ (j : Nat) (k : T), j < i → t.kids[j]? = some k → Rt k (deep + 1) (onT t j k spine)) (fun i => t.kids.length - i) (fun _ => μ) (fun i => [(47, .int .i64 i), (46, .int .i64 t.kids.length), (45, .slice A t.kids.length c), (1, .int .i64 deep), (2, .bool spine), (3, .pointer (some ⟨b, 0, none⟩))]) (fun _ => [.inl ⟨b, 24, 6, idx 0 (aD t (.slice A t.kids.length c))⟩]) 0 ⟨by omega, fun j _ h => absurd h (by omega)⟩ (fun a w hs => J5 hs) ?_
          rintro i ⟨hi, hok⟩
          by_cases hlt : i < t.kids.length
          · have hkk : t.kids[i]? = some t.kids[i] := List.getElem?_eq_getElem hlt
            generalize t.kids[i] = k at hkk
            obtain ⟨ad, x, rfl, hm, hox, hkx⟩ := hkid i k hkk
            have hsz := T.dH hkk
            have hshk := mX hsh (List.mem_of_getElem? hkk)
            have hskk := zP hshk
            have ck := fun (w : World) (μc : Mem) (hw : MOk μc w) (hle : MLe μ μc) => nI k _ w μc hw (hkx.mono hle) (by omega) (by omega)
            have hnext : Rt k (deep + 1) (onT t i k spine) → ∀ (j : Nat) (k : T), j < i + 1 → t.kids[j]? = some k → Rt k (deep + 1) (onT t j k spine) := fun h j k' hj hk' => by
              rcases Nat.lt_or_ge j i with h1 | h1
              · exact hok j k' h1 hk'
              · obtain rfl : j = i := by omega
                rw [hkk] at hk'
                cases hk'
                exact h
            by_cases hi0 : i = 0
            · subst hi0
              cases hlk : cW k
              · rw [hlk] at ck
                have hon : onT t 0 k spine = false := by simp [onT, hlk]
                cases hq : rtB k (deep + 1) false
                · have hR : rtB t deep spine = false := lV fun h => eZ hq (by cases h with | mk _ _ _ h4 => exact hon ▸ h4 0 k hkk)
                  rw [hR]
                  have hcall := fun (w : World) (μc : Mem) (hw : MOk μc w) (hle : MLe μ μc) => hq ▸ ih (by omega) k x (deep + 1) false w μc hw (hkx.mono hle) (by omega) (by omega) hshk (hT.mono hle)
                  repeat' (first | refine KO ?_ | ((with_reducible apply F1 78); exact rfl; exact EN; (exact fun w μc hw hse => ck w μc hw hse.le)) | ((with_reducible apply F1 61); exact rfl; exact EN; (exact fun w μc hw hse => hcall w μc hw hse.le)) | (refine KV (b := by first | exact U1 0 | exact U4 hm) (c := ?_)) | refine KI ?_ | refine NB fun b => ?_ | fail)
                  all_goals exact aB rfl rfl rfl
                · have hnx := hnext (by rw [hon]; exact dZ hq)
                  have hcall := fun (w : World) (μc : Mem) (hw : MOk μc w) (hle : MLe μ μc) => hq ▸ ih (by omega) k x (deep + 1) false w μc hw (hkx.mono hle) (by omega) (by omega) hshk (hT.mono hle)
                  repeat' (first | refine KO ?_ | ((with_reducible apply F1 78); exact rfl; exact EN; (exact fun w μc hw hse => ck w μc hw hse.le)) | ((with_reducible apply F1 61); exact rfl; exact EN; (exact fun w μc hw hse => hcall w μc hw hse.le)) | (refine KV (b := by first | exact U1 0 | exact U4 hm) (c := ?_)) | refine KI ?_ | refine NB fun b => ?_ | fail)
                  all_goals exact J2 (0 + 1) ⟨by omega, hnx⟩ (by omega)
              · rw [hlk] at ck
                by_cases h53 : t.op = 53
                · have hon : onT t 0 k spine = true := by simp [onT, hlk, h53]
                  cases hq : rtB k (deep + 1) true
                  · have hR : rtB t deep spine = false := lV fun h => eZ hq (by cases h with | mk _ _ _ h4 => exact hon ▸ h4 0 k hkk)
                    rw [hR]
                    have hcall := fun (w : World) (μc : Mem) (hw : MOk μc w) (hle : MLe μ μc) => hq ▸ ih (by omega) k x (deep + 1) true w μc hw (hkx.mono hle) (by omega) (by omega) hshk (hT.mono hle)
                    repeat' (first | refine KO ?_ | ((with_reducible apply F1 78); exact rfl; exact EN; (exact fun w μc hw hse => ck w μc hw hse.le)) | ((with_reducible apply F1 61); exact rfl; exact EN; (exact fun w μc hw hse => hcall w μc hw hse.le)) | (refine KV (b := by first | exact U1 0 | exact U4 hm) (c := ?_)) | refine KI ?_ | refine NB fun b => ?_ | refine KG ?_ | fail)
                    all_goals exact aB rfl rfl rfl
                  · have hnx := hnext (by rw [hon]; exact dZ hq)
                    have hcall := fun (w : World) (μc : Mem) (hw : MOk μc w) (hle : MLe μ μc) => hq ▸ ih (by omega) k x (deep + 1) true w μc hw (hkx.mono hle) (by omega) (by omega) hshk (hT.mono hle)
                    repeat' (first | refine KO ?_ | ((with_reducible apply F1 78); exact rfl; exact EN; (exact fun w μc hw hse => ck w μc hw hse.le)) | ((with_reducible apply F1 61); exact rfl; exact EN; (exact fun w μc hw hse => hcall w μc hw hse.le)) | (refine KV (b := by first | exact U1 0 | exact U4 hm) (c := ?_)) | refine KI ?_ | refine NB fun b => ?_ | refine KG ?_ | fail)
                    all_goals exact J2 (0 + 1) ⟨by omega, hnx⟩ (by omega)
                · cases spine
                  · skip
                    have hon : onT t 0 k false = false := by simp [onT, hlk, h53]
                    cases hq : rtB k (deep + 1) false
                    · have hR : rtB t deep false = false := lV fun h => eZ hq (by cases h with | mk _ _ _ h4 => exact hon ▸ h4 0 k hkk)
                      rw [hR]
                      have hcall := fun (w : World) (μc : Mem) (hw : MOk μc w) (hle : MLe μ μc) => hq ▸ ih (by omega) k x (deep + 1) false w μc hw (hkx.mono hle) (by omega) (by omega) hshk (hT.mono hle)
                      repeat' (first | refine KO ?_ | ((with_reducible apply F1 78); exact rfl; exact EN; (exact fun w μc hw hse => ck w μc hw hse.le)) | ((with_reducible apply F1 61); exact rfl; exact EN; (exact fun w μc hw hse => hcall w μc hw hse.le)) | (refine KV (b := by first | exact U1 0 | exact U4 hm) (c := ?_)) | refine KI ?_ | refine NB fun b => ?_ | refine KG ?_ | fail)
                      all_goals exact aB rfl rfl rfl
                    · have hnx := hnext (by rw [hon]; exact dZ hq)
                      have hcall := fun (w : World) (μc : Mem) (hw : MOk μc w) (hle : MLe μ μc) => hq ▸ ih (by omega) k x (deep + 1) false w μc hw (hkx.mono hle) (by omega) (by omega) hshk (hT.mono hle)
                      repeat' (first | refine KO ?_ | ((with_reducible apply F1 78); exact rfl; exact EN; (exact fun w μc hw hse => ck w μc hw hse.le)) | ((with_reducible apply F1 61); exact rfl; exact EN; (exact fun w μc hw hse => hcall w μc hw hse.le)) | (refine KV (b := by first | exact U1 0 | exact U4 hm) (c := ?_)) | refine KI ?_ | refine NB fun b => ?_ | refine KG ?_ | fail)
                      all_goals exact J2 (0 + 1) ⟨by omega, hnx⟩ (by omega)
                  · cases hlt2 : cW t
                    · rw [hlt2] at c3
                      have hon : onT t 0 k true = false := by simp [onT, hlk, h53, hlt2]
                      cases hq : rtB k (deep + 1) false
                      · have hR : rtB t deep true = false := lV fun h => eZ hq (by cases h with | mk _ _ _ h4 => exact hon ▸ h4 0 k hkk)
                        rw [hR]
                        have hcall := fun (w : World) (μc : Mem) (hw : MOk μc w) (hle : MLe μ μc) => hq ▸ ih (by omega) k x (deep + 1) false w μc hw (hkx.mono hle) (by omega) (by omega) hshk (hT.mono hle)
                        repeat' (first | refine KO ?_ | ((with_reducible apply F1 78); exact rfl; exact EN; first | (exact fun w μc hw hse => ck w μc hw hse.le) | (exact fun w μc hw hse => c3 w μc hw hse.le)) | ((with_reducible apply F1 61); exact rfl; exact EN; (exact fun w μc hw hse => hcall w μc hw hse.le)) | (refine KV (b := by first | exact U1 0 | exact U4 hm) (c := ?_)) | refine KI ?_ | refine NB fun b => ?_ | refine KG ?_ | fail)
                        all_goals exact aB rfl rfl rfl
                      · have hnx := hnext (by rw [hon]; exact dZ hq)
                        have hcall := fun (w : World) (μc : Mem) (hw : MOk μc w) (hle : MLe μ μc) => hq ▸ ih (by omega) k x (deep + 1) false w μc hw (hkx.mono hle) (by omega) (by omega) hshk (hT.mono hle)
                        repeat' (first | refine KO ?_ | ((with_reducible apply F1 78); exact rfl; exact EN; first | (exact fun w μc hw hse => ck w μc hw hse.le) | (exact fun w μc hw hse => c3 w μc hw hse.le)) | ((with_reducible apply F1 61); exact rfl; exact EN; (exact fun w μc hw hse => hcall w μc hw hse.le)) | (refine KV (b := by first | exact U1 0 | exact U4 hm) (c := ?_)) | refine KI ?_ | refine NB fun b => ?_ | refine KG ?_ | fail)
                        all_goals exact J2 (0 + 1) ⟨by omega, hnx⟩ (by omega)
                    · rw [hlt2] at c3
                      have hon : onT t 0 k true = true := by simp [onT, hlk, h53, hlt2]
                      cases hq : rtB k (deep + 1) true
                      · have hR : rtB t deep true = false := lV fun h => eZ hq (by cases h with | mk _ _ _ h4 => exact hon ▸ h4 0 k hkk)
                        rw [hR]
                        have hcall := fun (w : World) (μc : Mem) (hw : MOk μc w) (hle : MLe μ μc) => hq ▸ ih (by omega) k x (deep + 1) true w μc hw (hkx.mono hle) (by omega) (by omega) hshk (hT.mono hle)
                        repeat' (first | refine KO ?_ | ((with_reducible apply F1 78); exact rfl; exact EN; first | (exact fun w μc hw hse => ck w μc hw hse.le) | (exact fun w μc hw hse => c3 w μc hw hse.le)) | ((with_reducible apply F1 61); exact rfl; exact EN; (exact fun w μc hw hse => hcall w μc hw hse.le)) | (refine KV (b := by first | exact U1 0 | exact U4 hm) (c := ?_)) | refine KI ?_ | refine NB fun b => ?_ | refine KG ?_ | fail)
                        all_goals exact aB rfl rfl rfl
                      · have hnx := hnext (by rw [hon]; exact dZ hq)
                        have hcall := fun (w : World) (μc : Mem) (hw : MOk μc w) (hle : MLe μ μc) => hq ▸ ih (by omega) k x (deep + 1) true w μc hw (hkx.mono hle) (by omega) (by omega) hshk (hT.mono hle)
                        repeat' (first | refine KO ?_ | ((with_reducible apply F1 78); exact rfl; exact EN; first | (exact fun w μc hw hse => ck w μc hw hse.le) | (exact fun w μc hw hse => c3 w μc hw hse.le)) | ((with_reducible apply F1 61); exact rfl; exact EN; (exact fun w μc hw hse => hcall w μc hw hse.le)) | (refine KV (b := by first | exact U1 0 | exact U4 hm) (c := ?_)) | refine KI ?_ | refine NB fun b => ?_ | refine KG ?_ | fail)
                        all_goals exact J2 (0 + 1) ⟨by omega, hnx⟩ (by omega)
            · skip
              have hon : onT t i k spine = false := by simp [onT, hi0]
              cases hq : rtB k (deep + 1) false
              · have hR : rtB t deep spine = false := lV fun h => eZ hq (by cases h with | mk _ _ _ h4 => exact hon ▸ h4 i k hkk)
                rw [hR]
                have hcall := fun (w : World) (μc : Mem) (hw : MOk μc w) (hle : MLe μ μc) => hq ▸ ih (by omega) k x (deep + 1) false w μc hw (hkx.mono hle) (by omega) (by omega) hshk (hT.mono hle)
                repeat' (first | refine KO ?_ | ((with_reducible apply F1 61); exact rfl; exact EN; (exact fun w μc hw hse => hcall w μc hw hse.le)) | (refine KV (b := by first | exact U1 i | exact U4 hm) (c := ?_)) | refine KI ?_ | refine NB fun b => ?_ | refine KG ?_ | fail)
                all_goals exact aB rfl rfl rfl
              · have hnx := hnext (by rw [hon]; exact dZ hq)
                have hcall := fun (w : World) (μc : Mem) (hw : MOk μc w) (hle : MLe μ μc) => hq ▸ ih (by omega) k x (deep + 1) false w μc hw (hkx.mono hle) (by omega) (by omega) hshk (hT.mono hle)
                repeat' (first | refine KO ?_ | ((with_reducible apply F1 61); exact rfl; exact EN; (exact fun w μc hw hse => hcall w μc hw hse.le)) | (refine KV (b := by first | exact U1 i | exact U4 hm) (c := ?_)) | refine KI ?_ | refine NB fun b => ?_ | refine KG ?_ | fail)
                all_goals exact J2 (i + 1) ⟨by omega, hnx⟩ (by omega)
          · have hR : rtB t deep spine = true := MG (.mk hd hnd hkb fun j k hj => hok j k (by have := (List.getElem?_eq_some_iff.1 hj).1; omega) hj)
            rw [hR]
            repeat' (first | refine KK ?_ | fail)
            all_goals exact aB rfl rfl rfl
        · rw [if_neg h23] at hkb'
          rw [hkb'] at c5
          repeat' (first | refine KO ?_ | ((with_reducible apply C1); exact rfl; exact EN; exact fun w μc hw hse => c5 w μc hw hse.le) | refine KI ?_ | fail)
          all_goals try (exfalso; omega)
          refine aX (ι := Nat) (fun i => i ≤ t.kids.length ∧ ∀ (j : Nat) (k : T), j < i → t.kids[j]? = some k → Rt k (deep + 1) (onT t j k spine)) (fun i => t.kids.length - i) (fun _ => μ) (fun i => [(47, .int .i64 i), (46, .int .i64 t.kids.length), (45, .slice A t.kids.length c), (1, .int .i64 deep), (2, .bool spine), (3, .pointer (some ⟨b, 0, none⟩))]) (fun _ => [.inl ⟨b, 24, 6, idx 0 (aD t (.slice A t.kids.length c))⟩]) 0 ⟨by omega, fun j _ h => absurd h (by omega)⟩ (fun a w hs => J5 hs) ?_
          rintro i ⟨hi, hok⟩
          by_cases hlt : i < t.kids.length
          · have hkk : t.kids[i]? = some t.kids[i] := List.getElem?_eq_getElem hlt
            generalize t.kids[i] = k at hkk
            obtain ⟨ad, x, rfl, hm, hox, hkx⟩ := hkid i k hkk
            have hsz := T.dH hkk
            have hshk := mX hsh (List.mem_of_getElem? hkk)
            have hskk := zP hshk
            have ck := fun (w : World) (μc : Mem) (hw : MOk μc w) (hle : MLe μ μc) => nI k _ w μc hw (hkx.mono hle) (by omega) (by omega)
            have hnext : Rt k (deep + 1) (onT t i k spine) → ∀ (j : Nat) (k : T), j < i + 1 → t.kids[j]? = some k → Rt k (deep + 1) (onT t j k spine) := fun h j k' hj hk' => by
              rcases Nat.lt_or_ge j i with h1 | h1
              · exact hok j k' h1 hk'
              · obtain rfl : j = i := by omega
                rw [hkk] at hk'
                cases hk'
                exact h
            by_cases hi0 : i = 0
            · subst hi0
              cases hlk : cW k
              · rw [hlk] at ck
                have hon : onT t 0 k spine = false := by simp [onT, hlk]
                cases hq : rtB k (deep + 1) false
                · have hR : rtB t deep spine = false := lV fun h => eZ hq (by cases h with | mk _ _ _ h4 => exact hon ▸ h4 0 k hkk)
                  rw [hR]
                  have hcall := fun (w : World) (μc : Mem) (hw : MOk μc w) (hle : MLe μ μc) => hq ▸ ih (by omega) k x (deep + 1) false w μc hw (hkx.mono hle) (by omega) (by omega) hshk (hT.mono hle)
                  repeat' (first | refine KO ?_ | ((with_reducible apply F1 78); exact rfl; exact EN; (exact fun w μc hw hse => ck w μc hw hse.le)) | ((with_reducible apply F1 61); exact rfl; exact EN; (exact fun w μc hw hse => hcall w μc hw hse.le)) | (refine KV (b := by first | exact U1 0 | exact U4 hm) (c := ?_)) | refine KI ?_ | refine NB fun b => ?_ | fail)
                  all_goals exact aB rfl rfl rfl
                · have hnx := hnext (by rw [hon]; exact dZ hq)
                  have hcall := fun (w : World) (μc : Mem) (hw : MOk μc w) (hle : MLe μ μc) => hq ▸ ih (by omega) k x (deep + 1) false w μc hw (hkx.mono hle) (by omega) (by omega) hshk (hT.mono hle)
                  repeat' (first | refine KO ?_ | ((with_reducible apply F1 78); exact rfl; exact EN; (exact fun w μc hw hse => ck w μc hw hse.le)) | ((with_reducible apply F1 61); exact rfl; exact EN; (exact fun w μc hw hse => hcall w μc hw hse.le)) | (refine KV (b := by first | exact U1 0 | exact U4 hm) (c := ?_)) | refine KI ?_ | refine NB fun b => ?_ | fail)
                  all_goals exact J2 (0 + 1) ⟨by omega, hnx⟩ (by omega)
              · rw [hlk] at ck
                by_cases h53 : t.op = 53
                · have hon : onT t 0 k spine = true := by simp [onT, hlk, h53]
                  cases hq : rtB k (deep + 1) true
                  · have hR : rtB t deep spine = false := lV fun h => eZ hq (by cases h with | mk _ _ _ h4 => exact hon ▸ h4 0 k hkk)
                    rw [hR]
                    have hcall := fun (w : World) (μc : Mem) (hw : MOk μc w) (hle : MLe μ μc) => hq ▸ ih (by omega) k x (deep + 1) true w μc hw (hkx.mono hle) (by omega) (by omega) hshk (hT.mono hle)
                    repeat' (first | refine KO ?_ | ((with_reducible apply F1 78); exact rfl; exact EN; (exact fun w μc hw hse => ck w μc hw hse.le)) | ((with_reducible apply F1 61); exact rfl; exact EN; (exact fun w μc hw hse => hcall w μc hw hse.le)) | (refine KV (b := by first | exact U1 0 | exact U4 hm) (c := ?_)) | refine KI ?_ | refine NB fun b => ?_ | refine KG ?_ | fail)
                    all_goals exact aB rfl rfl rfl
                  · have hnx := hnext (by rw [hon]; exact dZ hq)
                    have hcall := fun (w : World) (μc : Mem) (hw : MOk μc w) (hle : MLe μ μc) => hq ▸ ih (by omega) k x (deep + 1) true w μc hw (hkx.mono hle) (by omega) (by omega) hshk (hT.mono hle)
                    repeat' (first | refine KO ?_ | ((with_reducible apply F1 78); exact rfl; exact EN; (exact fun w μc hw hse => ck w μc hw hse.le)) | ((with_reducible apply F1 61); exact rfl; exact EN; (exact fun w μc hw hse => hcall w μc hw hse.le)) | (refine KV (b := by first | exact U1 0 | exact U4 hm) (c := ?_)) | refine KI ?_ | refine NB fun b => ?_ | refine KG ?_ | fail)
                    all_goals exact J2 (0 + 1) ⟨by omega, hnx⟩ (by omega)
                · cases spine
                  · skip
                    have hon : onT t 0 k false = false := by simp [onT, hlk, h53]
                    cases hq : rtB k (deep + 1) false
                    · have hR : rtB t deep false = false := lV fun h => eZ hq (by cases h with | mk _ _ _ h4 => exact hon ▸ h4 0 k hkk)
                      rw [hR]
                      have hcall := fun (w : World) (μc : Mem) (hw : MOk μc w) (hle : MLe μ μc) => hq ▸ ih (by omega) k x (deep + 1) false w μc hw (hkx.mono hle) (by omega) (by omega) hshk (hT.mono hle)
                      repeat' (first | refine KO ?_ | ((with_reducible apply F1 78); exact rfl; exact EN; (exact fun w μc hw hse => ck w μc hw hse.le)) | ((with_reducible apply F1 61); exact rfl; exact EN; (exact fun w μc hw hse => hcall w μc hw hse.le)) | (refine KV (b := by first | exact U1 0 | exact U4 hm) (c := ?_)) | refine KI ?_ | refine NB fun b => ?_ | refine KG ?_ | fail)
                      all_goals exact aB rfl rfl rfl
                    · have hnx := hnext (by rw [hon]; exact dZ hq)
                      have hcall := fun (w : World) (μc : Mem) (hw : MOk μc w) (hle : MLe μ μc) => hq ▸ ih (by omega) k x (deep + 1) false w μc hw (hkx.mono hle) (by omega) (by omega) hshk (hT.mono hle)
                      repeat' (first | refine KO ?_ | ((with_reducible apply F1 78); exact rfl; exact EN; (exact fun w μc hw hse => ck w μc hw hse.le)) | ((with_reducible apply F1 61); exact rfl; exact EN; (exact fun w μc hw hse => hcall w μc hw hse.le)) | (refine KV (b := by first | exact U1 0 | exact U4 hm) (c := ?_)) | refine KI ?_ | refine NB fun b => ?_ | refine KG ?_ | fail)
                      all_goals exact J2 (0 + 1) ⟨by omega, hnx⟩ (by omega)
                  · cases hlt2 : cW t
                    · rw [hlt2] at c3
                      have hon : onT t 0 k true = false := by simp [onT, hlk, h53, hlt2]
                      cases hq : rtB k (deep + 1) false
                      · have hR : rtB t deep true = false := lV fun h => eZ hq (by cases h with | mk _ _ _ h4 => exact hon ▸ h4 0 k hkk)
                        rw [hR]
                        have hcall := fun (w : World) (μc : Mem) (hw : MOk μc w) (hle : MLe μ μc) => hq ▸ ih (by omega) k x (deep + 1) false w μc hw (hkx.mono hle) (by omega) (by omega) hshk (hT.mono hle)
                        repeat' (first | refine KO ?_ | ((with_reducible apply F1 78); exact rfl; exact EN; first | (exact fun w μc hw hse => ck w μc hw hse.le) | (exact fun w μc hw hse => c3 w μc hw hse.le)) | ((with_reducible apply F1 61); exact rfl; exact EN; (exact fun w μc hw hse => hcall w μc hw hse.le)) | (refine KV (b := by first | exact U1 0 | exact U4 hm) (c := ?_)) | refine KI ?_ | refine NB fun b => ?_ | refine KG ?_ | fail)
                        all_goals exact aB rfl rfl rfl
                      · have hnx := hnext (by rw [hon]; exact dZ hq)
                        have hcall := fun (w : World) (μc : Mem) (hw : MOk μc w) (hle : MLe μ μc) => hq ▸ ih (by omega) k x (deep + 1) false w μc hw (hkx.mono hle) (by omega) (by omega) hshk (hT.mono hle)
                        repeat' (first | refine KO ?_ | ((with_reducible apply F1 78); exact rfl; exact EN; first | (exact fun w μc hw hse => ck w μc hw hse.le) | (exact fun w μc hw hse => c3 w μc hw hse.le)) | ((with_reducible apply F1 61); exact rfl; exact EN; (exact fun w μc hw hse => hcall w μc hw hse.le)) | (refine KV (b := by first | exact U1 0 | exact U4 hm) (c := ?_)) | refine KI ?_ | refine NB fun b => ?_ | refine KG ?_ | fail)
                        all_goals exact J2 (0 + 1) ⟨by omega, hnx⟩ (by omega)
                    · rw [hlt2] at c3
                      have hon : onT t 0 k true = true := by simp [onT, hlk, h53, hlt2]
                      cases hq : rtB k (deep + 1) true
                      · have hR : rtB t deep true = false := lV fun h => eZ hq (by cases h with | mk _ _ _ h4 => exact hon ▸ h4 0 k hkk)
                        rw [hR]
                        have hcall := fun (w : World) (μc : Mem) (hw : MOk μc w) (hle : MLe μ μc) => hq ▸ ih (by omega) k x (deep + 1) true w μc hw (hkx.mono hle) (by omega) (by omega) hshk (hT.mono hle)
                        repeat' (first | refine KO ?_ | ((with_reducible apply F1 78); exact rfl; exact EN; first | (exact fun w μc hw hse => ck w μc hw hse.le) | (exact fun w μc hw hse => c3 w μc hw hse.le)) | ((with_reducible apply F1 61); exact rfl; exact EN; (exact fun w μc hw hse => hcall w μc hw hse.le)) | (refine KV (b := by first | exact U1 0 | exact U4 hm) (c := ?_)) | refine KI ?_ | refine NB fun b => ?_ | refine KG ?_ | fail)
                        all_goals exact aB rfl rfl rfl
                      · have hnx := hnext (by rw [hon]; exact dZ hq)
                        have hcall := fun (w : World) (μc : Mem) (hw : MOk μc w) (hle : MLe μ μc) => hq ▸ ih (by omega) k x (deep + 1) true w μc hw (hkx.mono hle) (by omega) (by omega) hshk (hT.mono hle)
                        repeat' (first | refine KO ?_ | ((with_reducible apply F1 78); exact rfl; exact EN; first | (exact fun w μc hw hse => ck w μc hw hse.le) | (exact fun w μc hw hse => c3 w μc hw hse.le)) | ((with_reducible apply F1 61); exact rfl; exact EN; (exact fun w μc hw hse => hcall w μc hw hse.le)) | (refine KV (b := by first | exact U1 0 | exact U4 hm) (c := ?_)) | refine KI ?_ | refine NB fun b => ?_ | refine KG ?_ | fail)
                        all_goals exact J2 (0 + 1) ⟨by omega, hnx⟩ (by omega)
            · skip
              have hon : onT t i k spine = false := by simp [onT, hi0]
              cases hq : rtB k (deep + 1) false
              · have hR : rtB t deep spine = false := lV fun h => eZ hq (by cases h with | mk _ _ _ h4 => exact hon ▸ h4 i k hkk)
                rw [hR]
                have hcall := fun (w : World) (μc : Mem) (hw : MOk μc w) (hle : MLe μ μc) => hq ▸ ih (by omega) k x (deep + 1) false w μc hw (hkx.mono hle) (by omega) (by omega) hshk (hT.mono hle)
                repeat' (first | refine KO ?_ | ((with_reducible apply F1 61); exact rfl; exact EN; (exact fun w μc hw hse => hcall w μc hw hse.le)) | (refine KV (b := by first | exact U1 i | exact U4 hm) (c := ?_)) | refine KI ?_ | refine NB fun b => ?_ | refine KG ?_ | fail)
                all_goals exact aB rfl rfl rfl
              · have hnx := hnext (by rw [hon]; exact dZ hq)
                have hcall := fun (w : World) (μc : Mem) (hw : MOk μc w) (hle : MLe μ μc) => hq ▸ ih (by omega) k x (deep + 1) false w μc hw (hkx.mono hle) (by omega) (by omega) hshk (hT.mono hle)
                repeat' (first | refine KO ?_ | ((with_reducible apply F1 61); exact rfl; exact EN; (exact fun w μc hw hse => hcall w μc hw hse.le)) | (refine KV (b := by first | exact U1 i | exact U4 hm) (c := ?_)) | refine KI ?_ | refine NB fun b => ?_ | refine KG ?_ | fail)
                all_goals exact J2 (i + 1) ⟨by omega, hnx⟩ (by omega)
          · have hR : rtB t deep spine = true := MG (.mk hd hnd hkb fun j k hj => hok j k (by have := (List.getElem?_eq_some_iff.1 hj).1; omega) hj)
            rw [hR]
            repeat' (first | refine KK ?_ | fail)
            all_goals exact aB rfl rfl rfl
    · have hR : rtB t deep spine = false := lV fun h => by
        cases h with
        | mk h2 h3 _ _ => exact h1 ⟨h2, h3⟩
      rw [hR]
      unfold Nd at h1
      repeat' (first | ((with_reducible show GC _ _ (Code.seq (Code.region 3 _ _) _) _ _ _ _); (apply bF)) | refine KO ?_ | ((with_reducible apply F1 76); exact rfl; exact EN; (exact fun w μc hw hse => c1 w μc hw hse.le)) | ((with_reducible apply F1 77); exact rfl; exact EN; (exact fun w μc hw hse => c2 w μc hw hse.le)) | ((with_reducible apply F1 78); exact rfl; exact EN; (exact fun w μc hw hse => c3 w μc hw hse.le)) | refine KI ?_ | refine NB fun b => ?_ | ((refine KB ?_ ?_ <;> intro hp)) | refine KG ?_ | fail)
      all_goals first | exact aB rfl rfl rfl | (exfalso; clear c1 c2 c3 c4 c5 hk hkid hμ hT hks hks' hsh ih; simp_all; omega)
end Go.Proofs.YtocidaibmadekaaGreatDoor
