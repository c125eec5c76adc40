/- The reference's prop, more and Kinds: the patterns of kinds. (and what leans on it). No statement of the seat is proved here. -/
import Derived.Test.YtfabmichdhbiaaaGreatDoorQas
import Derived.Test.YtfabmichdhbiaaaGreatDoorQae
import Derived.Test.YtfabmichdhbiaaaGreatDoorQad
import Derived.Test.YtfabmichdhbiaaaGreatDoorQac
set_option maxRecDepth 20000
set_option maxHeartbeats 2000000
namespace Go.Proofs.YtfabmichdhbiaaaGreatDoor
open Go.RowKit Go.Vcg
def keyS (t : T) : ByteArray := if t.m = 1 then ⟨#[69]⟩ else ⟨#[107]⟩
def propS (t : T) : ByteArray :=
  if t.n = 0 then keyS t ++ ⟨#[69]⟩ else if t.n = 1 then keyS t ++ ⟨#[103]⟩ else if t.n = 2 then keyS t ++ ⟨#[115]⟩ else if t.n = 3 then ⟨#[119]⟩ else if t.n = 4 then ⟨#[69]⟩ else if t.n = 5 then keyS t ++ ⟨#[109]⟩ else ⟨#[33]⟩
def moreS (t : T) : ByteArray :=
  if t.op = 21 then ⟨#[69, 75, 42]⟩
  else if t.op = 22 then (if t.n = 1 then ⟨#[83, 42]⟩ else ⟨#[69, 83, 42]⟩)
  else if t.op = 23 then ⟨#[83]⟩
  else if t.op = 37 then ⟨#[65, 42]⟩
  else if t.op = 38 then ⟨#[82, 42]⟩
  else if t.op = 39 then (propS t)
  else if t.op = 43 then ⟨#[116]⟩
  else if t.op = 44 ∨ t.op = 45 ∨ t.op = 52 then ⟨#[69, 69]⟩
  else if t.op = 46 then (if t.s = ⟨#[61]⟩ then ⟨#[84, 69]⟩ else ⟨#[116, 69]⟩)
  else if t.op = 47 then ⟨#[69, 69, 69]⟩
  else if t.op = 48 then ⟨#[69, 69, 69, 42]⟩
  else if t.op = 49 ∨ t.op = 50 then ⟨#[69, 97, 42]⟩
  else if t.op = 51 then ⟨#[69]⟩
  else if t.op = 53 then ⟨#[99]⟩
  else if t.op = 54 then (if t.n = 1 then ⟨#[69]⟩ else ⟨#[69, 63]⟩)
  else if t.op = 60 then ⟨#[72, 42, 90, 63]⟩
  else if t.op = 61 then ⟨#[81, 42, 90, 63]⟩
  else if t.op = 62 then (if t.m = 1 then ⟨#[69, 70]⟩ else ⟨#[107, 70]⟩)
  else if t.op = 63 then ⟨#[84, 69]⟩
  else if t.op = 64 then ⟨#[84]⟩
  else ⟨#[33]⟩
def kindsS (t : T) : ByteArray :=
  if t.op = 1 ∨ t.op = 6 then ⟨#[83, 42]⟩
  else if t.op = 2 then ⟨#[68, 68, 42]⟩
  else if t.op = 3 then ⟨#[84, 69, 63]⟩
  else if t.op = 4 then (if (IntKind.i64.wrap (t.n.tdiv 128)).tmod 2 = 1 then ⟨#[80, 69]⟩ else ⟨#[80, 66]⟩)
  else if t.op = 5 then ⟨#[70, 42, 90, 63]⟩
  else if t.op = 7 ∨ t.op = 15 ∨ t.op = 16 ∨ t.op = 30 ∨ t.op = 31 ∨ t.op = 32 ∨ t.op = 33 ∨ t.op = 34 ∨ t.op = 35 ∨ t.op = 40 then ⟨#[]⟩
  else if t.op = 8 ∨ t.op = 18 ∨ t.op = 41 ∨ t.op = 42 then ⟨#[69]⟩
  else if t.op = 9 then ⟨#[69, 83, 83, 63]⟩
  else if t.op = 10 then ⟨#[73, 77, 77, 83]⟩
  else if t.op = 11 ∨ t.op = 12 then ⟨#[76, 69, 83]⟩
  else if t.op = 13 then ⟨#[69, 83]⟩
  else if t.op = 14 then ⟨#[83, 69]⟩
  else if t.op = 17 then ⟨#[69, 63]⟩
  else if t.op = 19 then ⟨#[66, 67, 89]⟩
  else if t.op = 20 then ⟨#[71, 66]⟩
  else moreS t
theorem keyS_size (t : T) : (keyS t).size = 1 := by unfold keyS; split <;> rfl
attribute [local irreducible] keyS G GC GQ GA GAop Calls IntKind.wrap Int.decLt Int.decLe
theorem rProp_spec (t : T) (u : Value) (w : World) (μ : Mem) (hμ : MOk μ w) (hk : KR μ t.kids u) :
    Calls Tryz.prog 79 #[.agg (encT t u).toArray] w fun e w' => e = .returned (.string (propS t)) ∧ Below w.heap.size w w' := by
  have ho := hk.one
  refine call_intro (args := [.agg (encT t u).toArray]) Tryz.func79 rfl Tryz.ntmps79 (by simp) hμ ?_
  by_cases hm : t.m = 1
  · have hg : keyS t = ⟨#[69]⟩ := by unfold keyS; rw [if_pos hm]
    unfold propS
    rw [hg]
    repeat' (first | refine KO ?_ | (refine KV (b := by first | ((with_reducible apply v_sadd); exact rfl; exact rfl; decide)) (c := ?_)) | refine KI ?_ | refine NB fun b => ?_ | ((refine KB ?_ ?_ <;> intro hp)) | refine KG ?_ | fail)
    all_goals first | (exfalso; omega) | (refine ret_s rfl rfl ?_; (repeat first | rw [if_pos (by omega)] | rw [if_neg (by omega)]); done)
  · have hg : keyS t = ⟨#[107]⟩ := by unfold keyS; rw [if_neg hm]
    unfold propS
    rw [hg]
    repeat' (first | refine KO ?_ | (refine KV (b := by first | ((with_reducible apply v_sadd); exact rfl; exact rfl; decide)) (c := ?_)) | refine KI ?_ | refine NB fun b => ?_ | ((refine KB ?_ ?_ <;> intro hp)) | refine KG ?_ | fail)
    all_goals first | (exfalso; omega) | (refine ret_s rfl rfl ?_; (repeat first | rw [if_pos (by omega)] | rw [if_neg (by omega)]); done)
theorem more_spec (t : T) (u : Value) (w : World) (μ : Mem) (hμ : MOk μ w) (hk : KR μ t.kids u) :
    Calls Tryz.prog 46 #[.agg (encT t u).toArray] w fun e w' => e = .returned (.string (moreS t)) ∧ Below w.heap.size w w' := by
  have ho := hk.one
  refine call_intro (args := [.agg (encT t u).toArray]) Tryz.func46 rfl Tryz.ntmps46 (by simp) hμ ?_
  unfold moreS
  by_cases h21 : t.op = 21
  · rw [if_pos h21]
    repeat' (first | refine KO ?_ | ((with_reducible apply F1 79); exact rfl; exact EN; (exact fun w μc hw hse => rProp_spec t u w μc hw (hk.mono hse.le))) | refine KI ?_ | refine NB fun b => ?_ | ((refine KB ?_ ?_ <;> intro hp)) | refine KG ?_ | fail)
    all_goals first | exact ret_s rfl rfl rfl | (exfalso; omega)
  rw [if_neg h21]
  by_cases h22 : t.op = 22
  · rw [if_pos h22]
    by_cases hs22 : t.n = 1
    · rw [if_pos hs22]
      repeat' (first | refine KO ?_ | ((with_reducible apply F1 79); exact rfl; exact EN; (exact fun w μc hw hse => rProp_spec t u w μc hw (hk.mono hse.le))) | refine KI ?_ | refine NB fun b => ?_ | ((refine KB ?_ ?_ <;> intro hp)) | refine KG ?_ | fail)
      all_goals first | exact ret_s rfl rfl rfl | (exfalso; omega) | exact absurd ‹_› hs22 | exact absurd hs22 ‹_›
    · rw [if_neg hs22]
      repeat' (first | refine KO ?_ | ((with_reducible apply F1 79); exact rfl; exact EN; (exact fun w μc hw hse => rProp_spec t u w μc hw (hk.mono hse.le))) | refine KI ?_ | refine NB fun b => ?_ | ((refine KB ?_ ?_ <;> intro hp)) | refine KG ?_ | fail)
      all_goals first | exact ret_s rfl rfl rfl | (exfalso; omega) | exact absurd ‹_› hs22 | exact absurd hs22 ‹_›
  rw [if_neg h22]
  by_cases h23 : t.op = 23
  · rw [if_pos h23]
    repeat' (first | refine KO ?_ | ((with_reducible apply F1 79); exact rfl; exact EN; (exact fun w μc hw hse => rProp_spec t u w μc hw (hk.mono hse.le))) | refine KI ?_ | refine NB fun b => ?_ | ((refine KB ?_ ?_ <;> intro hp)) | refine KG ?_ | fail)
    all_goals first | exact ret_s rfl rfl rfl | (exfalso; omega)
  rw [if_neg h23]
  by_cases h37 : t.op = 37
  · rw [if_pos h37]
    repeat' (first | refine KO ?_ | ((with_reducible apply F1 79); exact rfl; exact EN; (exact fun w μc hw hse => rProp_spec t u w μc hw (hk.mono hse.le))) | refine KI ?_ | refine NB fun b => ?_ | ((refine KB ?_ ?_ <;> intro hp)) | refine KG ?_ | fail)
    all_goals first | exact ret_s rfl rfl rfl | (exfalso; omega)
  rw [if_neg h37]
  by_cases h38 : t.op = 38
  · rw [if_pos h38]
    repeat' (first | refine KO ?_ | ((with_reducible apply F1 79); exact rfl; exact EN; (exact fun w μc hw hse => rProp_spec t u w μc hw (hk.mono hse.le))) | refine KI ?_ | refine NB fun b => ?_ | ((refine KB ?_ ?_ <;> intro hp)) | refine KG ?_ | fail)
    all_goals first | exact ret_s rfl rfl rfl | (exfalso; omega)
  rw [if_neg h38]
  by_cases h39 : t.op = 39
  · rw [if_pos h39]
    repeat' (first | refine KO ?_ | ((with_reducible apply F1 79); exact rfl; exact EN; (exact fun w μc hw hse => rProp_spec t u w μc hw (hk.mono hse.le))) | refine KI ?_ | refine NB fun b => ?_ | ((refine KB ?_ ?_ <;> intro hp)) | refine KG ?_ | fail)
    all_goals first | exact ret_s rfl rfl rfl | (exfalso; omega)
  rw [if_neg h39]
  by_cases h43 : t.op = 43
  · rw [if_pos h43]
    repeat' (first | refine KO ?_ | ((with_reducible apply F1 79); exact rfl; exact EN; (exact fun w μc hw hse => rProp_spec t u w μc hw (hk.mono hse.le))) | refine KI ?_ | refine NB fun b => ?_ | ((refine KB ?_ ?_ <;> intro hp)) | refine KG ?_ | fail)
    all_goals first | exact ret_s rfl rfl rfl | (exfalso; omega)
  rw [if_neg h43]
  by_cases h44 : t.op = 44 ∨ t.op = 45 ∨ t.op = 52
  · rw [if_pos h44]
    repeat' (first | refine KO ?_ | ((with_reducible apply F1 79); exact rfl; exact EN; (exact fun w μc hw hse => rProp_spec t u w μc hw (hk.mono hse.le))) | refine KI ?_ | refine NB fun b => ?_ | ((refine KB ?_ ?_ <;> intro hp)) | refine KG ?_ | fail)
    all_goals first | exact ret_s rfl rfl rfl | (exfalso; omega)
  rw [if_neg h44]
  by_cases h46 : t.op = 46
  · rw [if_pos h46]
    by_cases hs46 : t.s = ⟨#[61]⟩
    · rw [if_pos hs46]
      repeat' (first | refine KO ?_ | ((with_reducible apply F1 79); exact rfl; exact EN; (exact fun w μc hw hse => rProp_spec t u w μc hw (hk.mono hse.le))) | refine KI ?_ | refine NB fun b => ?_ | ((refine KB ?_ ?_ <;> intro hp)) | refine KG ?_ | fail)
      all_goals first | exact ret_s rfl rfl rfl | (exfalso; omega) | exact absurd ‹_› hs46 | exact absurd hs46 ‹_›
    · rw [if_neg hs46]
      repeat' (first | refine KO ?_ | ((with_reducible apply F1 79); exact rfl; exact EN; (exact fun w μc hw hse => rProp_spec t u w μc hw (hk.mono hse.le))) | refine KI ?_ | refine NB fun b => ?_ | ((refine KB ?_ ?_ <;> intro hp)) | refine KG ?_ | fail)
      all_goals first | exact ret_s rfl rfl rfl | (exfalso; omega) | exact absurd ‹_› hs46 | exact absurd hs46 ‹_›
  rw [if_neg h46]
  by_cases h47 : t.op = 47
  · rw [if_pos h47]
    repeat' (first | refine KO ?_ | ((with_reducible apply F1 79); exact rfl; exact EN; (exact fun w μc hw hse => rProp_spec t u w μc hw (hk.mono hse.le))) | refine KI ?_ | refine NB fun b => ?_ | ((refine KB ?_ ?_ <;> intro hp)) | refine KG ?_ | fail)
    all_goals first | exact ret_s rfl rfl rfl | (exfalso; omega)
  rw [if_neg h47]
  by_cases h48 : t.op = 48
  · rw [if_pos h48]
    repeat' (first | refine KO ?_ | ((with_reducible apply F1 79); exact rfl; exact EN; (exact fun w μc hw hse => rProp_spec t u w μc hw (hk.mono hse.le))) | refine KI ?_ | refine NB fun b => ?_ | ((refine KB ?_ ?_ <;> intro hp)) | refine KG ?_ | fail)
    all_goals first | exact ret_s rfl rfl rfl | (exfalso; omega)
  rw [if_neg h48]
  by_cases h49 : t.op = 49 ∨ t.op = 50
  · rw [if_pos h49]
    repeat' (first | refine KO ?_ | ((with_reducible apply F1 79); exact rfl; exact EN; (exact fun w μc hw hse => rProp_spec t u w μc hw (hk.mono hse.le))) | refine KI ?_ | refine NB fun b => ?_ | ((refine KB ?_ ?_ <;> intro hp)) | refine KG ?_ | fail)
    all_goals first | exact ret_s rfl rfl rfl | (exfalso; omega)
  rw [if_neg h49]
  by_cases h51 : t.op = 51
  · rw [if_pos h51]
    repeat' (first | refine KO ?_ | ((with_reducible apply F1 79); exact rfl; exact EN; (exact fun w μc hw hse => rProp_spec t u w μc hw (hk.mono hse.le))) | refine KI ?_ | refine NB fun b => ?_ | ((refine KB ?_ ?_ <;> intro hp)) | refine KG ?_ | fail)
    all_goals first | exact ret_s rfl rfl rfl | (exfalso; omega)
  rw [if_neg h51]
  by_cases h53 : t.op = 53
  · rw [if_pos h53]
    repeat' (first | refine KO ?_ | ((with_reducible apply F1 79); exact rfl; exact EN; (exact fun w μc hw hse => rProp_spec t u w μc hw (hk.mono hse.le))) | refine KI ?_ | refine NB fun b => ?_ | ((refine KB ?_ ?_ <;> intro hp)) | refine KG ?_ | fail)
    all_goals first | exact ret_s rfl rfl rfl | (exfalso; omega)
  rw [if_neg h53]
  by_cases h54 : t.op = 54
  · rw [if_pos h54]
    by_cases hs54 : t.n = 1
    · rw [if_pos hs54]
      repeat' (first | refine KO ?_ | ((with_reducible apply F1 79); exact rfl; exact EN; (exact fun w μc hw hse => rProp_spec t u w μc hw (hk.mono hse.le))) | refine KI ?_ | refine NB fun b => ?_ | ((refine KB ?_ ?_ <;> intro hp)) | refine KG ?_ | fail)
      all_goals first | exact ret_s rfl rfl rfl | (exfalso; omega) | exact absurd ‹_› hs54 | exact absurd hs54 ‹_›
    · rw [if_neg hs54]
      repeat' (first | refine KO ?_ | ((with_reducible apply F1 79); exact rfl; exact EN; (exact fun w μc hw hse => rProp_spec t u w μc hw (hk.mono hse.le))) | refine KI ?_ | refine NB fun b => ?_ | ((refine KB ?_ ?_ <;> intro hp)) | refine KG ?_ | fail)
      all_goals first | exact ret_s rfl rfl rfl | (exfalso; omega) | exact absurd ‹_› hs54 | exact absurd hs54 ‹_›
  rw [if_neg h54]
  by_cases h60 : t.op = 60
  · rw [if_pos h60]
    repeat' (first | refine KO ?_ | ((with_reducible apply F1 79); exact rfl; exact EN; (exact fun w μc hw hse => rProp_spec t u w μc hw (hk.mono hse.le))) | refine KI ?_ | refine NB fun b => ?_ | ((refine KB ?_ ?_ <;> intro hp)) | refine KG ?_ | fail)
    all_goals first | exact ret_s rfl rfl rfl | (exfalso; omega)
  rw [if_neg h60]
  by_cases h61 : t.op = 61
  · rw [if_pos h61]
    repeat' (first | refine KO ?_ | ((with_reducible apply F1 79); exact rfl; exact EN; (exact fun w μc hw hse => rProp_spec t u w μc hw (hk.mono hse.le))) | refine KI ?_ | refine NB fun b => ?_ | ((refine KB ?_ ?_ <;> intro hp)) | refine KG ?_ | fail)
    all_goals first | exact ret_s rfl rfl rfl | (exfalso; omega)
  rw [if_neg h61]
  by_cases h62 : t.op = 62
  · rw [if_pos h62]
    by_cases hs62 : t.m = 1
    · rw [if_pos hs62]
      repeat' (first | refine KO ?_ | ((with_reducible apply F1 79); exact rfl; exact EN; (exact fun w μc hw hse => rProp_spec t u w μc hw (hk.mono hse.le))) | refine KI ?_ | refine NB fun b => ?_ | ((refine KB ?_ ?_ <;> intro hp)) | refine KG ?_ | fail)
      all_goals first | exact ret_s rfl rfl rfl | (exfalso; omega) | exact absurd ‹_› hs62 | exact absurd hs62 ‹_›
    · rw [if_neg hs62]
      repeat' (first | refine KO ?_ | ((with_reducible apply F1 79); exact rfl; exact EN; (exact fun w μc hw hse => rProp_spec t u w μc hw (hk.mono hse.le))) | refine KI ?_ | refine NB fun b => ?_ | ((refine KB ?_ ?_ <;> intro hp)) | refine KG ?_ | fail)
      all_goals first | exact ret_s rfl rfl rfl | (exfalso; omega) | exact absurd ‹_› hs62 | exact absurd hs62 ‹_›
  rw [if_neg h62]
  by_cases h63 : t.op = 63
  · rw [if_pos h63]
    repeat' (first | refine KO ?_ | ((with_reducible apply F1 79); exact rfl; exact EN; (exact fun w μc hw hse => rProp_spec t u w μc hw (hk.mono hse.le))) | refine KI ?_ | refine NB fun b => ?_ | ((refine KB ?_ ?_ <;> intro hp)) | refine KG ?_ | fail)
    all_goals first | exact ret_s rfl rfl rfl | (exfalso; omega)
  rw [if_neg h63]
  by_cases h64 : t.op = 64
  · rw [if_pos h64]
    repeat' (first | refine KO ?_ | ((with_reducible apply F1 79); exact rfl; exact EN; (exact fun w μc hw hse => rProp_spec t u w μc hw (hk.mono hse.le))) | refine KI ?_ | refine NB fun b => ?_ | ((refine KB ?_ ?_ <;> intro hp)) | refine KG ?_ | fail)
    all_goals first | exact ret_s rfl rfl rfl | (exfalso; omega)
  rw [if_neg h64]
  repeat' (first | refine KO ?_ | ((with_reducible apply F1 79); exact rfl; exact EN; (exact fun w μc hw hse => rProp_spec t u w μc hw (hk.mono hse.le))) | refine KI ?_ | refine NB fun b => ?_ | ((refine KB ?_ ?_ <;> intro hp)) | refine KG ?_ | fail)
  all_goals first | exact ret_s rfl rfl rfl | (exfalso; omega)
theorem kinds_spec (t : T) (u : Value) (w : World) (μ : Mem) (hμ : MOk μ w) (hk : KR μ t.kids u) :
    Calls Tryz.prog 23 #[.agg (encT t u).toArray] w fun e w' => e = .returned (.string (kindsS t)) ∧ Below w.heap.size w w' := by
  have ho := hk.one
  refine call_intro (args := [.agg (encT t u).toArray]) Tryz.func23 rfl Tryz.ntmps23 (by simp) hμ ?_
  unfold kindsS
  by_cases h1 : t.op = 1 ∨ t.op = 6
  · rw [if_pos h1]
    repeat' (first | refine KO ?_ | ((with_reducible apply F1 46); exact rfl; exact EN; (exact fun w μc hw hse => more_spec t u w μc hw (hk.mono hse.le))) | (refine KV (b := by first | ((with_reducible apply v_quo); exact rfl; exact rfl; decide)) (c := ?_)) | refine KI ?_ | refine NB fun b => ?_ | ((refine KB ?_ ?_ <;> intro hp)) | refine KG ?_ | fail)
    all_goals first | exact ret_s rfl rfl rfl | (exfalso; omega)
  rw [if_neg h1]
  by_cases h2 : t.op = 2
  · rw [if_pos h2]
    repeat' (first | refine KO ?_ | ((with_reducible apply F1 46); exact rfl; exact EN; (exact fun w μc hw hse => more_spec t u w μc hw (hk.mono hse.le))) | (refine KV (b := by first | ((with_reducible apply v_quo); exact rfl; exact rfl; decide)) (c := ?_)) | refine KI ?_ | refine NB fun b => ?_ | ((refine KB ?_ ?_ <;> intro hp)) | refine KG ?_ | fail)
    all_goals first | exact ret_s rfl rfl rfl | (exfalso; omega)
  rw [if_neg h2]
  by_cases h3 : t.op = 3
  · rw [if_pos h3]
    repeat' (first | refine KO ?_ | ((with_reducible apply F1 46); exact rfl; exact EN; (exact fun w μc hw hse => more_spec t u w μc hw (hk.mono hse.le))) | (refine KV (b := by first | ((with_reducible apply v_quo); exact rfl; exact rfl; decide)) (c := ?_)) | refine KI ?_ | refine NB fun b => ?_ | ((refine KB ?_ ?_ <;> intro hp)) | refine KG ?_ | fail)
    all_goals first | exact ret_s rfl rfl rfl | (exfalso; omega)
  rw [if_neg h3]
  by_cases h4 : t.op = 4
  · rw [if_pos h4]
    by_cases hs4 : (IntKind.i64.wrap (t.n.tdiv 128)).tmod 2 = 1
    · rw [if_pos hs4]
      repeat' (first | refine KO ?_ | ((with_reducible apply F1 46); exact rfl; exact EN; (exact fun w μc hw hse => more_spec t u w μc hw (hk.mono hse.le))) | (refine KV (b := by first | ((with_reducible apply v_quo); exact rfl; exact rfl; decide)) (c := ?_)) | refine KI ?_ | refine NB fun b => ?_ | ((refine KB ?_ ?_ <;> intro hp)) | refine KG ?_ | fail)
      all_goals first | exact ret_s rfl rfl rfl | (exfalso; omega) | exact absurd ‹_› hs4 | exact absurd hs4 ‹_›
    · rw [if_neg hs4]
      repeat' (first | refine KO ?_ | ((with_reducible apply F1 46); exact rfl; exact EN; (exact fun w μc hw hse => more_spec t u w μc hw (hk.mono hse.le))) | (refine KV (b := by first | ((with_reducible apply v_quo); exact rfl; exact rfl; decide)) (c := ?_)) | refine KI ?_ | refine NB fun b => ?_ | ((refine KB ?_ ?_ <;> intro hp)) | refine KG ?_ | fail)
      all_goals first | exact ret_s rfl rfl rfl | (exfalso; omega) | exact absurd ‹_› hs4 | exact absurd hs4 ‹_›
  rw [if_neg h4]
  by_cases h5 : t.op = 5
  · rw [if_pos h5]
    repeat' (first | refine KO ?_ | ((with_reducible apply F1 46); exact rfl; exact EN; (exact fun w μc hw hse => more_spec t u w μc hw (hk.mono hse.le))) | (refine KV (b := by first | ((with_reducible apply v_quo); exact rfl; exact rfl; decide)) (c := ?_)) | refine KI ?_ | refine NB fun b => ?_ | ((refine KB ?_ ?_ <;> intro hp)) | refine KG ?_ | fail)
    all_goals first | exact ret_s rfl rfl rfl | (exfalso; omega)
  rw [if_neg h5]
  by_cases h7 : t.op = 7 ∨ t.op = 15 ∨ t.op = 16 ∨ t.op = 30 ∨ t.op = 31 ∨ t.op = 32 ∨ t.op = 33 ∨ t.op = 34 ∨ t.op = 35 ∨ t.op = 40
  · rw [if_pos h7]
    repeat' (first | refine KO ?_ | ((with_reducible apply F1 46); exact rfl; exact EN; (exact fun w μc hw hse => more_spec t u w μc hw (hk.mono hse.le))) | (refine KV (b := by first | ((with_reducible apply v_quo); exact rfl; exact rfl; decide)) (c := ?_)) | refine KI ?_ | refine NB fun b => ?_ | ((refine KB ?_ ?_ <;> intro hp)) | refine KG ?_ | fail)
    all_goals first | exact ret_s rfl rfl rfl | (exfalso; omega)
  rw [if_neg h7]
  by_cases h8 : t.op = 8 ∨ t.op = 18 ∨ t.op = 41 ∨ t.op = 42
  · rw [if_pos h8]
    repeat' (first | refine KO ?_ | ((with_reducible apply F1 46); exact rfl; exact EN; (exact fun w μc hw hse => more_spec t u w μc hw (hk.mono hse.le))) | (refine KV (b := by first | ((with_reducible apply v_quo); exact rfl; exact rfl; decide)) (c := ?_)) | refine KI ?_ | refine NB fun b => ?_ | ((refine KB ?_ ?_ <;> intro hp)) | refine KG ?_ | fail)
    all_goals first | exact ret_s rfl rfl rfl | (exfalso; omega)
  rw [if_neg h8]
  by_cases h9 : t.op = 9
  · rw [if_pos h9]
    repeat' (first | refine KO ?_ | ((with_reducible apply F1 46); exact rfl; exact EN; (exact fun w μc hw hse => more_spec t u w μc hw (hk.mono hse.le))) | (refine KV (b := by first | ((with_reducible apply v_quo); exact rfl; exact rfl; decide)) (c := ?_)) | refine KI ?_ | refine NB fun b => ?_ | ((refine KB ?_ ?_ <;> intro hp)) | refine KG ?_ | fail)
    all_goals first | exact ret_s rfl rfl rfl | (exfalso; omega)
  rw [if_neg h9]
  by_cases h10 : t.op = 10
  · rw [if_pos h10]
    repeat' (first | refine KO ?_ | ((with_reducible apply F1 46); exact rfl; exact EN; (exact fun w μc hw hse => more_spec t u w μc hw (hk.mono hse.le))) | (refine KV (b := by first | ((with_reducible apply v_quo); exact rfl; exact rfl; decide)) (c := ?_)) | refine KI ?_ | refine NB fun b => ?_ | ((refine KB ?_ ?_ <;> intro hp)) | refine KG ?_ | fail)
    all_goals first | exact ret_s rfl rfl rfl | (exfalso; omega)
  rw [if_neg h10]
  by_cases h11 : t.op = 11 ∨ t.op = 12
  · rw [if_pos h11]
    repeat' (first | refine KO ?_ | ((with_reducible apply F1 46); exact rfl; exact EN; (exact fun w μc hw hse => more_spec t u w μc hw (hk.mono hse.le))) | (refine KV (b := by first | ((with_reducible apply v_quo); exact rfl; exact rfl; decide)) (c := ?_)) | refine KI ?_ | refine NB fun b => ?_ | ((refine KB ?_ ?_ <;> intro hp)) | refine KG ?_ | fail)
    all_goals first | exact ret_s rfl rfl rfl | (exfalso; omega)
  rw [if_neg h11]
  by_cases h13 : t.op = 13
  · rw [if_pos h13]
    repeat' (first | refine KO ?_ | ((with_reducible apply F1 46); exact rfl; exact EN; (exact fun w μc hw hse => more_spec t u w μc hw (hk.mono hse.le))) | (refine KV (b := by first | ((with_reducible apply v_quo); exact rfl; exact rfl; decide)) (c := ?_)) | refine KI ?_ | refine NB fun b => ?_ | ((refine KB ?_ ?_ <;> intro hp)) | refine KG ?_ | fail)
    all_goals first | exact ret_s rfl rfl rfl | (exfalso; omega)
  rw [if_neg h13]
  by_cases h14 : t.op = 14
  · rw [if_pos h14]
    repeat' (first | refine KO ?_ | ((with_reducible apply F1 46); exact rfl; exact EN; (exact fun w μc hw hse => more_spec t u w μc hw (hk.mono hse.le))) | (refine KV (b := by first | ((with_reducible apply v_quo); exact rfl; exact rfl; decide)) (c := ?_)) | refine KI ?_ | refine NB fun b => ?_ | ((refine KB ?_ ?_ <;> intro hp)) | refine KG ?_ | fail)
    all_goals first | exact ret_s rfl rfl rfl | (exfalso; omega)
  rw [if_neg h14]
  by_cases h17 : t.op = 17
  · rw [if_pos h17]
    repeat' (first | refine KO ?_ | ((with_reducible apply F1 46); exact rfl; exact EN; (exact fun w μc hw hse => more_spec t u w μc hw (hk.mono hse.le))) | (refine KV (b := by first | ((with_reducible apply v_quo); exact rfl; exact rfl; decide)) (c := ?_)) | refine KI ?_ | refine NB fun b => ?_ | ((refine KB ?_ ?_ <;> intro hp)) | refine KG ?_ | fail)
    all_goals first | exact ret_s rfl rfl rfl | (exfalso; omega)
  rw [if_neg h17]
  by_cases h19 : t.op = 19
  · rw [if_pos h19]
    repeat' (first | refine KO ?_ | ((with_reducible apply F1 46); exact rfl; exact EN; (exact fun w μc hw hse => more_spec t u w μc hw (hk.mono hse.le))) | (refine KV (b := by first | ((with_reducible apply v_quo); exact rfl; exact rfl; decide)) (c := ?_)) | refine KI ?_ | refine NB fun b => ?_ | ((refine KB ?_ ?_ <;> intro hp)) | refine KG ?_ | fail)
    all_goals first | exact ret_s rfl rfl rfl | (exfalso; omega)
  rw [if_neg h19]
  by_cases h20 : t.op = 20
  · rw [if_pos h20]
    repeat' (first | refine KO ?_ | ((with_reducible apply F1 46); exact rfl; exact EN; (exact fun w μc hw hse => more_spec t u w μc hw (hk.mono hse.le))) | (refine KV (b := by first | ((with_reducible apply v_quo); exact rfl; exact rfl; decide)) (c := ?_)) | refine KI ?_ | refine NB fun b => ?_ | ((refine KB ?_ ?_ <;> intro hp)) | refine KG ?_ | fail)
    all_goals first | exact ret_s rfl rfl rfl | (exfalso; omega)
  rw [if_neg h20]
  repeat' (first | refine KO ?_ | ((with_reducible apply F1 46); exact rfl; exact EN; (exact fun w μc hw hse => more_spec t u w μc hw (hk.mono hse.le))) | (refine KV (b := by first | ((with_reducible apply v_quo); exact rfl; exact rfl; decide)) (c := ?_)) | refine KI ?_ | refine NB fun b => ?_ | ((refine KB ?_ ?_ <;> intro hp)) | refine KG ?_ | fail)
  all_goals first | exact ret_s rfl rfl rfl | (exfalso; omega)
end Go.Proofs.YtfabmichdhbiaaaGreatDoor
namespace Go.Proofs.YtfabmichdhbiaaaGreatDoor
open Go.RowKit Go.Vcg
noncomputable def stB (t : T) : Bool :=
  if t.op = 1 ∨ t.op = 6 then fewP stmtT 0 (-1) t.kids
  else if t.op = 2 then fewP (ofT [3]) 1 (-1) t.kids
  else if t.op = 3 then fitP [(targetT, 0), (exprT, 1)] t.kids
  else if t.op = 4 then fitP (eachP [ofT [5], bodyT t]) t.kids
  else if t.op = 5 then fitP [(eiT [targetT, ofT [63]], 2), (ofT [64], 1)] t.kids
  else if t.op = 7 ∨ t.op = 15 ∨ t.op = 16 then decide (t.kids.length = 0)
  else if t.op = 8 ∨ t.op = 18 then fitP (eachP [exprT]) t.kids
  else if t.op = 9 then fitP [(exprT, 0), (stmtT, 0), (stmtT, 1)] t.kids
  else if t.op = 10 then fitP (eachP [ofT [2, 8, 7], eiT [exprT, ofT [7]], eiT [exprT, ofT [7]], stmtT]) t.kids
  else if t.op = 11 ∨ t.op = 12 then fitP (eachP [leftT, exprT, stmtT]) t.kids
  else if t.op = 13 then fitP (eachP [exprT, stmtT]) t.kids
  else if t.op = 14 then fitP (eachP [stmtT, exprT]) t.kids
  else if t.op = 17 then fewP exprT 0 1 t.kids
  else if t.op = 20 then fitP (eachP [eiT [targetT, ofT [7]], ofT [6]]) t.kids
  else if t.op = 21 then fitP [(exprT, 0), (ofT [22], 2)] t.kids
  else if t.op = 22 then (if t.n = 1 then fewP stmtT 0 (-1) t.kids else fitP [(exprT, 0), (stmtT, 2)] t.kids)
  else if t.op = 19 then tryT t.kids
  else fitP (eachP [stmtT]) t.kids
noncomputable def exB (t : T) : Bool :=
  if t.op = 30 ∨ t.op = 31 ∨ t.op = 32 ∨ t.op = 33 ∨ t.op = 34 ∨ t.op = 35 ∨ t.op = 40 then decide (t.kids.length = 0)
  else if t.op = 36 then templB exprT t.kids
  else if t.op = 37 then fewP (eiT [exprT, ofT [40, 41]]) 0 (-1) t.kids
  else if t.op = 38 then fewP (ofT [39]) 0 (-1) t.kids
  else if t.op = 39 then propT t
  else if t.op = 41 ∨ t.op = 42 then fitP (eachP [exprT]) t.kids
  else if t.op = 43 then fitP (eachP [simpleT]) t.kids
  else if t.op = 44 ∨ t.op = 45 ∨ t.op = 52 then fewP exprT 2 2 t.kids
  else if t.op = 46 then (if t.s = ⟨#[61]⟩ then fitP (eachP [targetT, exprT]) t.kids else fitP (eachP [simpleT, exprT]) t.kids)
  else if t.op = 47 then fewP exprT 3 3 t.kids
  else if t.op = 48 then fewP exprT 2 (-1) t.kids
  else if t.op = 49 ∨ t.op = 50 then fitP [(exprT, 0), (argsT, 2)] t.kids
  else if t.op = 51 then fewP exprT 1 1 t.kids
  else if t.op = 53 then chainT t.kids
  else if t.op = 54 then fewP exprT t.n 1 t.kids
  else patternsT t
theorem statements_spec (t : T) (u : Value) (w : World) (μ : Mem) (hμ : MOk μ w) (hk : KR μ t.kids u) (hs : t.size ≤ 100000) (hks : ∀ k ∈ t.kids, T.size k ≤ 100000 ∧ k.s.size ≤ 65536) :
    Calls Tryz.prog 30 #[.agg (encT t u).toArray] w fun e w' => e = .returned (.bool (stB t)) ∧ Below w.heap.size w w' := by
  unfold stB
  by_cases h_prog : t.op = 1 ∨ t.op = 6
  · rw [if_pos h_prog]
    exact st_prog t u w μ hμ hk hs hks h_prog
  rw [if_neg h_prog]
  by_cases h_var : t.op = 2
  · rw [if_pos h_var]
    exact st_var t u w μ hμ hk hs hks h_var
  rw [if_neg h_var]
  by_cases h_decl : t.op = 3
  · rw [if_pos h_decl]
    exact st_decl t u w μ hμ hk hs hks h_decl
  rw [if_neg h_decl]
  by_cases h_func : t.op = 4
  · rw [if_pos h_func]
    exact st_func t u w μ hμ hk hs hks h_func
  rw [if_neg h_func]
  by_cases h_params : t.op = 5
  · rw [if_pos h_params]
    exact st_params t u w μ hμ hk hs hks h_params
  rw [if_neg h_params]
  by_cases h_none : t.op = 7 ∨ t.op = 15 ∨ t.op = 16
  · rw [if_pos h_none]
    exact st_none t u w μ hμ hk hs hks h_none
  rw [if_neg h_none]
  by_cases h_expr : t.op = 8 ∨ t.op = 18
  · rw [if_pos h_expr]
    exact st_expr t u w μ hμ hk hs hks h_expr
  rw [if_neg h_expr]
  by_cases h_if : t.op = 9
  · rw [if_pos h_if]
    exact st_if t u w μ hμ hk hs hks h_if
  rw [if_neg h_if]
  by_cases h_for : t.op = 10
  · rw [if_pos h_for]
    exact st_for t u w μ hμ hk hs hks h_for
  rw [if_neg h_for]
  by_cases h_forin : t.op = 11 ∨ t.op = 12
  · rw [if_pos h_forin]
    exact st_forin t u w μ hμ hk hs hks h_forin
  rw [if_neg h_forin]
  by_cases h_while : t.op = 13
  · rw [if_pos h_while]
    exact st_while t u w μ hμ hk hs hks h_while
  rw [if_neg h_while]
  by_cases h_do : t.op = 14
  · rw [if_pos h_do]
    exact st_do t u w μ hμ hk hs hks h_do
  rw [if_neg h_do]
  by_cases h_ret : t.op = 17
  · rw [if_pos h_ret]
    exact st_ret t u w μ hμ hk hs hks h_ret
  rw [if_neg h_ret]
  by_cases h_catch : t.op = 20
  · rw [if_pos h_catch]
    exact st_catch t u w μ hμ hk hs hks h_catch
  rw [if_neg h_catch]
  by_cases h_switch : t.op = 21
  · rw [if_pos h_switch]
    exact st_switch t u w μ hμ hk hs hks h_switch
  rw [if_neg h_switch]
  by_cases h_case : t.op = 22
  · rw [if_pos h_case]
    exact st_case t u w μ hμ hk hs hks h_case
  rw [if_neg h_case]
  by_cases h_try : t.op = 19
  · rw [if_pos h_try]
    exact st_try t u w μ hμ hk hs hks h_try
  rw [if_neg h_try]
  exact st_rest t u w μ hμ hk hs hks (by omega)
theorem expressions_spec (t : T) (u : Value) (w : World) (μ : Mem) (hμ : MOk μ w) (hk : KR μ t.kids u) (hs : t.size ≤ 100000) (hks : ∀ k ∈ t.kids, T.size k ≤ 100000 ∧ k.s.size ≤ 65536) (hsh : ∀ k ∈ t.kids, Sh' k) :
    Calls Tryz.prog 29 #[.agg (encT t u).toArray] w fun e w' => e = .returned (.bool (exB t)) ∧ Below w.heap.size w w' := by
  unfold exB
  by_cases h_none : t.op = 30 ∨ t.op = 31 ∨ t.op = 32 ∨ t.op = 33 ∨ t.op = 34 ∨ t.op = 35 ∨ t.op = 40
  · rw [if_pos h_none]
    exact ex_none t u w μ hμ hk hs hks h_none
  rw [if_neg h_none]
  by_cases h_tmpl : t.op = 36
  · rw [if_pos h_tmpl]
    exact ex_tmpl t u w μ hμ hk hs hks h_tmpl
  rw [if_neg h_tmpl]
  by_cases h_array : t.op = 37
  · rw [if_pos h_array]
    exact ex_array t u w μ hμ hk hs hks h_array
  rw [if_neg h_array]
  by_cases h_object : t.op = 38
  · rw [if_pos h_object]
    exact ex_object t u w μ hμ hk hs hks h_object
  rw [if_neg h_object]
  by_cases h_prop : t.op = 39
  · rw [if_pos h_prop]
    exact ex_prop t u w μ hμ hk hs hks h_prop
  rw [if_neg h_prop]
  by_cases h_spread : t.op = 41 ∨ t.op = 42
  · rw [if_pos h_spread]
    exact ex_spread t u w μ hμ hk hs hks h_spread
  rw [if_neg h_spread]
  by_cases h_update : t.op = 43
  · rw [if_pos h_update]
    exact ex_update t u w μ hμ hk hs hks h_update
  rw [if_neg h_update]
  by_cases h_bin : t.op = 44 ∨ t.op = 45 ∨ t.op = 52
  · rw [if_pos h_bin]
    exact ex_bin t u w μ hμ hk hs hks h_bin
  rw [if_neg h_bin]
  by_cases h_assignT : t.op = 46
  · rw [if_pos h_assignT]
    by_cases hss : t.s = ⟨#[61]⟩
    · rw [if_pos hss]
      exact ex_assignT t u w μ hμ hk hs hks h_assignT hss
    · rw [if_neg hss]
      exact ex_assignS t u w μ hμ hk hs hks h_assignT hss
  rw [if_neg h_assignT]
  by_cases h_cond : t.op = 47
  · rw [if_pos h_cond]
    exact ex_cond t u w μ hμ hk hs hks h_cond
  rw [if_neg h_cond]
  by_cases h_seq : t.op = 48
  · rw [if_pos h_seq]
    exact ex_seq t u w μ hμ hk hs hks h_seq
  rw [if_neg h_seq]
  by_cases h_call : t.op = 49 ∨ t.op = 50
  · rw [if_pos h_call]
    exact ex_call t u w μ hμ hk hs hks h_call
  rw [if_neg h_call]
  by_cases h_dot : t.op = 51
  · rw [if_pos h_dot]
    exact ex_dot t u w μ hμ hk hs hks h_dot
  rw [if_neg h_dot]
  by_cases h_chain : t.op = 53
  · rw [if_pos h_chain]
    exact ex_chain t u w μ hμ hk hs hks h_chain hsh
  rw [if_neg h_chain]
  by_cases h_yield : t.op = 54
  · rw [if_pos h_yield]
    exact ex_yield t u w μ hμ hk hs hks h_yield
  rw [if_neg h_yield]
  exact ex_rest t u w μ hμ hk hs hks (by omega)
end Go.Proofs.YtfabmichdhbiaaaGreatDoor
namespace Go.Vcg
open Go.RowKit
def IntAt (B : Nat) (t : TypeId) (k : Int) (w : World) : Prop := w.heap[B]? = some (.cells #[.int .i64 k] t (0, 0))
section
variable {P : Program} {X : Ctx} {ops : Array Oper} {Q : Exit → Act → World → Prop} {rest : List Oper} {μ : Mem} {l : Slots} {L : List Bk} {a : Act} {w : World} {o : Oper} {d : Nat}
theorem IntAt.of {B : Nat} {t : TypeId} {cs : Slots} {k : Int} (h : Bk.at (.inl ⟨B, t, 1, cs⟩) w) (hk : lk cs 0 = some (.int .i64 k)) : IntAt B t k w := by
  obtain ⟨arr, h1, h2, h3⟩ := h
  have h2 : arr.size = 1 := h2
  have h4 := h3 0 _ hk
  have : arr = #[.int .i64 k] := by
    apply Array.ext_getElem?
    intro i
    cases i with
    | zero => rw [h4]; rfl
    | succ i => rw [Array.getElem?_eq_none (by omega), Array.getElem?_eq_none (by simp)]
  subst this
  exact h1
theorem IntAt.at {B : Nat} {t : TypeId} {k : Int} (h : IntAt B t k w) : Bk.at (.inl ⟨B, t, 1, [(0, .int .i64 k)]⟩) w := by
  refine ⟨_, h, rfl, fun i v hv => ?_⟩
  cases i with
  | zero => simp [lk] at hv; simp [hv]
  | succ i => simp [lk, beq_ne (show (0 : Nat) ≠ i + 1 by omega)] at hv
end
end Go.Vcg
namespace Go.Proofs.YtfabmichdhbiaaaGreatDoor
open Go.RowKit Go.Vcg
attribute [local irreducible] G GC GQ GA GAop Calls IntKind.wrap Int.decLt Int.decLe
theorem encTV_len (p : T × Value) : (encTV p).length = 6 := rfl
def sizes (ps : List (T × Value)) : Nat := (ps.map fun p => p.1.size).sum
def Kids (μ : Mem) (ps : List (T × Value)) : Prop := ∀ p ∈ ps, KR μ p.1.kids p.2
theorem Kids.mono {μ μ' : Mem} {ps : List (T × Value)} (h : Kids μ ps) (hle : MLe μ μ') : Kids μ' ps := fun p hp => (h p hp).mono hle
theorem Kids.one {μ : Mem} {ps : List (T × Value)} (h : Kids μ ps) : ∀ u ∈ ps.flatMap encTV, u.oneCell' = true := by
  intro u hu
  obtain ⟨p, hp, hu⟩ := List.mem_flatMap.1 hu
  simp at hu
  rcases hu with rfl | rfl | rfl | rfl | rfl | rfl
  all_goals first | rfl | exact (h p hp).one
theorem KR.of_pairs {μ : Mem} {A : Option Addr} {n c : Nat} {ps : List (T × Value)} (h : Sl encTV 6 μ A n ps) (hc : n ≤ c) (hk : Kids μ ps) : KR μ (ps.map (·.1)) (.slice A n c) := by
  have hn := h.1
  subst hn
  have : KR μ (ps.map (·.1)) (.slice A (ps.map (·.1)).length c) := by
    refine .mk _ A c (fun i => match ps[i]? with | some p => p.2 | none => undef) (by simpa using hc) (fun i t hi => ?_) (fun i t hi => ?_) (fun i t hi => ?_)
    all_goals
      rw [List.getElem?_map] at hi
      cases hp : ps[i]? with
      | none => simp [hp] at hi
      | some p =>
        simp [hp] at hi
        subst hi
        first
          | (obtain ⟨a, e, ha⟩ := h.2 (by have := (List.getElem?_eq_some_iff.1 hp).1; omega); exact ⟨a, e, ha i p hp⟩)
          | exact (hk p (List.mem_of_getElem? hp)).one
          | exact hk p (List.mem_of_getElem? hp)
  simpa using this
theorem sizes_append (a b : List (T × Value)) : sizes (a ++ b) = sizes a + sizes b := by simp [sizes]
def In64 (x : Int) : Prop := -9223372036854775808 ≤ x ∧ x ≤ 9223372036854775807
inductive Ri : T → Prop
  | mk {t : T} (h1 : In64 t.op) (h3 : In64 t.n) (h4 : In64 t.m) (hk : ∀ k ∈ t.kids, Ri k) : Ri t
inductive Sh : T → Prop
  | mk {t : T} (h : t.s.size ≤ 4000) (h1 : In64 t.op) (h3 : In64 t.n) (h4 : In64 t.m) (hk : ∀ k ∈ t.kids, Sh k) : Sh t
theorem Ri.kid {t k : T} (h : Ri t) (hk : k ∈ t.kids) : Ri k := by
  cases h with
  | mk _ _ _ h => exact h k hk
end Go.Proofs.YtfabmichdhbiaaaGreatDoor
