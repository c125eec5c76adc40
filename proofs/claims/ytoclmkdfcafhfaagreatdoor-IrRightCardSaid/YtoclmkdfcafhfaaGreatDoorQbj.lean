/- Package ir -/
import Derived.Test.YtoclmkdfcafhfaaGreatDoorQbi
import Derived.Lib.ItoaLen
set_option maxRecDepth 20000
set_option maxHeartbeats 2000000
namespace Go.Vcg
section
open Go.RowKit Go.Proofs.YtoclmkdfcafhfaaGreatDoor Go.Proofs.YtoclmkdfcafhfaaGreatDoor.Ou
section
variable {P : Program} {μ : Mem} {l : Slots} {L : List Bk} {ds : Option Nat} {ty : TypeId} {pos : String} {af : Array Edge} {gd : Option (Nat × Bool)}
theorem v_addL {p q : Operand} {t t2 : TypeId} {a b : List UInt8} (h0 : ev l p = some (.string (ofB a))) (h1 : ev l q = some (.string (ofB b))) (hb : a.length + b.length ≤ 9000000000000000000) :
    Val P μ l L ⟨ds, .binOp .add t p q t2, ty, pos, af, gd⟩ (.string (ofB (a ++ b))) := by
  have h := v_sadd (P := P) (μ := μ) (L := L) (ds := ds) (ty := ty) (pos := pos) (af := af) (gd := gd) (t := t) (t2 := t2) h0 h1 (by
    have e : ∀ l : List UInt8, (ofB l).size = l.length := fun l => by simp [ofB, ByteArray.size]
    rw [e, e]; omega)
  have e : ofB a ++ ofB b = ofB (a ++ b) := by
    apply byS_inj
    rw [byS_ofB]
    show ((ofB a) ++ (ofB b)).data.toList = _
    rw [ByteArray.data_append]
    simp [ofB]
  rw [← e]
  exact h
end
end
section
open Go.RowKit
section
variable {P : Program} {X : Ctx} {Q : Exit → Act → World → Prop} {μ : Mem} {l : Slots} {L : List Bk} {ty : TypeId} {pos : String} {af : Array Edge} {gd : Option (Nat × Bool)} {ds : Option Nat}
theorem ext_one {s : ByteArray} {k : Nat} {c : UInt8} (h : (bl s)[k]? = some c) : s.extract k (k + 1) = ⟨#[c]⟩ := bl_inj (by
  obtain ⟨h1, h2⟩ := List.getElem?_eq_some_iff.1 h
  rw [bl_extract, List.drop_eq_getElem_cons h1, h2, show k + 1 - k = 1 by omega]
  rfl)
theorem v_str_at {p q r : Operand} {t : TypeId} {s : ByteArray} {j i : Int} {c : UInt8} (k : Nat) (h : (bl s)[k]? = some c) (ht : P.underlying t = some .string) (hx : ev l p = some (.string s)) (hq : ev l q = some (.int .i64 j)) (hj : j = (k : Int)) (hr' : ev l r = some (.int .i64 i)) (hi : i = (k : Int) + 1) :
    Val P μ l L ⟨ds, .slice t p (some q) (some r) none, ty, pos, af, gd⟩ (.string ⟨#[c]⟩) := by
  have hk : k < s.size := by have := (List.getElem?_eq_some_iff.1 h).1; rwa [bl_len] at this
  rw [← ext_one h]
  exact v_str_both k (k + 1) ht hx hq hj hr' (by omega) (by omega) (by omega)
theorem v_str_at8 {p q r : Operand} {t : TypeId} {s : ByteArray} {j i : Int} {c : UInt8} (k : Nat) (h : (bl s)[k]? = some c) (ht : P.underlying t = some .string) (hx : ev l p = some (.string s)) (hq : ev l q = some (.int .u8 j)) (hj : j = (k : Int)) (hr' : ev l r = some (.int .u8 i)) (hi : i = (k : Int) + 1) :
    Val P μ l L ⟨ds, .slice t p (some q) (some r) none, ty, pos, af, gd⟩ (.string ⟨#[c]⟩) := by
  have hk : k < s.size := by have := (List.getElem?_eq_some_iff.1 h).1; rwa [bl_len] at this
  rw [← ext_one h]
  exact v_str_both8 k (k + 1) ht hx hq hj hr' (by omega) (by omega) (by omega)
end
end
end Go.Vcg
namespace Go.Proofs.YtoclmkdfcafhfaaGreatDoor
section
open Go.RowKit Go.Vcg Go.Shelf Ou
theorem hexS_get {d : Nat} (h : d < 16) : (bl hexS)[d]? = some (hexT.getD d 0) := by
  have key : ∀ d, d < 16 → (bl hexS)[d]? = some (hexT.getD d 0) := by decide +kernel
  exact key d h
attribute [local irreducible] G GC GQ GA GAop Calls IntKind.wrap Int.decLt Int.decLe
theorem rquote_spec (s : ByteArray) (hs : s.size ≤ 1000000) (w : World) (μ : Mem) (hμ : MOk μ w) :
    Calls Tryz.prog 45 #[.string s] w fun e w' => e = .returned (.string (ofB (quoteB (byS s)))) ∧ Below w.heap.size w w' := by
  refine call_intro (args := [.string s]) Tryz.func45 rfl Tryz.ntmps45 (by simp) hμ ?_
  repeat' (first | refine KK ?_ | (refine KB ?_ ?_ <;> intro hp) | refine KG ?_ | fail)
  refine gc_loop (ι := Nat) (fun i => i ≤ s.size) (fun i => s.size - i) (fun _ => μ) (fun i => [(5, .int .i64 i), (4, .string (ofB (34 :: ((byS s).take i).flatMap q1))), (3, .string hexS), (0, .string s)])
    (fun i => []) 0 (Nat.zero_le _) (fun a w hs => J5 hs) ?_
  intro i hi
  by_cases hlt : i < s.size
  · obtain ⟨c, hb1, hb2⟩ := bl_at hlt
    have hc := c.toNat_lt
    have hb1' : (byS s)[i]? = some c := hb1
    have hl := qs_len ((byS s).take i)
    have hl2 : ((byS s).take i).length ≤ i := by rw [List.length_take]; omega
    have htk : ((byS s).take (i + 1)).flatMap q1 = ((byS s).take i).flatMap q1 ++ q1 c := by rw [List.take_add_one, hb1', List.flatMap_append]; simp
    generalize hout : ((byS s).take i).flatMap q1 = out at hl htk
    have hn : ∀ n : UInt8, (c = n) = (c.toNat = n.toNat) := fun n => propext UInt8.toNat_inj.symm
    have hq : q1 c = if c.toNat = 10 then [92, 110] else if c.toNat = 9 then [92, 116] else if c.toNat = 13 then [92, 114] else if c.toNat = 0 then [92, 48] else if c.toNat = 34 ∨ c.toNat = 92 then [92, c] else if c.toNat < 32 ∨ 126 < c.toNat then [92, 120, hexT.getD (c.toNat / 16) 0, hexT.getD (c.toNat % 16) 0] else [c] := by
      unfold q1
      simp only [hn]
      rfl
    by_cases h10 : c.toNat = 10
    · rw [if_pos h10] at hq
      repeat' (first | refine KO ?_ | (refine KV (b := by first | exact U2 i | ((refine v_str_at i hb1 rfl rfl rfl (by omega) rfl (by omega))) | ((with_reducible apply v_addL); exact rfl; exact rfl; (simp only [List.length_append, List.length_cons, List.length_nil]; omega))) (c := ?_)) | refine KI ?_ | (refine KB ?_ ?_ <;> intro hp) | refine KG ?_ | fail)
      all_goals first | (exfalso; omega) | (refine gq_backS (i + 1) (by omega) (by omega) rfl ?_ PS; rw [htk, hq]; have hE : ofB (34 :: (out ++ [92, 110])) = ofB ((34 :: out) ++ [92, 110]) := rfl; rw [hE]; exact PU)
    rw [if_neg h10] at hq
    by_cases h9 : c.toNat = 9
    · rw [if_pos h9] at hq
      repeat' (first | refine KO ?_ | (refine KV (b := by first | exact U2 i | ((refine v_str_at i hb1 rfl rfl rfl (by omega) rfl (by omega))) | ((with_reducible apply v_addL); exact rfl; exact rfl; (simp only [List.length_append, List.length_cons, List.length_nil]; omega))) (c := ?_)) | refine KI ?_ | (refine KB ?_ ?_ <;> intro hp) | refine KG ?_ | fail)
      all_goals first | (exfalso; omega) | (refine gq_backS (i + 1) (by omega) (by omega) rfl ?_ PS; rw [htk, hq]; have hE : ofB (34 :: (out ++ [92, 116])) = ofB ((34 :: out) ++ [92, 116]) := rfl; rw [hE]; exact PU)
    rw [if_neg h9] at hq
    by_cases h13 : c.toNat = 13
    · rw [if_pos h13] at hq
      repeat' (first | refine KO ?_ | (refine KV (b := by first | exact U2 i | ((refine v_str_at i hb1 rfl rfl rfl (by omega) rfl (by omega))) | ((with_reducible apply v_addL); exact rfl; exact rfl; (simp only [List.length_append, List.length_cons, List.length_nil]; omega))) (c := ?_)) | refine KI ?_ | (refine KB ?_ ?_ <;> intro hp) | refine KG ?_ | fail)
      all_goals first | (exfalso; omega) | (refine gq_backS (i + 1) (by omega) (by omega) rfl ?_ PS; rw [htk, hq]; have hE : ofB (34 :: (out ++ [92, 114])) = ofB ((34 :: out) ++ [92, 114]) := rfl; rw [hE]; exact PU)
    rw [if_neg h13] at hq
    by_cases h0 : c.toNat = 0
    · rw [if_pos h0] at hq
      repeat' (first | refine KO ?_ | (refine KV (b := by first | exact U2 i | ((refine v_str_at i hb1 rfl rfl rfl (by omega) rfl (by omega))) | ((with_reducible apply v_addL); exact rfl; exact rfl; (simp only [List.length_append, List.length_cons, List.length_nil]; omega))) (c := ?_)) | refine KI ?_ | (refine KB ?_ ?_ <;> intro hp) | refine KG ?_ | fail)
      all_goals first | (exfalso; omega) | (refine gq_backS (i + 1) (by omega) (by omega) rfl ?_ PS; rw [htk, hq]; have hE : ofB (34 :: (out ++ [92, 48])) = ofB ((34 :: out) ++ [92, 48]) := rfl; rw [hE]; exact PU)
    rw [if_neg h0] at hq
    by_cases h34 : c.toNat = 34 ∨ c.toNat = 92
    · rw [if_pos h34] at hq
      rcases h34 with h34 | h34
      all_goals
        repeat' (first | refine KO ?_ | (refine KV (b := by first | exact U2 i | ((refine v_str_at i hb1 rfl rfl rfl (by omega) rfl (by omega))) | ((with_reducible apply v_addL); exact rfl; exact rfl; (simp only [List.length_append, List.length_cons, List.length_nil]; omega))) (c := ?_)) | refine KI ?_ | (refine KB ?_ ?_ <;> intro hp) | refine KG ?_ | fail)
        all_goals first | (exfalso; omega) | (refine gq_backS (i + 1) (by omega) (by omega) rfl ?_ PS; rw [htk, hq]; have hE : ofB (34 :: (out ++ [92, c])) = ofB (((34 :: out) ++ [92]) ++ [c]) := (by simp); rw [hE]; exact PU)
    rw [if_neg h34] at hq
    by_cases hx : c.toNat < 32 ∨ 126 < c.toNat
    · rw [if_pos hx] at hq
      have hi1 : c.toNat / 16 < 16 := by omega
      have hi2 : c.toNat % 16 < 16 := by omega
      rcases hx with hx | hx
      all_goals
        repeat' (first | refine KO ?_ | (refine KV (b := by first | exact U2 i | ((refine v_str_at i hb1 rfl rfl rfl (by omega) rfl (by omega))) | ((with_reducible apply v_addL); exact rfl; exact rfl; (simp only [List.length_append, List.length_cons, List.length_nil]; omega))) (c := ?_)) | refine KI ?_ | (refine KB ?_ ?_ <;> intro hp) | refine KG ?_ | fail)
        all_goals first | (exfalso; omega) | skip
        refine gc_draw 19 ([]) (by kernel_rfl) rfl (by first | exact List.Sublist.refl _ | simp) ?_
        all_goals refine DD 0 ?_
        all_goals (first | refine D1 1 ?_ | (refine DV (k := 1) (b := by first | ((with_reducible apply v_quo8); exact rfl; exact rfl; omega; omega) | ((with_reducible apply v_rem8); exact rfl; exact rfl; omega; omega) | ((with_reducible apply v_str_at8 (c.toNat / 16) (hexS_get hi1)); exact rfl; exact rfl; exact rfl; (first | rfl | omega); exact rfl; (first | rfl | omega)) | ((with_reducible apply v_str_at8 (c.toNat % 16) (hexS_get hi2)); exact rfl; exact rfl; exact rfl; (first | rfl | omega); exact rfl; (first | rfl | omega)) | ((with_reducible apply arB_sound); exact rfl; omega) | ((with_reducible apply v_addL); exact rfl; exact rfl; (simp only [List.length_append, List.length_cons, List.length_nil]; omega))) (c := ?_)) | refine DD 1 ?_ | fail)
        all_goals refine DD 2 ?_
        all_goals refine DD 3 ?_
        all_goals (first | refine D1 4 ?_ | (refine DV (k := 4) (b := by first | ((with_reducible apply v_quo8); exact rfl; exact rfl; omega; omega) | ((with_reducible apply v_rem8); exact rfl; exact rfl; omega; omega) | ((with_reducible apply v_str_at8 (c.toNat / 16) (hexS_get hi1)); exact rfl; exact rfl; exact rfl; (first | rfl | omega); exact rfl; (first | rfl | omega)) | ((with_reducible apply v_str_at8 (c.toNat % 16) (hexS_get hi2)); exact rfl; exact rfl; exact rfl; (first | rfl | omega); exact rfl; (first | rfl | omega)) | ((with_reducible apply arB_sound); exact rfl; omega) | ((with_reducible apply v_addL); exact rfl; exact rfl; (simp only [List.length_append, List.length_cons, List.length_nil]; omega))) (c := ?_)) | refine DD 4 ?_ | fail)
        all_goals refine DD 5 ?_
        all_goals (first | refine D1 6 ?_ | (refine DV (k := 6) (b := by first | ((with_reducible apply v_quo8); exact rfl; exact rfl; omega; omega) | ((with_reducible apply v_rem8); exact rfl; exact rfl; omega; omega) | ((with_reducible apply v_str_at8 (c.toNat / 16) (hexS_get hi1)); exact rfl; exact rfl; exact rfl; (first | rfl | omega); exact rfl; (first | rfl | omega)) | ((with_reducible apply v_str_at8 (c.toNat % 16) (hexS_get hi2)); exact rfl; exact rfl; exact rfl; (first | rfl | omega); exact rfl; (first | rfl | omega)) | ((with_reducible apply arB_sound); exact rfl; omega) | ((with_reducible apply v_addL); exact rfl; exact rfl; (simp only [List.length_append, List.length_cons, List.length_nil]; omega))) (c := ?_)) | refine DD 6 ?_ | fail)
        all_goals (first | refine D1 7 ?_ | (refine DV (k := 7) (b := by first | ((with_reducible apply v_quo8); exact rfl; exact rfl; omega; omega) | ((with_reducible apply v_rem8); exact rfl; exact rfl; omega; omega) | ((with_reducible apply v_str_at8 (c.toNat / 16) (hexS_get hi1)); exact rfl; exact rfl; exact rfl; (first | rfl | omega); exact rfl; (first | rfl | omega)) | ((with_reducible apply v_str_at8 (c.toNat % 16) (hexS_get hi2)); exact rfl; exact rfl; exact rfl; (first | rfl | omega); exact rfl; (first | rfl | omega)) | ((with_reducible apply arB_sound); exact rfl; omega) | ((with_reducible apply v_addL); exact rfl; exact rfl; (simp only [List.length_append, List.length_cons, List.length_nil]; omega))) (c := ?_)) | refine DD 7 ?_ | fail)
        all_goals (first | refine D1 8 ?_ | (refine DV (k := 8) (b := by first | ((with_reducible apply v_quo8); exact rfl; exact rfl; omega; omega) | ((with_reducible apply v_rem8); exact rfl; exact rfl; omega; omega) | ((with_reducible apply v_str_at8 (c.toNat / 16) (hexS_get hi1)); exact rfl; exact rfl; exact rfl; (first | rfl | omega); exact rfl; (first | rfl | omega)) | ((with_reducible apply v_str_at8 (c.toNat % 16) (hexS_get hi2)); exact rfl; exact rfl; exact rfl; (first | rfl | omega); exact rfl; (first | rfl | omega)) | ((with_reducible apply arB_sound); exact rfl; omega) | ((with_reducible apply v_addL); exact rfl; exact rfl; (simp only [List.length_append, List.length_cons, List.length_nil]; omega))) (c := ?_)) | refine DD 8 ?_ | fail)
        all_goals (first | refine D1 9 ?_ | (refine DV (k := 9) (b := by first | ((with_reducible apply v_quo8); exact rfl; exact rfl; omega; omega) | ((with_reducible apply v_rem8); exact rfl; exact rfl; omega; omega) | ((with_reducible apply v_str_at8 (c.toNat / 16) (hexS_get hi1)); exact rfl; exact rfl; exact rfl; (first | rfl | omega); exact rfl; (first | rfl | omega)) | ((with_reducible apply v_str_at8 (c.toNat % 16) (hexS_get hi2)); exact rfl; exact rfl; exact rfl; (first | rfl | omega); exact rfl; (first | rfl | omega)) | ((with_reducible apply arB_sound); exact rfl; omega) | ((with_reducible apply v_addL); exact rfl; exact rfl; (simp only [List.length_append, List.length_cons, List.length_nil]; omega))) (c := ?_)) | refine DD 9 ?_ | fail)
        all_goals refine DD 10 ?_
        all_goals refine DD 11 ?_
        all_goals (first | refine D1 12 ?_ | (refine DV (k := 12) (b := by first | ((with_reducible apply v_quo8); exact rfl; exact rfl; omega; omega) | ((with_reducible apply v_rem8); exact rfl; exact rfl; omega; omega) | ((with_reducible apply v_str_at8 (c.toNat / 16) (hexS_get hi1)); exact rfl; exact rfl; exact rfl; (first | rfl | omega); exact rfl; (first | rfl | omega)) | ((with_reducible apply v_str_at8 (c.toNat % 16) (hexS_get hi2)); exact rfl; exact rfl; exact rfl; (first | rfl | omega); exact rfl; (first | rfl | omega)) | ((with_reducible apply arB_sound); exact rfl; omega) | ((with_reducible apply v_addL); exact rfl; exact rfl; (simp only [List.length_append, List.length_cons, List.length_nil]; omega))) (c := ?_)) | refine DD 12 ?_ | fail)
        all_goals refine DD 13 ?_
        all_goals (first | refine D1 14 ?_ | (refine DV (k := 14) (b := by first | ((with_reducible apply v_quo8); exact rfl; exact rfl; omega; omega) | ((with_reducible apply v_rem8); exact rfl; exact rfl; omega; omega) | ((with_reducible apply v_str_at8 (c.toNat / 16) (hexS_get hi1)); exact rfl; exact rfl; exact rfl; (first | rfl | omega); exact rfl; (first | rfl | omega)) | ((with_reducible apply v_str_at8 (c.toNat % 16) (hexS_get hi2)); exact rfl; exact rfl; exact rfl; (first | rfl | omega); exact rfl; (first | rfl | omega)) | ((with_reducible apply arB_sound); exact rfl; omega) | ((with_reducible apply v_addL); exact rfl; exact rfl; (simp only [List.length_append, List.length_cons, List.length_nil]; omega))) (c := ?_)) | refine DD 14 ?_ | fail)
        all_goals (first | refine D1 15 ?_ | (refine DV (k := 15) (b := by first | ((with_reducible apply v_quo8); exact rfl; exact rfl; omega; omega) | ((with_reducible apply v_rem8); exact rfl; exact rfl; omega; omega) | ((with_reducible apply v_str_at8 (c.toNat / 16) (hexS_get hi1)); exact rfl; exact rfl; exact rfl; (first | rfl | omega); exact rfl; (first | rfl | omega)) | ((with_reducible apply v_str_at8 (c.toNat % 16) (hexS_get hi2)); exact rfl; exact rfl; exact rfl; (first | rfl | omega); exact rfl; (first | rfl | omega)) | ((with_reducible apply arB_sound); exact rfl; omega) | ((with_reducible apply v_addL); exact rfl; exact rfl; (simp only [List.length_append, List.length_cons, List.length_nil]; omega))) (c := ?_)) | refine DD 15 ?_ | fail)
        all_goals (first | refine D1 16 ?_ | (refine DV (k := 16) (b := by first | ((with_reducible apply v_quo8); exact rfl; exact rfl; omega; omega) | ((with_reducible apply v_rem8); exact rfl; exact rfl; omega; omega) | ((with_reducible apply v_str_at8 (c.toNat / 16) (hexS_get hi1)); exact rfl; exact rfl; exact rfl; (first | rfl | omega); exact rfl; (first | rfl | omega)) | ((with_reducible apply v_str_at8 (c.toNat % 16) (hexS_get hi2)); exact rfl; exact rfl; exact rfl; (first | rfl | omega); exact rfl; (first | rfl | omega)) | ((with_reducible apply arB_sound); exact rfl; omega) | ((with_reducible apply v_addL); exact rfl; exact rfl; (simp only [List.length_append, List.length_cons, List.length_nil]; omega))) (c := ?_)) | refine DD 16 ?_ | fail)
        all_goals (first | refine D1 17 ?_ | (refine DV (k := 17) (b := by first | ((with_reducible apply v_quo8); exact rfl; exact rfl; omega; omega) | ((with_reducible apply v_rem8); exact rfl; exact rfl; omega; omega) | ((with_reducible apply v_str_at8 (c.toNat / 16) (hexS_get hi1)); exact rfl; exact rfl; exact rfl; (first | rfl | omega); exact rfl; (first | rfl | omega)) | ((with_reducible apply v_str_at8 (c.toNat % 16) (hexS_get hi2)); exact rfl; exact rfl; exact rfl; (first | rfl | omega); exact rfl; (first | rfl | omega)) | ((with_reducible apply arB_sound); exact rfl; omega) | ((with_reducible apply v_addL); exact rfl; exact rfl; (simp only [List.length_append, List.length_cons, List.length_nil]; omega))) (c := ?_)) | refine DD 17 ?_ | fail)
        all_goals refine DD 18 ?_
        all_goals refine D8 ?_
        all_goals repeat' (first | refine KO ?_ | (refine KV (b := by first | ((with_reducible apply v_addL); exact rfl; exact rfl; (simp only [List.length_append, List.length_cons, List.length_nil]; omega))) (c := ?_)) | refine KI ?_ | (refine KB ?_ ?_ <;> intro hp) | refine KG ?_ | fail)
        all_goals first | (exfalso; omega) | (refine gq_backS (i + 1) (by omega) (by omega) rfl ?_ PS; rw [htk, hq]; have hE : ofB (34 :: (out ++ [92, 120, hexT.getD (c.toNat / 16) 0, hexT.getD (c.toNat % 16) 0])) = ofB (34 :: out ++ [92, 120] ++ [hexT.getD (c.toNat / 16) 0] ++ [hexT.getD (c.toNat % 16) 0]) := (by simp); rw [hE]; exact PU)
    rw [if_neg hx] at hq
    repeat' (first | refine KO ?_ | (refine KV (b := by first | exact U2 i | ((refine v_str_at i hb1 rfl rfl rfl (by omega) rfl (by omega))) | ((with_reducible apply v_addL); exact rfl; exact rfl; (simp only [List.length_append, List.length_cons, List.length_nil]; omega))) (c := ?_)) | refine KI ?_ | (refine KB ?_ ?_ <;> intro hp) | refine KG ?_ | fail)
    all_goals first | (exfalso; omega) | (refine gq_backS (i + 1) (by omega) (by omega) rfl ?_ PS; rw [htk, hq]; have hE : ofB (34 :: (out ++ [c])) = ofB ((34 :: out) ++ [c]) := rfl; rw [hE]; exact PU)
  · have hall : (byS s).take i = byS s := List.take_of_length_le (by rw [show (byS s).length = s.size from bl_len s]; omega)
    have hl := qs_len (byS s)
    have hl2 : (byS s).length = s.size := bl_len s
    rw [hall]
    generalize hout : (byS s).flatMap q1 = out at hl
    have hqb : ofB (quoteB (byS s)) = ofB ((34 :: out) ++ [34]) := by unfold quoteB; rw [hout]; rfl
    rw [hqb]
    repeat' (first | refine KO ?_ | (refine KV (b := by first | ((with_reducible apply v_addL); exact rfl; exact rfl; (simp only [List.length_append, List.length_cons, List.length_nil]; omega))) (c := ?_)) | refine KI ?_ | (refine KB ?_ ?_ <;> intro hp) | refine KG ?_ | fail)
    all_goals first | (exfalso; omega) | exact ret_s rfl rfl rfl
abbrev encW (l : List UInt8) : List Value := [.string (ofB l)]
theorem bExtraW : Builder.Extra Tryz.prog Tryz.lays156_ren := {
  sizeBuilder := by kernel_rfl
  liesBuilder := by kernel_rfl
  t5 := by kernel_rfl
  a5 := Go.Vcg.run_isAgg (by kernel_rfl)
  z5 := Go.Vcg.run_sizeOf (by kernel_rfl)
  v5 := Go.Vcg.run_zeroValue (by kernel_rfl)
  infoByte := by kernel_rfl
  cellsByte := by kernel_rfl
  sizeByte := by kernel_rfl
  neB5 := by decide }
theorem joinW {μ : Mem} {A : Option Addr} {n c : Nat} {ws : List (List UInt8)} (hS : Sl encW 1 μ A n ws) (hc : n ≤ c) (hn : 0 < n) (hnb : n ≤ 200000) (hl : (Lib.join ws [32]).length ≤ 140737488355328) (w : World) (hμ : MOk μ w) :
    Calls Tryz.prog 71 #[.slice A n c, .string ⟨#[32]⟩] w fun e w' => e = .returned (.string ⟨(Lib.join ws [32]).toArray⟩) ∧ Below w.heap.size w w' := by
  obtain ⟨a, rfl, ha⟩ := hS.2 hn
  have hlen := hS.1
  subst hlen
  obtain ⟨x0, hx0⟩ : ∃ x0, ws[0]? = some x0 := ⟨ws[0], List.getElem?_eq_getElem hn⟩
  obtain ⟨c0, t0, f0, h0, hsp, hc0⟩ := ha 0 x0 hx0 0 (.string ⟨x0.toArray⟩) rfl
  obtain ⟨bk, o, spt⟩ := a
  have hspt : spt = none := by
    cases spt with
    | none => rfl
    | some y => simp [Addr.add] at hsp
  subst hspt
  have hm : ∀ (j : Nat) (x : List UInt8), ws[j]? = some x → MCell μ ⟨bk, o + j, none⟩ (.string ⟨x.toArray⟩) := fun j x hx => by
    have := ha j x hx 0 (.string ⟨x.toArray⟩) rfl
    rw [add_add', add_lit, Nat.mul_one, Nat.add_zero] at this
    exact this
  obtain ⟨c0, t0, f0, h0, -, -⟩ := hm 0 x0 hx0
  have hcell : ∀ (j : Nat) x, (ws.map fun l => (⟨l.toArray⟩ : ByteArray))[j]? = some x → w.cell? ⟨bk, o + j, none⟩ = some (.string x) := fun j x hx => by
    rw [List.getElem?_map] at hx
    cases hw : ws[j]? with
    | none => rw [hw] at hx; cases hx
    | some l =>
      rw [hw] at hx
      cases hx
      obtain ⟨cs, t, f, h1, h2, h3⟩ := hm j l hw
      have h1' : w.heap[bk]? = some (.cells cs t f) := hμ _ _ h1
      have h3' : cs[o + j]? = some (.string ⟨l.toArray⟩) := h3
      simp [World.cell?, h1', h3']
  have hbk : bk < w.heap.size := (Array.getElem?_eq_some_iff.1 (hμ _ _ h0)).1
  have hmm : (ws.map fun l => (⟨l.toArray⟩ : ByteArray)).map (·.data.toList) = ws := by
    rw [List.map_map]
    exact List.map_id' ws
  have h := Any.strings_Join Tryz.lays156 bExtraW bk o c (ws.map fun l => (⟨l.toArray⟩ : ByteArray)) ⟨#[32]⟩ w hcell hbk (by simp; omega) (by simpa using hc) (by rw [hmm]; exact hl)
  rw [hmm, List.length_map] at h
  exact h
theorem textF_int {n : Int} (h : -9007199254740992 ≤ n ∧ n ≤ 9007199254740992) : textF (ofF n) = ofB (Lib.itoa n) ∧ textF ⟨3, n, noS⟩ = ofB (Lib.itoa n) := by
  have hi : inF n = true := by unfold inF; simp; omega
  have hw : wholeF ⟨3, n, noS⟩ = true := by unfold wholeF; simp [hi, noS]
  constructor
  · unfold textF ofF
    rw [if_pos hi, if_pos hw]
    rfl
  · unfold textF
    rw [if_pos hw]
    rfl
theorem pdigits_spec (n : Int) (h : -9007199254740992 ≤ n ∧ n ≤ 9007199254740992) (w : World) (μ : Mem) (hμ : MOk μ w) (hT : TabOk μ) : Calls Tryz.prog 40 #[.int .i64 n] w fun en w' => en = .returned (.string (ofB (Lib.itoa n))) ∧ Below w.heap.size w w' := by
  rw [← (textF_int h).1]
  refine call_intro (args := [.int .i64 n]) Tryz.func40 rfl Tryz.ntmps40 (by simp) hμ ?_
  repeat' (first | refine KO ?_ | ((with_reducible apply F1 73); exact rfl; exact EN; (exact fun w μc hw hse => of_spec _ w μc hw)) | ((with_reducible apply F1 61); exact rfl; exact EN; (exact fun w μc hw hse => text_spec w μc hw (hT.mono hse.le) _)) | refine KI ?_ | (refine KB ?_ ?_ <;> intro hp) | refine KG ?_ | fail)
  exact ret_s rfl rfl rfl
theorem rnumber_spec (n : Int) (h : -9007199254740992 ≤ n ∧ n ≤ 9007199254740992) (w : World) (μ : Mem) (hμ : MOk μ w) : Calls Tryz.prog 44 #[.int .i64 n] w fun en w' => en = .returned (.string (ofB (Lib.itoa n))) ∧ Below w.heap.size w w' := by
  rw [← (textF_int h).2]
  refine call_intro (args := [.int .i64 n]) Tryz.func44 rfl Tryz.ntmps44 (by simp) hμ ?_
  repeat' (first | refine KO ?_ | ((with_reducible apply F1 67); exact rfl; exact EN; (exact fun w μc hw hse => refText_spec w μc hw ⟨3, n, noS⟩)) | refine KI ?_ | (refine KB ?_ ?_ <;> intro hp) | refine KG ?_ | fail)
  exact ret_s rfl rfl rfl
theorem itoa_len21 {n : Int} (h : -9007199254740992 ≤ n ∧ n ≤ 9007199254740992) : (Lib.itoa n).length ≤ 21 := Lib.itoa_length_le n (by omega) (by omega)
theorem quote_len (s : ByteArray) : (quoteB (byS s)).length ≤ 4 * s.size + 2 := by
  have h := qs_len (byS s)
  have h2 : (byS s).length = s.size := Array.length_toList
  unfold quoteB
  simp only [List.length_append, List.length_cons, List.length_nil]
  omega
end
section
open Go.RowKit Go.Vcg Go.Shelf Ou
def lineB (ws : List (List UInt8)) : List UInt8 := Lib.join ws [32] ++ [10]
attribute [local irreducible] rowI G GC GQ GA GAop Calls IntKind.wrap Int.decLt Int.decLe
theorem pline_spec (k : Nat) (p v : Value) (out : List UInt8) (ws : List (List UInt8)) (A : Option Addr) (n c : Nat) (hp : IsP k p) (w : World) (μ : Mem) (hμ : MOk μ w) (hO : Go.Vcg.Own μ (Bld k p v out []) w) (hS : Sl encW 1 μ A n ws) (hc : n ≤ c) (hn : 0 < n) (hnb : n ≤ 200000) (hl : out.length + (Lib.join ws [32]).length + 1 ≤ 140737488355328) :
    Calls Tryz.prog 39 #[.pointer (some ⟨k, 0, none⟩), .slice A n c] w fun e w' => ∃ r μ' i, e = .returned r ∧ BackM (idsOf (Bld k p v out [])) w w' μ (Bld k (.pointer (some ⟨k, 0, none⟩)) i (out ++ lineB ws) []) μ' ∧ True := by
  have hcnt := ids_count hO.diff
  have hj := fun (w : World) (μc : Mem) (hw : MOk μc w) (hle : MLe μ μc) => joinW (hS.mono hle) hc hn hnb (by omega) w hw
  generalize hJ : Lib.join ws [32] = J at hj hl
  have hsz : (⟨J.toArray⟩ : ByteArray).size = J.length := by simp [ByteArray.size]
  refine call_introM (args := [.pointer (some ⟨k, 0, none⟩), .slice A n c]) Tryz.func39 rfl Tryz.ntmps39 (by simp) hμ hO ?_
  repeat' (first | refine KO ?_ | ((with_reducible apply F1 71); exact rfl; exact EN; (exact fun w μc hw hse => hj w μc hw hse.le)) | (refine CF 70 ?_; (with_reducible apply g_enter_bor 2); exact rfl; exact rfl; exact rfl; ((with_reducible apply e_call2); kernel_rfl; exact rfl; exact rfl); exact rfl; (exact fun w hw hO => wstring_spec k _ _ _ ⟨J.toArray⟩ hp (by omega) w _ hw hO); (rintro v2 μ2 i2 hle2 rfl); (dsimp only [List.cons_append, List.nil_append])) | (refine CF 72 ?_; (with_reducible apply g_enter_bor 2); exact rfl; exact rfl; exact rfl; ((with_reducible apply e_call2); kernel_rfl; exact rfl; exact rfl); exact rfl; (exact fun w hw hO => wbyte_spec k _ _ _ (10 : Int) 10 (.inr rfl) rfl (by rw [List.length_append, show (bl ⟨J.toArray⟩).length = J.length by simp [bl]]; omega) w _ hw hO); (rintro v2 μ2 i2 hle2 rfl); (dsimp only [List.cons_append, List.nil_append])) | refine KI ?_ | (refine KB ?_ ?_ <;> intro hp) | refine KG ?_ | fail)
  all_goals exact ret_bor0 (Post := fun _ _ _ => True) (Ls := fun i => Bld k (.pointer (some ⟨k, 0, none⟩)) i (out ++ lineB ws) []) 2 _ (.inr rfl) hcnt rfl rfl (by unfold lineB; rw [hJ, ← List.append_assoc] <;> rfl) (fun _ _ _ => trivial)
theorem lineB5 (a b c d e : List UInt8) : lineB [a, b, c, d, e] = a ++ 32 :: (b ++ 32 :: (c ++ 32 :: (d ++ 32 :: e))) ++ [10] := by
  simp [lineB, Lib.join_cons, Lib.joinTail]
theorem lineB2 (a b : List UInt8) : lineB [a, b] = a ++ 32 :: b ++ [10] := by
  simp [lineB, Lib.join_cons, Lib.joinTail]
theorem join_len (ws : List (List UInt8)) : (Lib.join ws [32]).length + 1 = (lineB ws).length := by simp [lineB]
theorem sl_words {μ : Mem} {b t sz : Nat} (ws : List (List UInt8)) (h : Bk.sh (.inl ⟨b, t, sz, idx 0 (ws.map fun l => Value.string (ofB l))⟩) μ) : Sl encW 1 μ (some ⟨b, 0, none⟩) ws.length ws := by
  refine Sl.of_own h rfl (fun i y hy j v hj => ?_)
  have hj1 : j = 0 := by have := (List.getElem?_eq_some_iff.1 hj).1; simp at this; omega
  subst hj1
  have hv : v = .string (ofB y) := by simpa using hj.symm
  subst hv
  have := lk_idx_of (ws.map fun l => Value.string (ofB l)) 0 i (.string (ofB y)) (by rw [List.getElem?_map, hy]; rfl)
  rw [Nat.mul_one]
  simpa using this
theorem op_rng {op : Int} (h : (rowI op).1 ≠ []) : -9223372036854775808 ≤ op ∧ op ≤ 9223372036854775807 := by
  rcases kinds op with ⟨k, x, rfl, h1, h2⟩ | ⟨h1, h2⟩
  · have h3 : k < 1000 := by
      rcases Nat.lt_or_ge k 1000 with h4 | h4
      · exact h4
      · exfalso
        have h5 := List.all_eq_true.1 in_all
        have : ∀ {l : List Row}, findR k l = some x → (∀ y ∈ l, Nat.ble 100 y.1 && Nat.ble y.1 172) → False := by
          intro l
          induction l with
          | nil => intro h; cases h
          | cons y r ih =>
            intro h hl
            obtain ⟨j, z⟩ := y
            unfold findR at h
            split at h
            · rename_i hj
              have hj2 := Nat.eq_of_beq_eq_true hj
              have := hl (j, z) (List.mem_cons_self ..)
              simp at this
              omega
            · exact ih h (fun y hy => hl y (List.mem_cons_of_mem _ hy))
        exact this h1 h5
    simp only [Int.ofNat_eq_natCast]
    omega
  · rw [h2] at h
    exact absurd rfl h
theorem name_at (w : World) (μ : Mem) (hμ : MOk μ w) (hm : MaxM μ) (op : Int) (ho : -9223372036854775808 ≤ op ∧ op ≤ 9223372036854775807) :
    Calls Tryz.prog 8 #[.int .i64 op] w fun e w' => e = .returned (.string (ofB (rowI op).1)) ∧ Below w.heap.size w w' := name_spec w μ hμ hm op ho
theorem maxM_ofQ2 {μ : Mem} (h : MaxQ μ) : MaxM μ := fun w hw => by
  obtain ⟨m, hm⟩ := h
  obtain ⟨c, t, f, h1, h2, h3⟩ := hm
  refine ⟨m, ?_⟩
  have h4 := hw _ _ h1
  show w.cell? ⟨0, 0, none⟩ = _
  dsimp only at h3 h4
  simp [World.cell?, h4, h3]
theorem nodeT_eq (t : T) : Iq.nodeT rowI t = Iq.lineT rowI t.op t.n t.m t.kids.length (byS t.s) ++ 10 :: Iq.kidsT rowI t.kids := by
  cases t with
  | mk op a n m s kids => rw [Iq.nodeT]; rfl
theorem line_node (t : T) : lineB [(rowI t.op).1, Lib.itoa t.n, Lib.itoa t.m, Lib.itoa t.kids.length, quoteB (byS t.s)] = Iq.lineT rowI t.op t.n t.m t.kids.length (byS t.s) ++ [10] := by
  rw [lineB5]
  rfl
theorem okT_parts {t : T} {deep : Int} (h : Iq.OkT rowI deep t) : (rowI t.op).1 ≠ [] ∧ (-9007199254740992 ≤ t.n ∧ t.n ≤ 9007199254740992) ∧ (-9007199254740992 ≤ t.m ∧ t.m ≤ 9007199254740992) ∧ t.kids.length ≤ 1048576 ∧ t.s.size ≤ 65536 ∧ ∀ k ∈ t.kids, Iq.OkT rowI (deep + 1) k := by
  cases t with
  | mk op a n m s kids =>
    obtain ⟨h1, h2, h3, h4, h5, h6, h7⟩ := h
    refine ⟨h1, h2, h3, h4, h5, ?_⟩
    have key : ∀ (l : List T), Iq.OkL rowI deep l → ∀ k ∈ l, Iq.OkT rowI (deep + 1) k := by
      intro l
      induction l with
      | nil => intro _ k hk; cases hk
      | cons a r ih =>
        intro ho k hk
        rcases List.mem_cons.1 hk with rfl | hk
        · exact ho.1
        · exact ih ho.2 k hk
    exact key kids h7
attribute [local irreducible] Iq.nodeT Iq.kidsT
def PWriteC (N : Nat) : Prop := ∀ (t : T) (u : Value) (deep : Int) (k : Nat) (p v : Value) (out : List UInt8) (w : World) (μ : Mem), IsP k p → MOk μ w → Go.Vcg.Own μ (Bld k p v out []) w → MaxQ μ → TabOk μ → KR μ t.kids u → Iq.OkT rowI deep t → t.size ≤ N → out.length + (Iq.nodeT rowI t).length ≤ 140737488355328 →
  Calls Tryz.prog 42 #[.pointer (some ⟨k, 0, none⟩), .agg (encT t u).toArray] w fun e w' => ∃ r μ' i, e = .returned r ∧ BackM (idsOf (Bld k p v out [])) w w' μ (Bld k (.pointer (some ⟨k, 0, none⟩)) i (out ++ Iq.nodeT rowI t) []) μ' ∧ True
theorem pwrite_spec : ∀ (N : Nat), PWriteC N := by
  intro N
  induction N with
  | zero => intro t u deep k p v out w μ hp hμ hO hmq hT hk hok hN; exact absurd hN (by rw [T.size_eq]; omega)
  | succ N ih =>
    intro t u deep k p v out w μ hp hμ hO hmq hT hk hok hN hlen
    have hcnt := ids_count hO.diff
    have ho := hk.one
    have hmm := maxM_ofQ2 hmq
    obtain ⟨h1, h2, h3, h4, h5, h6⟩ := okT_parts hok
    have hop := op_rng h1
    have hkl := kids_le t
    obtain ⟨A0, cK, rfl, hlc, hget⟩ := hk.form
    have hnT := nodeT_eq t
    have hln := line_node t
    have hll := join_len [(rowI t.op).1, Lib.itoa t.n, Lib.itoa t.m, Lib.itoa t.kids.length, quoteB (byS t.s)]
    have hlt0 : (Iq.nodeT rowI t).length = (lineB [(rowI t.op).1, Lib.itoa t.n, Lib.itoa t.m, Lib.itoa t.kids.length, quoteB (byS t.s)]).length + (Iq.kidsT rowI t.kids).length := by
      rw [hnT, hln]
      simp only [List.length_append, List.length_cons, List.length_nil]
      omega
    refine call_introM (args := [.pointer (some ⟨k, 0, none⟩), .agg (encT t (.slice A0 t.kids.length cK)).toArray]) Tryz.func42 rfl Tryz.ntmps42 (by simp) hμ hO ?_
    repeat' (first | ((with_reducible show GC _ _ (Code.seq (Code.region 1 _ _) _) _ _ _ _); (apply gc_stop)) | refine KK ?_ | refine NB fun b => ?_ | (refine KB ?_ ?_ <;> intro hp) | refine KG ?_ | fail)
    obtain ⟨bn, hbn⟩ : ∃ x, x = b := ⟨_, rfl⟩
    rw [← hbn]
    clear hbn
    refine gcs (gc_sel (l' := [(0, .pointer (some ⟨k, 0, none⟩)), (3, .pointer (some ⟨bn, 0, none⟩))]) (L' := Bld k p v out [] ++ [.inl ⟨bn, 42, 6, idx 0 (encT t (.slice A0 t.kids.length cK))⟩]) PU PS ?_)
    dsimp only [List.cons_append, List.nil_append]
    refine gc_join (ι := Value) (fun _ => True) (fun _ => μ) (fun _ => [(0, .pointer (some ⟨k, 0, none⟩)), (3, .pointer (some ⟨bn, 0, none⟩))]) (fun y => Bld k (.pointer (some ⟨k, 0, none⟩)) y (out ++ lineB [(rowI t.op).1, Lib.itoa t.n, Lib.itoa t.m, Lib.itoa t.kids.length, quoteB (byS t.s)]) [] ++ [.inl ⟨bn, 42, 6, idx 0 (encT t (.slice A0 t.kids.length cK))⟩]) ?_ ?_
    · refine gc_drawS 19 ([.inl ⟨bn, 42, 6, idx 0 (encT t (.slice A0 t.kids.length cK))⟩]) (by kernel_rfl) rfl PS ?_
      all_goals refine DD 0 ?_
      all_goals refine DD 1 ?_
      all_goals refine DD 2 ?_
      all_goals refine DD 4 ?_
      all_goals refine DD 5 ?_
      all_goals refine DD 7 ?_
      all_goals refine DD 8 ?_
      all_goals refine DD 10 ?_
      all_goals refine DD 11 ?_
      all_goals refine DD 12 ?_
      all_goals refine DD 14 ?_
      all_goals refine DD 15 ?_
      all_goals (first | (refine D3 3 ?_; refine D5 ?_; (first | ((with_reducible apply F1 8); exact rfl; exact EN; (exact fun w μc hw hse => name_at w μc hw (hmm.mono hse.le) _ hop)) | ((with_reducible apply F1 40); exact rfl; exact EN; (exact fun w μc hw hse => pdigits_spec _ (by first | exact h2 | exact h3 | omega) w μc hw (hT.mono hse.le))) | ((with_reducible apply F1 41); exact rfl; exact EN; (exact fun w μc hw hse => lquote_spec _ (by omega) w μc hw)) | (refine CF 39 ?_; (refine g_share_0 rfl ?_); (intro μ3 hle3 hsh3); (with_reducible apply g_enter_bor 2); exact rfl; exact rfl; exact rfl; ((with_reducible apply e_call2); kernel_rfl; exact rfl; exact rfl); exact rfl; (exact fun w hw hO => pline_spec k p v out [(rowI t.op).1, Lib.itoa t.n, Lib.itoa t.m, Lib.itoa t.kids.length, quoteB (byS t.s)] _ 5 5 hp w μ3 hw hO (sl_words _ hsh3) (by omega) (by omega) (by omega) (by omega)); (rintro v2 μ2 i2 hle2 -); (dsimp only [List.cons_append, List.nil_append]); refine g_forget hcnt (hle3.trans hle2) rfl ?_)); refine D9S ?_))
      all_goals (first | (refine D3 6 ?_; refine D5 ?_; (first | ((with_reducible apply F1 8); exact rfl; exact EN; (exact fun w μc hw hse => name_at w μc hw (hmm.mono hse.le) _ hop)) | ((with_reducible apply F1 40); exact rfl; exact EN; (exact fun w μc hw hse => pdigits_spec _ (by first | exact h2 | exact h3 | omega) w μc hw (hT.mono hse.le))) | ((with_reducible apply F1 41); exact rfl; exact EN; (exact fun w μc hw hse => lquote_spec _ (by omega) w μc hw)) | (refine CF 39 ?_; (refine g_share_0 rfl ?_); (intro μ3 hle3 hsh3); (with_reducible apply g_enter_bor 2); exact rfl; exact rfl; exact rfl; ((with_reducible apply e_call2); kernel_rfl; exact rfl; exact rfl); exact rfl; (exact fun w hw hO => pline_spec k p v out [(rowI t.op).1, Lib.itoa t.n, Lib.itoa t.m, Lib.itoa t.kids.length, quoteB (byS t.s)] _ 5 5 hp w μ3 hw hO (sl_words _ hsh3) (by omega) (by omega) (by omega) (by omega)); (rintro v2 μ2 i2 hle2 -); (dsimp only [List.cons_append, List.nil_append]); refine g_forget hcnt (hle3.trans hle2) rfl ?_)); refine D9S ?_))
      all_goals (first | (refine D3 9 ?_; refine D5 ?_; (first | ((with_reducible apply F1 8); exact rfl; exact EN; (exact fun w μc hw hse => name_at w μc hw (hmm.mono hse.le) _ hop)) | ((with_reducible apply F1 40); exact rfl; exact EN; (exact fun w μc hw hse => pdigits_spec _ (by first | exact h2 | exact h3 | omega) w μc hw (hT.mono hse.le))) | ((with_reducible apply F1 41); exact rfl; exact EN; (exact fun w μc hw hse => lquote_spec _ (by omega) w μc hw)) | (refine CF 39 ?_; (refine g_share_0 rfl ?_); (intro μ3 hle3 hsh3); (with_reducible apply g_enter_bor 2); exact rfl; exact rfl; exact rfl; ((with_reducible apply e_call2); kernel_rfl; exact rfl; exact rfl); exact rfl; (exact fun w hw hO => pline_spec k p v out [(rowI t.op).1, Lib.itoa t.n, Lib.itoa t.m, Lib.itoa t.kids.length, quoteB (byS t.s)] _ 5 5 hp w μ3 hw hO (sl_words _ hsh3) (by omega) (by omega) (by omega) (by omega)); (rintro v2 μ2 i2 hle2 -); (dsimp only [List.cons_append, List.nil_append]); refine g_forget hcnt (hle3.trans hle2) rfl ?_)); refine D9S ?_))
      all_goals (first | (refine D3 13 ?_; refine D5 ?_; (first | ((with_reducible apply F1 8); exact rfl; exact EN; (exact fun w μc hw hse => name_at w μc hw (hmm.mono hse.le) _ hop)) | ((with_reducible apply F1 40); exact rfl; exact EN; (exact fun w μc hw hse => pdigits_spec _ (by first | exact h2 | exact h3 | omega) w μc hw (hT.mono hse.le))) | ((with_reducible apply F1 41); exact rfl; exact EN; (exact fun w μc hw hse => lquote_spec _ (by omega) w μc hw)) | (refine CF 39 ?_; (refine g_share_0 rfl ?_); (intro μ3 hle3 hsh3); (with_reducible apply g_enter_bor 2); exact rfl; exact rfl; exact rfl; ((with_reducible apply e_call2); kernel_rfl; exact rfl; exact rfl); exact rfl; (exact fun w hw hO => pline_spec k p v out [(rowI t.op).1, Lib.itoa t.n, Lib.itoa t.m, Lib.itoa t.kids.length, quoteB (byS t.s)] _ 5 5 hp w μ3 hw hO (sl_words _ hsh3) (by omega) (by omega) (by omega) (by omega)); (rintro v2 μ2 i2 hle2 -); (dsimp only [List.cons_append, List.nil_append]); refine g_forget hcnt (hle3.trans hle2) rfl ?_)); refine D9S ?_))
      all_goals (first | (refine D3 16 ?_; refine D5 ?_; (first | ((with_reducible apply F1 8); exact rfl; exact EN; (exact fun w μc hw hse => name_at w μc hw (hmm.mono hse.le) _ hop)) | ((with_reducible apply F1 40); exact rfl; exact EN; (exact fun w μc hw hse => pdigits_spec _ (by first | exact h2 | exact h3 | omega) w μc hw (hT.mono hse.le))) | ((with_reducible apply F1 41); exact rfl; exact EN; (exact fun w μc hw hse => lquote_spec _ (by omega) w μc hw)) | (refine CF 39 ?_; (refine g_share_0 rfl ?_); (intro μ3 hle3 hsh3); (with_reducible apply g_enter_bor 2); exact rfl; exact rfl; exact rfl; ((with_reducible apply e_call2); kernel_rfl; exact rfl; exact rfl); exact rfl; (exact fun w hw hO => pline_spec k p v out [(rowI t.op).1, Lib.itoa t.n, Lib.itoa t.m, Lib.itoa t.kids.length, quoteB (byS t.s)] _ 5 5 hp w μ3 hw hO (sl_words _ hsh3) (by omega) (by omega) (by omega) (by omega)); (rintro v2 μ2 i2 hle2 -); (dsimp only [List.cons_append, List.nil_append]); refine g_forget hcnt (hle3.trans hle2) rfl ?_)); refine D9S ?_))
      all_goals (first | (refine D3 17 ?_; refine D5 ?_; refine NB fun b => ?_; refine D9S ?_))
      all_goals (first | (refine D3 18 ?_; refine D5 ?_; (first | ((with_reducible apply F1 8); exact rfl; exact EN; (exact fun w μc hw hse => name_at w μc hw (hmm.mono hse.le) _ hop)) | ((with_reducible apply F1 40); exact rfl; exact EN; (exact fun w μc hw hse => pdigits_spec _ (by first | exact h2 | exact h3 | omega) w μc hw (hT.mono hse.le))) | ((with_reducible apply F1 41); exact rfl; exact EN; (exact fun w μc hw hse => lquote_spec _ (by omega) w μc hw)) | (refine CF 39 ?_; (refine g_share_0 rfl ?_); (intro μ3 hle3 hsh3); (with_reducible apply g_enter_bor 2); exact rfl; exact rfl; exact rfl; ((with_reducible apply e_call2); kernel_rfl; exact rfl; exact rfl); exact rfl; (exact fun w hw hO => pline_spec k p v out [(rowI t.op).1, Lib.itoa t.n, Lib.itoa t.m, Lib.itoa t.kids.length, quoteB (byS t.s)] _ 5 5 hp w μ3 hw hO (sl_words _ hsh3) (by omega) (by omega) (by omega) (by omega)); (rintro v2 μ2 i2 hle2 -); (dsimp only [List.cons_append, List.nil_append]); refine g_forget hcnt (hle3.trans hle2) rfl ?_)); refine D9S ?_))
      all_goals refine D8 ?_
      all_goals exact J1 i2 trivial
    rintro v1 -
    dsimp only [List.cons_append, List.nil_append]
    repeat' (first | refine KK ?_ | refine NB fun b => ?_ | (refine KB ?_ ?_ <;> intro hp) | refine KG ?_ | fail)
    refine gc_loop (ι := Nat × Value × List UInt8) (fun q => q.1 ≤ t.kids.length ∧ q.2.2 ++ Iq.kidsT rowI (t.kids.drop q.1) = out ++ Iq.nodeT rowI t) (fun q => t.kids.length - q.1) (fun _ => μ) (fun q => [(28, .int .i64 (q.1 : Int)), (27, .int .i64 (t.kids.length : Int)), (26, .slice A0 t.kids.length cK), (0, .pointer (some ⟨k, 0, none⟩)), (3, .pointer (some ⟨bn, 0, none⟩))]) (fun q => Bld k (.pointer (some ⟨k, 0, none⟩)) q.2.1 q.2.2 [] ++ [.inl ⟨bn, 42, 6, idx 0 (encT t (.slice A0 t.kids.length cK))⟩]) (0, v1, (out ++ lineB [(rowI t.op).1, Lib.itoa t.n, Lib.itoa t.m, Lib.itoa t.kids.length, quoteB (byS t.s)])) ⟨by simp, by rw [hnT, hln]; simp⟩ (fun a w hs => hs.sel PU PS) ?_
    rintro ⟨j, vj, oj⟩ ⟨hj, hoj⟩
    dsimp only [List.cons_append, List.nil_append] at hj hoj ⊢
    by_cases hlt : j < t.kids.length
    · have hkk : t.kids[j]? = some t.kids[j] := List.getElem?_eq_getElem hlt
      have hksz := T.size_kid hkk
      have hkok := h6 _ (List.mem_of_getElem? hkk)
      generalize t.kids[j] = kd at hkk hksz hkok
      obtain ⟨ad, x, rfl, hm, hox, hkx⟩ := hget j kd hkk
      have hkT : Iq.kidsT rowI (t.kids.drop j) = Iq.nodeT rowI kd ++ Iq.kidsT rowI (t.kids.drop (j + 1)) := by rw [dropc hkk, Iq.kidsT]
      rw [hkT] at hoj
      have hlj := congrArg List.length hoj
      simp only [List.length_append] at hlj
      repeat' (first | ((with_reducible show GC _ _ (Code.region 5 _ _) _ _ _ _); (apply gc_stop)) | refine KO ?_ | (refine KV (b := by first | exact U1 j | exact U4 hm) (c := ?_)) | refine KI ?_ | refine NB fun b => ?_ | (refine KB ?_ ?_ <;> intro hp) | refine KG ?_ | fail)
      all_goals try (exfalso; omega)
      obtain ⟨bk, hbk⟩ : ∃ x, x = b := ⟨_, rfl⟩
      rw [← hbk]
      clear hbk
      refine gcs (gc_sel (l' := [(28, .int .i64 (j : Int)), (27, .int .i64 (t.kids.length : Int)), (26, .slice (some ad) t.kids.length cK), (5, .pointer (some ⟨bk, 0, none⟩)), (0, .pointer (some ⟨k, 0, none⟩)), (3, .pointer (some ⟨bn, 0, none⟩))]) (L' := Bld k (.pointer (some ⟨k, 0, none⟩)) vj oj [] ++ [.inl ⟨bn, 42, 6, idx 0 (encT t (.slice (some ad) t.kids.length cK))⟩, .inl ⟨bk, 42, 6, idx 0 (encT kd x)⟩]) PU PS ?_)
      dsimp only [List.cons_append, List.nil_append]
      repeat' (first | refine KO ?_ | (refine CF 42 ?_; (with_reducible apply g_enter_bor 2); exact rfl; exact rfl; exact rfl; ((with_reducible apply e_call2); kernel_rfl; exact rfl; exact rfl); exact rfl; (exact fun w hw hO => ih kd x (deep + 1) k _ vj oj w μ (.inr rfl) hw hO hmq hT hkx hkok (by omega) (by omega)); (rintro v2 μ2 i2 hle2 -); (dsimp only [List.cons_append, List.nil_append]); refine g_forget hcnt hle2 rfl ?_) | refine KI ?_ | refine NB fun b => ?_ | (refine KB ?_ ?_ <;> intro hp) | refine KG ?_ | fail)
      all_goals exact J2 (j + 1, i2, oj ++ Iq.nodeT rowI kd) ⟨by dsimp only; omega, by rw [List.append_assoc]; exact hoj⟩ (by dsimp only; omega)
    · rw [List.drop_of_length_le (by omega), Iq.kidsT, List.append_nil] at hoj
      subst hoj
      repeat' (first | refine KK ?_ | refine NB fun b => ?_ | (refine KB ?_ ?_ <;> intro hp) | refine KG ?_ | fail)
      all_goals first | (exfalso; omega) | (refine gq_sel (l' := []) (L' := Bld k (.pointer (some ⟨k, 0, none⟩)) vj (out ++ Iq.nodeT rowI t) []) PU PS ?_; first | exact ret_bor0 (Post := fun _ _ _ => True) (Ls := fun i => Bld k (.pointer (some ⟨k, 0, none⟩)) i (out ++ Iq.nodeT rowI t) []) 2 vj (.inr rfl) hcnt rfl rfl rfl (fun _ _ _ => trivial) | exact ret_bor0 (Post := fun _ _ _ => True) (Ls := fun i => Bld k (.pointer (some ⟨k, 0, none⟩)) i (out ++ Iq.nodeT rowI t) []) 2 vj (.inl rfl) hcnt rfl rfl rfl (fun _ _ _ => trivial))
end
end Go.Proofs.YtoclmkdfcafhfaaGreatDoor
