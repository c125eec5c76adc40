/- Package early: loop, walked. (and what leans on it). No statement of the seat is proved here. -/
import Derived.Test.YtfabmichdhbiaaaGreatDoorQao
import Derived.Test.YtfabmichdhbiaaaGreatDoorQae
set_option maxRecDepth 20000
set_option maxHeartbeats 2000000
namespace Go.Proofs.YtfabmichdhbiaaaGreatDoor
open Go.RowKit Go.Vcg Ou
theorem kids_last {t : T} (h1 : 1 ≤ t.kids.length) : szs t.kids = szs (t.kids.take (t.kids.length - 1)) + (kidE t (t.kids.length - 1)).size := by
  have hlast : t.kids = t.kids.take (t.kids.length - 1) ++ [kidE t (t.kids.length - 1)] := by
    unfold kidE
    conv => lhs; rw [← List.take_append_drop (t.kids.length - 1) t.kids]
    congr 1
    rw [List.drop_eq_getElem_cons (by omega), List.getElem?_eq_getElem (by omega), List.drop_eq_nil_of_le (by omega)]
    rfl
  conv => lhs; rw [hlast]
  rw [szs_app, szs_cons]
  rfl
attribute [local irreducible] wdL anI famD mkD G GC GQ GA GAop Calls IntKind.wrap Int.decLt Int.decLe
theorem eloop_spec (N : T → EP → ES → ES) (t : T) (hq : AllN qE t) (hop : t.op = 10 ∨ t.op = 11 ∨ t.op = 12 ∨ t.op = 13 ∨ t.op = 14) (hts : t.size ≤ 80000) (hN : ∀ k, AllN qE k → k.size < t.size → NCk N k ∧ NG N k)
    (xb mb : Nat) (u pv mv : Value) (p : EP) (mine : List ByteArray) (s : ES) (μ : Mem) (hk : KR μ t.kids u) (hp : PV μ p pv) (hmv : SsV μ mv mine) (hB : PB p t.size) (hlm : p.loops.length + mine.length + p.mine.length ≤ p.labels.length) (hS : SB s t.size) (hm : MaxQ μ) :
    CEs 36 [.pointer (some ⟨xb, 0, none⟩), .agg (encT t u).toArray, pv, mv] xb mb s (loopE N t p mine s) μ := by
  intro w fs hμ hR hO
  have hcnt := ids_count hO.diff
  have hp0 := hp
  obtain ⟨r, lb, lo, mi, rfl, hpr, hplb, hplo, hpmi⟩ := hp
  have o1 := hpr.one
  have o2 := hplb.one
  have o3 := hplo.one
  have o4 := hpmi.one
  have ou := hk.one
  have hmv0 := hmv
  obtain ⟨Am, cm, rfl, -, -⟩ := hmv0
  have hrl := hB.regs
  have hll := hB.labels
  have hsz := size_szs t
  have hlen := len_szs t.kids
  have hle : ∀ {k l}, k ∈ l → T.size k ≤ szs l := fun {k l} hk => T.sum_mem (List.mem_map.2 ⟨k, hk, rfl⟩)
  have hPB : ∀ n, n < t.size → PB { p with loops := p.loops ++ mine } n := fun n hn => ⟨hB.ne, by show p.regs.length + n ≤ 90000; omega, by show p.labels.length + n ≤ 90000; omega, by show (p.loops ++ mine).length + p.mine.length ≤ p.labels.length; rw [List.length_append]; exact hlm⟩
  have hregs : s.regs ≤ 1000000 := by
    unfold SB at hS
    omega
  obtain ⟨A, c, rfl, hcap, hget⟩ := hk.form
  generalize hs' : loopE N t p mine s = s'
  unfold loopE at hs'
  refine call_introM (args := [.pointer (some ⟨xb, 0, none⟩), .agg (encT t (.slice A t.kids.length c)).toArray, .agg (encPl p r lb lo mi).toArray, .slice Am mine.length cm]) Tryz.func36 rfl Tryz.ntmps36 (by simp) hμ hO ?_
  by_cases h13 : t.op = 13
  · rw [if_pos h13] at hs'
    have h2 := hq.here.1.two (by simp [h13])
    obtain ⟨rr, hrr⟩ := kids2 h2
    have hz := hsz
    rw [hrr, szs_cons, szs_cons] at hz
    obtain ⟨ad, x0, rfl, hm0, hox0, hk0⟩ := hget 0 _ (kidE_get (by omega))
    obtain ⟨ad', x1, e, hm1, hox1, hk1⟩ := hget 1 _ (kidE_get (by omega))
    cases e
    obtain ⟨hn0, hg0⟩ := hN _ (hq.kid (kidE_mem (t := t) (i := 0) (by omega))) (by omega)
    obtain ⟨hn1, hg1⟩ := hN _ (hq.kid (kidE_mem (t := t) (i := 1) (by omega))) (by omega)
    have hsb := SB.gr (s' := N (kidE t 0) p s) (n := (kidE t 0).size) (m := (kidE t 1).size) (hS.mono (by omega)) (hg0 p s)
    repeat' (first | refine KK ?_ | refine NB fun b => ?_ | ((refine KB ?_ ?_ <;> intro hp)) | refine KG ?_ | fail)
    all_goals try (exfalso; first | omega | contradiction)
    refine gc_draw 7 _ (by kernel_rfl) rfl (List.Sublist.cons_cons _ (List.Sublist.cons_cons _ (List.nil_sublist _))) ?_
    all_goals refine DD 0 ?_
    all_goals (first | refine D1 1 ?_ | (refine DV (k := 1) (b := by first | exact U1 0 | exact U4 hm0) (c := ?_)) | refine DD 1 ?_ | fail)
    all_goals (first | refine D1 2 ?_ | (refine DV (k := 2) (b := by first | exact U1 0 | exact U4 hm0) (c := ?_)) | (refine D3 2 (DW (b := by first | exact U1 0 | exact U4 hm0) (c := ?_))) | refine DD 2 ?_ | fail)
    all_goals (first | refine D1 3 ?_ | (refine DV (k := 3) (b := by first | exact U1 0 | exact U4 hm0) (c := ?_)) | refine DD 3 ?_ | fail)
    all_goals (first | refine D1 4 ?_ | (refine DV (k := 4) (b := by first | exact U1 0 | exact U4 hm0) (c := ?_)) | (refine D3 4 (DW (b := by first | exact U1 0 | exact U4 hm0) (c := ?_))) | refine DD 4 ?_ | fail)
    all_goals (first | refine D1 5 ?_ | (refine DV (k := 5) (b := by first | exact U1 0 | exact U4 hm0) (c := ?_)) | (refine D3 5 (DW (b := by first | exact U1 0 | exact U4 hm0) (c := ?_))) | refine DD 5 ?_ | fail)
    all_goals (first | (refine D3 6 ?_; refine D5 ?_; refine CF 18 ?_; (with_reducible apply g_ce 2); exact rfl; exact rfl; exact rfl; ((with_reducible apply e_call3); kernel_rfl; exact rfl; exact rfl; exact rfl); exact rfl; (exact hR); (exact hn0 xb mb _ _ p s _ hk0 hp0 (hB.mono (by omega)) (hS.mono (by omega)) hm); (intro v1 μ1 i1 hle1 hR); (dsimp only [List.cons_append, List.nil_append]); (have hm0 := hm0.mono hle1); (have hm1 := hm1.mono hle1); (have hk0 := hk0.mono hle1); (have hk1 := hk1.mono hle1); (have hp0 := hp0.mono hle1); (have hmv := hmv.mono hle1); (have hm := hm.mono hle1); refine D9 ?_))
    all_goals refine D8 ?_
    all_goals repeat' (first | refine KK ?_ | refine NB fun b => ?_ | ((refine KB ?_ ?_ <;> intro hp)) | refine KG ?_ | fail)
    refine gc_draw 8 _ (by kernel_rfl) rfl (List.Sublist.cons_cons _ (List.Sublist.cons_cons _ (List.nil_sublist _))) ?_
    all_goals refine DD 0 ?_
    all_goals (first | refine D1 1 ?_ | (refine DV (k := 1) (b := by first | exact U1 1 | exact U4 hm1) (c := ?_)) | refine DD 1 ?_ | fail)
    all_goals (first | refine D1 2 ?_ | (refine DV (k := 2) (b := by first | exact U1 1 | exact U4 hm1) (c := ?_)) | (refine D3 2 (DW (b := by first | exact U1 1 | exact U4 hm1) (c := ?_))) | refine DD 2 ?_ | fail)
    all_goals (first | refine D1 3 ?_ | (refine DV (k := 3) (b := by first | exact U1 1 | exact U4 hm1) (c := ?_)) | refine DD 3 ?_ | fail)
    all_goals (first | refine D1 4 ?_ | (refine DV (k := 4) (b := by first | exact U1 1 | exact U4 hm1) (c := ?_)) | (refine D3 4 (DW (b := by first | exact U1 1 | exact U4 hm1) (c := ?_))) | refine DD 4 ?_ | fail)
    all_goals (first | refine D1 5 ?_ | (refine DV (k := 5) (b := by first | exact U1 1 | exact U4 hm1) (c := ?_)) | (refine D3 5 (DW (b := by first | exact U1 1 | exact U4 hm1) (c := ?_))) | refine DD 5 ?_ | fail)
    all_goals refine DD 6 ?_
    all_goals (first | (refine D3 7 ?_; refine D5 ?_; refine CF 72 ?_; (with_reducible apply g_ce 2); exact rfl; exact rfl; exact rfl; ((with_reducible apply e_call4); kernel_rfl; exact rfl; exact rfl; exact rfl; exact rfl); exact rfl; (exact hR); (exact eround_spec N (kidE t 1) hn1 _ _ _ p mine _ _ xb mb hk1 hp0 hmv (hPB _ (by omega)) hsb hm); (intro v1 μ1 i1 hle1 hR); (dsimp only [List.cons_append, List.nil_append]); (have hm0 := hm0.mono hle1); (have hm1 := hm1.mono hle1); (have hk0 := hk0.mono hle1); (have hk1 := hk1.mono hle1); (have hp0 := hp0.mono hle1); (have hmv := hmv.mono hle1); (have hm := hm.mono hle1); refine D9 ?_))
    all_goals refine D8 ?_
    all_goals repeat' (first | refine KK ?_ | refine NB fun b => ?_ | ((refine KB ?_ ?_ <;> intro hp)) | refine KG ?_ | fail)
    all_goals exact ret_ce 2 i1 (by first | exact .inr rfl | exact .inl rfl) hcnt rfl rfl hs' hR
  rw [if_neg h13] at hs'
  by_cases h14 : t.op = 14
  · rw [if_pos h14] at hs'
    have h2 := hq.here.1.two (by simp [h14])
    obtain ⟨rr, hrr⟩ := kids2 h2
    have hz := hsz
    rw [hrr, szs_cons, szs_cons] at hz
    obtain ⟨ad, x0, rfl, hm0, hox0, hk0⟩ := hget 0 _ (kidE_get (by omega))
    obtain ⟨ad', x1, e, hm1, hox1, hk1⟩ := hget 1 _ (kidE_get (by omega))
    cases e
    obtain ⟨hn0, hg0⟩ := hN _ (hq.kid (kidE_mem (t := t) (i := 0) (by omega))) (by omega)
    obtain ⟨hn1, hg1⟩ := hN _ (hq.kid (kidE_mem (t := t) (i := 1) (by omega))) (by omega)
    have hsb := SB.gr (s' := roundE N (kidE t 0) p mine s) (n := (kidE t 0).size) (m := (kidE t 1).size) (hS.mono (by omega)) (gr_alone (kidE t 0) (fun p s => hg0 p s) _ s)
    repeat' (first | refine KK ?_ | refine NB fun b => ?_ | ((refine KB ?_ ?_ <;> intro hp)) | refine KG ?_ | fail)
    all_goals try (exfalso; first | omega | contradiction)
    refine gc_draw 8 _ (by kernel_rfl) rfl (List.Sublist.cons_cons _ (List.Sublist.cons_cons _ (List.nil_sublist _))) ?_
    all_goals refine DD 0 ?_
    all_goals (first | refine D1 1 ?_ | (refine DV (k := 1) (b := by first | exact U1 0 | exact U4 hm0) (c := ?_)) | refine DD 1 ?_ | fail)
    all_goals (first | refine D1 2 ?_ | (refine DV (k := 2) (b := by first | exact U1 0 | exact U4 hm0) (c := ?_)) | (refine D3 2 (DW (b := by first | exact U1 0 | exact U4 hm0) (c := ?_))) | refine DD 2 ?_ | fail)
    all_goals (first | refine D1 3 ?_ | (refine DV (k := 3) (b := by first | exact U1 0 | exact U4 hm0) (c := ?_)) | refine DD 3 ?_ | fail)
    all_goals (first | refine D1 4 ?_ | (refine DV (k := 4) (b := by first | exact U1 0 | exact U4 hm0) (c := ?_)) | (refine D3 4 (DW (b := by first | exact U1 0 | exact U4 hm0) (c := ?_))) | refine DD 4 ?_ | fail)
    all_goals (first | refine D1 5 ?_ | (refine DV (k := 5) (b := by first | exact U1 0 | exact U4 hm0) (c := ?_)) | (refine D3 5 (DW (b := by first | exact U1 0 | exact U4 hm0) (c := ?_))) | refine DD 5 ?_ | fail)
    all_goals refine DD 6 ?_
    all_goals (first | (refine D3 7 ?_; refine D5 ?_; refine CF 72 ?_; (with_reducible apply g_ce 2); exact rfl; exact rfl; exact rfl; ((with_reducible apply e_call4); kernel_rfl; exact rfl; exact rfl; exact rfl; exact rfl); exact rfl; (exact hR); (exact eround_spec N (kidE t 0) hn0 _ _ _ p mine _ _ xb mb hk0 hp0 hmv (hPB _ (by omega)) (hS.mono (by omega)) hm); (intro v1 μ1 i1 hle1 hR); (dsimp only [List.cons_append, List.nil_append]); (have hm0 := hm0.mono hle1); (have hm1 := hm1.mono hle1); (have hk0 := hk0.mono hle1); (have hk1 := hk1.mono hle1); (have hp0 := hp0.mono hle1); (have hmv := hmv.mono hle1); (have hm := hm.mono hle1); refine D9 ?_))
    all_goals refine D8 ?_
    all_goals repeat' (first | refine KK ?_ | refine NB fun b => ?_ | ((refine KB ?_ ?_ <;> intro hp)) | refine KG ?_ | fail)
    refine gc_draw 7 _ (by kernel_rfl) rfl (List.Sublist.cons_cons _ (List.Sublist.cons_cons _ (List.nil_sublist _))) ?_
    all_goals refine DD 0 ?_
    all_goals (first | refine D1 1 ?_ | (refine DV (k := 1) (b := by first | exact U1 1 | exact U4 hm1) (c := ?_)) | refine DD 1 ?_ | fail)
    all_goals (first | refine D1 2 ?_ | (refine DV (k := 2) (b := by first | exact U1 1 | exact U4 hm1) (c := ?_)) | (refine D3 2 (DW (b := by first | exact U1 1 | exact U4 hm1) (c := ?_))) | refine DD 2 ?_ | fail)
    all_goals (first | refine D1 3 ?_ | (refine DV (k := 3) (b := by first | exact U1 1 | exact U4 hm1) (c := ?_)) | refine DD 3 ?_ | fail)
    all_goals (first | refine D1 4 ?_ | (refine DV (k := 4) (b := by first | exact U1 1 | exact U4 hm1) (c := ?_)) | (refine D3 4 (DW (b := by first | exact U1 1 | exact U4 hm1) (c := ?_))) | refine DD 4 ?_ | fail)
    all_goals (first | refine D1 5 ?_ | (refine DV (k := 5) (b := by first | exact U1 1 | exact U4 hm1) (c := ?_)) | (refine D3 5 (DW (b := by first | exact U1 1 | exact U4 hm1) (c := ?_))) | refine DD 5 ?_ | fail)
    all_goals (first | (refine D3 6 ?_; refine D5 ?_; refine CF 18 ?_; (with_reducible apply g_ce 2); exact rfl; exact rfl; exact rfl; ((with_reducible apply e_call3); kernel_rfl; exact rfl; exact rfl; exact rfl); exact rfl; (exact hR); (exact hn1 xb mb _ _ p _ _ hk1 hp0 (hB.mono (by omega)) hsb hm); (intro v1 μ1 i1 hle1 hR); (dsimp only [List.cons_append, List.nil_append]); (have hm0 := hm0.mono hle1); (have hm1 := hm1.mono hle1); (have hk0 := hk0.mono hle1); (have hk1 := hk1.mono hle1); (have hp0 := hp0.mono hle1); (have hmv := hmv.mono hle1); (have hm := hm.mono hle1); refine D9 ?_))
    all_goals refine D8 ?_
    all_goals repeat' (first | refine KK ?_ | refine NB fun b => ?_ | ((refine KB ?_ ?_ <;> intro hp)) | refine KG ?_ | fail)
    all_goals exact ret_ce 2 i1 (by first | exact .inr rfl | exact .inl rfl) hcnt rfl rfl hs' hR
  rw [if_neg h14] at hs'
  dsimp only at hs'
  have h1 := hq.here.1.one (by omega)
  have hkl := kids_last h1
  have hsbw : SB (withS s) (szs t.kids) := by
    have := (gr_with (F := FF) s).wt
    unfold SB at hS ⊢
    omega
  repeat' (first | ((with_reducible show GC _ _ (Code.seq (Code.region 9 _ _) _) _ _ _ _); (apply gc_stop)) | refine KK ?_ | refine NB fun b => ?_ | ((refine KB ?_ ?_ <;> intro hp)) | refine KG ?_ | fail)
  all_goals try (exfalso; first | omega | contradiction)
  rename_i bn
  obtain ⟨bp, hbp⟩ : ∃ y, y = b := ⟨_, rfl⟩
  rw [← hbp]
  clear hbp
  refine gcs ?_
  have hPBq : ∀ n, n < t.size → PB (withP p s) n := fun n hn => ⟨by show 0 < (p.regs ++ _).length; simp, by show (p.regs ++ _).length + n ≤ 90000; rw [List.length_append, List.length_singleton]; omega, by show p.labels.length + n ≤ 90000; omega, hB.loops⟩
  have hPBr : ∀ n, n < t.size → PB { withP p s with loops := (withP p s).loops ++ mine } n := fun n hn => ⟨(hPBq n hn).ne, (hPBq n hn).regs, (hPBq n hn).labels, by show (p.loops ++ mine).length + p.mine.length ≤ p.labels.length; rw [List.length_append]; exact hlm⟩
  repeat' (first | ((with_reducible show GC _ _ (Code.seq (Code.seq (Code.region 10 _ _) _) _) _ _ _ _); (apply gc_stop)) | refine KO ?_ | (refine CF 33 ?_; (with_reducible apply g_cer 2); exact rfl; exact rfl; exact rfl; ((with_reducible apply e_call2); kernel_rfl; exact rfl; exact rfl); exact rfl; (exact hR); (exact with_spec xb mb p _ s _ hp0 (by omega) hregs); (intro v1 μ1 i1 hle1 hR hP1); (dsimp only [List.cons_append, List.nil_append]); (obtain ⟨r2, lb2, lo2, mi2, rfl, hr2, hlb2, hlo2, hmi2⟩ := hP1); (have q1 := hr2.one); (have q2 := hlb2.one); (have q3 := hlo2.one); (have q4 := hmi2.one)) | refine KI ?_ | refine NB fun b => ?_ | ((refine KB ?_ ?_ <;> intro hp)) | refine KG ?_ | fail)
  generalize withP p s = q at hs' hr2 hlb2 hlo2 hmi2 hPBq hPBr ⊢
  refine gcs ?_
  have hlast : ((t.kids.length : Int) - 1) = ((t.kids.length - 1 : Nat) : Int) := by omega
  have hmv1 := hmv.mono hle1
  have hm1 := hm.mono hle1
  have htl : (t.kids.take (t.kids.length - 1)).length = t.kids.length - 1 := by rw [List.length_take]; omega
  repeat' (first | refine KO ?_ | (refine KV (b := by first | ((with_reducible apply v_slice_hi (t.kids.length - 1)); exact rfl; exact rfl; exact rfl; exact rfl; (first | exact rfl | exact hlast | omega); omega)) (c := ?_)) | refine KI ?_ | refine NB fun b => ?_ | ((refine KB ?_ ?_ <;> intro hp)) | refine KG ?_ | fail)
  refine gc_loop (ι := Nat × Mem × List FR) (fun y => y.1 ≤ t.kids.length - 1 ∧ MLe μ1 y.2.1 ∧ ER y.2.1 y.2.2 (((t.kids.take (t.kids.length - 1)).take y.1).foldl (fun s k => N k { q with each := decide (t.op ≠ 10) } s) (withS s))) (fun y => t.kids.length - 1 - y.1) (fun y => y.2.1) (fun y => [(60, .int .i64 (y.1 : Int)), (59, .int .i64 ((t.kids.length - 1 : Nat) : Int)), (58, .slice A (t.kids.length - 1) c), (8, .int .i64 ((t.kids.length : Int) - 1)), (6, .pointer (some ⟨bp, 0, none⟩)), (5, .pointer (some ⟨bn, 0, none⟩)), (3, .slice Am mine.length cm), (0, .pointer (some ⟨xb, 0, none⟩))]) (fun y => .inl ⟨bp, 47, 12, idx 0 (encPl q r2 lb2 lo2 mi2)⟩ :: .inl ⟨bn, 27, 6, idx 0 (encT t (.slice A t.kids.length c))⟩ :: EB xb mb (((t.kids.take (t.kids.length - 1)).take y.1).foldl (fun s k => N k { q with each := decide (t.op ≠ 10) } s) (withS s)) y.2.2) (0, μ1, i1) ⟨Nat.zero_le _, MLe.refl _, hR⟩ (fun a w hs => hs.sel (by first | (repeat first | exact subS_nil | refine subS_cons rfl ?_); done | fail) (sel_0 (.cells PU) (sel_all _))) ?_
  clear hR
  rintro ⟨i, μ0, fs0⟩ ⟨hi, hle0, hR⟩
  dsimp only at hi hle0 hR ⊢
  have hmemT : ∀ k ∈ t.kids.take (t.kids.length - 1), AllN qE k ∧ k.size < t.size := fun k hk => ⟨hq.kid (List.mem_of_mem_take hk), by have := hle (List.mem_of_mem_take hk); omega⟩
  have hgrT : ∀ n, Gr FF (2 * szs ((t.kids.take (t.kids.length - 1)).take n)) (withS s) (((t.kids.take (t.kids.length - 1)).take n).foldl (fun s k => N k { q with each := decide (t.op ≠ 10) } s) (withS s)) := fun n => by
    have h9 := gr_fold (F := FF) (g := (fun s k => N k { q with each := decide (t.op ≠ 10) } s)) (c := fun k => 2 * T.size k) ((t.kids.take (t.kids.length - 1)).take n) (withS s) (fun k hk s => (hN k (hmemT k (List.mem_of_mem_take hk)).1 (hmemT k (List.mem_of_mem_take hk)).2).2 _ _)
    rwa [sum_two] at h9
  have hlec := hle1.trans hle0
  by_cases hlt : i < t.kids.length - 1
  · obtain ⟨k, hkk⟩ : ∃ k, t.kids[i]? = some k := ⟨_, List.getElem?_eq_getElem (by omega)⟩
    have hkt : (t.kids.take (t.kids.length - 1))[i]? = some k := by rw [List.getElem?_take_of_lt hlt]; exact hkk
    obtain ⟨ad, x, rfl, hm0, hox, hkx⟩ := hget i k hkk
    have hmm := hm0.mono hlec
    obtain ⟨ha, hk2⟩ := hmemT k (List.mem_of_getElem? hkt)
    obtain ⟨hn1, -⟩ := hN k ha hk2
    have hz := szs_take hkt
    have hsb := SB.gr (n := szs ((t.kids.take (t.kids.length - 1)).take i)) (m := k.size) (hsbw.mono (by omega)) (hgrT i)
    have hnext : (fun s k => N k { q with each := decide (t.op ≠ 10) } s) (((t.kids.take (t.kids.length - 1)).take i).foldl (fun s k => N k { q with each := decide (t.op ≠ 10) } s) (withS s)) k = (((t.kids.take (t.kids.length - 1)).take (i + 1)).foldl (fun s k => N k { q with each := decide (t.op ≠ 10) } s) (withS s)) := (fold_take (fun s k => N k { q with each := decide (t.op ≠ 10) } s) (t.kids.take (t.kids.length - 1)) (withS s) hkt).symm
    dsimp only at hnext
    repeat' (first | refine KO ?_ | (refine CF 18 ?_; (with_reducible apply g_ce 4); exact rfl; exact rfl; exact rfl; ((with_reducible apply e_call3); kernel_rfl; exact rfl; exact rfl; exact rfl); exact rfl; (exact hR); (exact hn1 xb mb _ _ { q with each := decide (t.op ≠ 10) } _ _ (hkx.mono hlec) ⟨_, _, _, _, rfl, hr2.mono hle0, hlb2.mono hle0, hlo2.mono hle0, hmi2.mono hle0⟩ ⟨(hPBq _ hk2).ne, (hPBq _ hk2).regs, (hPBq _ hk2).labels, (hPBq _ hk2).loops⟩ hsb (hm.mono hlec)); (intro v1 μ1 i1 hle1 hR); (dsimp only [List.cons_append, List.nil_append])) | (refine KV (b := by first | exact U1 i | exact U4 hmm) (c := ?_)) | refine KI ?_ | refine NB fun b => ?_ | ((refine KB ?_ ?_ <;> intro hp)) | refine KG ?_ | fail)
    all_goals try (exfalso; first | omega | contradiction)
    rw [hnext] at hR ⊢
    exact gq_backS (i + 1, μ1, i1) ⟨by dsimp only; omega, hle0.trans hle1, hR⟩ (by dsimp only; omega) rfl PU (sel_2 (.refl _) (sel_2 (.refl _) (sel_drop _ (sel_drop _ (sel_all _)))))
  · have hil : i = t.kids.length - 1 := by omega
    have hgrA := hgrT i
    have htk : (t.kids.take (t.kids.length - 1)).take i = t.kids.take (t.kids.length - 1) := List.take_of_length_le (by omega)
    rw [htk] at hR hgrA ⊢
    generalize (t.kids.take (t.kids.length - 1)).foldl (fun s k => N k { q with each := decide (t.op ≠ 10) } s) (withS s) = S5 at hR hs' hgrA ⊢
    have hsb5 := SB.gr (n := szs (t.kids.take (t.kids.length - 1))) (m := (kidE t (t.kids.length - 1)).size) (hsbw.mono (by omega)) hgrA
    obtain ⟨ad, x, rfl, hml, hox, hkl2⟩ := hget (t.kids.length - 1) _ (kidE_get (by omega))
    have hmm := hml.mono hlec
    have hkk := hkl2.mono hlec
    have hmvv := hmv.mono hlec
    have hmq := hm.mono hlec
    obtain ⟨hn1, -⟩ := hN _ (hq.kid (kidE_mem (t := t) (i := t.kids.length - 1) (by omega))) (by omega)
    repeat' (first | refine KK ?_ | refine NB fun b => ?_ | ((refine KB ?_ ?_ <;> intro hp)) | refine KG ?_ | fail)
    all_goals try (exfalso; first | omega | contradiction)
    refine gc_draw 9 _ (by kernel_rfl) rfl (List.Sublist.cons_cons _ (List.Sublist.cons_cons _ (List.nil_sublist _))) ?_
    all_goals refine DD 0 ?_
    all_goals (first | refine D1 1 ?_ | (refine DV (k := 1) (b := by first | exact U1 (t.kids.length - 1) | exact U4 hmm) (c := ?_)) | refine DD 1 ?_ | fail)
    all_goals (first | refine D1 2 ?_ | (refine DV (k := 2) (b := by first | exact U1 (t.kids.length - 1) | exact U4 hmm) (c := ?_)) | (refine D3 2 (DW (b := by first | exact U1 (t.kids.length - 1) | exact U4 hmm) (c := ?_))) | refine DD 2 ?_ | fail)
    all_goals refine DD 3 ?_
    all_goals (first | refine D1 4 ?_ | (refine DV (k := 4) (b := by first | exact U1 (t.kids.length - 1) | exact U4 hmm) (c := ?_)) | refine DD 4 ?_ | fail)
    all_goals (first | refine D1 5 ?_ | (refine DV (k := 5) (b := by first | exact U1 (t.kids.length - 1) | exact U4 hmm) (c := ?_)) | (refine D3 5 (DW (b := by first | exact U1 (t.kids.length - 1) | exact U4 hmm) (c := ?_))) | refine DD 5 ?_ | fail)
    all_goals (first | refine D1 6 ?_ | (refine DV (k := 6) (b := by first | exact U1 (t.kids.length - 1) | exact U4 hmm) (c := ?_)) | (refine D3 6 (DW (b := by first | exact U1 (t.kids.length - 1) | exact U4 hmm) (c := ?_))) | refine DD 6 ?_ | fail)
    all_goals refine DD 7 ?_
    all_goals (first | (refine D3 8 ?_; refine D5 ?_; refine CF 72 ?_; (with_reducible apply g_ce 2); exact rfl; exact rfl; exact rfl; ((with_reducible apply e_call4); kernel_rfl; exact rfl; exact rfl; exact rfl; exact rfl); exact rfl; (exact hR); (exact eround_spec N (kidE t (t.kids.length - 1)) hn1 _ _ _ q mine _ _ xb mb hkk ⟨_, _, _, _, rfl, hr2.mono hle0, hlb2.mono hle0, hlo2.mono hle0, hmi2.mono hle0⟩ hmvv (hPBr _ (by omega)) hsb5 hmq); (intro v1 μ1 i1 hle1 hR); (dsimp only [List.cons_append, List.nil_append]); refine D9 ?_))
    all_goals refine D8 ?_
    all_goals repeat' (first | refine KK ?_ | refine NB fun b => ?_ | ((refine KB ?_ ?_ <;> intro hp)) | refine KG ?_ | fail)
    all_goals exact ret_ce 2 i1 (by first | exact .inr rfl | exact .inl rfl) hcnt rfl rfl hs' hR
end Go.Proofs.YtfabmichdhbiaaaGreatDoor
namespace Go.Proofs.YtfabmichdhbiaaaGreatDoor
open Go.RowKit Go.Vcg Ou
def cRet (p : EP) : Bool := !p.fn || p.head
def cYld (p : EP) : Bool := !p.gen || p.head
def cDel (t : T) (p : EP) : Bool := p.strict && decide (t.s = "delete".toUTF8) && decide ((kidE t 0).op = 34)
theorem str_delete : ("delete".toUTF8 : ByteArray) = ⟨#[100, 101, 108, 101, 116, 101]⟩ := by decide +kernel
attribute [local irreducible] wdL anI famD mkD G GC GQ GA GAop Calls IntKind.wrap Int.decLt Int.decLe
theorem epart_spec (N : T → EP → ES → ES) (t : T) (hq : AllN qE t) (hts : t.size ≤ 80000) (hNN : ∀ k, AllN qE k → k.size < t.size → NCk N k ∧ NG N k)
    (xb mb : Nat) (u pv : Value) (p : EP) (s : ES) (μ : Mem) (hk : KR μ t.kids u) (hp : PV μ p pv) (hB : PB p t.size) (hS : SB s t.size) (hm : MaxQ μ) :
    CEs 42 [.pointer (some ⟨xb, 0, none⟩), .agg (encT t u).toArray, pv] xb mb s (partE wdF N t p s) μ := by
  intro w fs hμ hR hO
  have hcnt := ids_count hO.diff
  have hp0 := hp
  obtain ⟨r, lb, lo, mi, rfl, hpr, hplb, hplo, hpmi⟩ := hp
  have o1 := hpr.one
  have o2 := hplb.one
  have o3 := hplo.one
  have o4 := hpmi.one
  have ou := hk.one
  have hrl := hB.labels
  have hll := hB.loops
  have hts9 := hq.here.2
  have hsz := size_szs t
  have hlen0 := len_szs t.kids
  have hlen : t.kids.length ≤ 100000 := by omega
  have hN : ∀ k ∈ t.kids, NCk N k ∧ NG N k := fun k hk => hNN k (hq.kid hk) (by
    have : k.size ≤ szs t.kids := T.sum_mem (List.mem_map.2 ⟨k, hk, rfl⟩)
    omega)
  have hBk : ∀ k ∈ t.kids, PB p k.size := fun k hk => hB.mono (by
    have : k.size ≤ szs t.kids := T.sum_mem (List.mem_map.2 ⟨k, hk, rfl⟩)
    omega)
  have hsbA : ∀ s1, Gr FF 0 s s1 → SB s1 (szs t.kids) := fun s1 hg => SB.gr (n := 0) (m := szs t.kids) (hS.mono (by omega)) hg
  generalize hs' : partE wdF N t p s = s'
  unfold partE at hs'
  by_cases h15 : t.op = 15 ∨ t.op = 16
  · rw [if_pos h15] at hs'
    have hsb := hsbA _ (gr_jump (wd := wdF) t p s)
    refine call_introM (args := [.pointer (some ⟨xb, 0, none⟩), .agg (encT t u).toArray, .agg (encPl p r lb lo mi).toArray]) Tryz.func42 rfl Tryz.ntmps42 (by simp) hμ hO ?_
    rcases h15 with h15 | h15
    all_goals repeat' (first | refine KO ?_ | (refine CF 75 ?_; (with_reducible apply g_ce 2); exact rfl; exact rfl; exact rfl; ((with_reducible apply e_call3); kernel_rfl; exact rfl; exact rfl; exact rfl); exact rfl; (exact hR); (exact ejump_spec t hts9 _ _ p s _ xb mb ou hp0 (by omega) (by omega) hm); (intro v1 μ1 i1 hle1 hR); (dsimp only [List.cons_append, List.nil_append]); (have hk := hk.mono hle1); (have hp0 := hp0.mono hle1); (have hm := hm.mono hle1)) | (refine CF 13 ?_; (with_reducible apply g_ce 2); exact rfl; exact rfl; exact rfl; ((with_reducible apply e_call3); kernel_rfl; exact rfl; exact rfl; exact rfl); exact rfl; (exact hR); (exact eall_spec N t.kids _ _ p _ _ xb mb hN hk hp0 hBk hsb hlen hm); (intro v1 μ1 i1 hle1 hR); (dsimp only [List.cons_append, List.nil_append])) | refine KI ?_ | refine NB fun b => ?_ | ((refine KB ?_ ?_ <;> intro hp)) | refine KG ?_ | fail)
    all_goals try (exfalso; first | omega | contradiction)
    all_goals exact ret_ce 2 i1 (by first | exact .inr rfl | exact .inl rfl) hcnt rfl rfl hs' hR
  rw [if_neg h15] at hs'
  by_cases h17 : t.op = 17
  · rw [if_pos h17] at hs'
    have hsb := hsbA _ (gr_bad (cRet p) t.at' 33 s)
    refine call_introM (args := [.pointer (some ⟨xb, 0, none⟩), .agg (encT t u).toArray, .agg (encPl p r lb lo mi).toArray]) Tryz.func42 rfl Tryz.ntmps42 (by simp) hμ hO ?_
    repeat' (first | refine KO ?_ | (refine CF 39 ?_; (with_reducible apply g_ce 2); exact rfl; exact rfl; exact rfl; ((with_reducible apply e_call4); kernel_rfl; exact rfl; exact rfl; exact rfl; exact rfl); exact rfl; (exact hR); (exact bad_is xb mb t _ ou _ (cRet p) (by unfold cRet; simp_all) _ _ _); (intro v1 μ1 i1 hle1 hR); (dsimp only [List.cons_append, List.nil_append]); (have hk := hk.mono hle1); (have hp0 := hp0.mono hle1); (have hm := hm.mono hle1)) | (refine CF 13 ?_; (with_reducible apply g_ce 2); exact rfl; exact rfl; exact rfl; ((with_reducible apply e_call3); kernel_rfl; exact rfl; exact rfl; exact rfl); exact rfl; (exact hR); (exact eall_spec N t.kids _ _ p _ _ xb mb hN hk hp0 hBk hsb hlen hm); (intro v1 μ1 i1 hle1 hR); (dsimp only [List.cons_append, List.nil_append])) | refine KI ?_ | refine NB fun b => ?_ | ((refine KB ?_ ?_ <;> intro hp)) | refine KG ?_ | fail)
    all_goals try (exfalso; first | omega | contradiction)
    all_goals exact ret_ce 2 i1 (by first | exact .inr rfl | exact .inl rfl) hcnt rfl rfl hs' hR
  rw [if_neg h17] at hs'
  by_cases h34 : t.op = 34
  · rw [if_pos h34] at hs'
    have hsb := hsbA _ (gr_name wdF t t.s p s)
    refine call_introM (args := [.pointer (some ⟨xb, 0, none⟩), .agg (encT t u).toArray, .agg (encPl p r lb lo mi).toArray]) Tryz.func42 rfl Tryz.ntmps42 (by simp) hμ hO ?_
    repeat' (first | refine KO ?_ | (refine CF 38 ?_; (with_reducible apply g_ce 2); exact rfl; exact rfl; exact rfl; ((with_reducible apply e_call4); kernel_rfl; exact rfl; exact rfl; exact rfl; exact rfl); exact rfl; (exact hR); (exact ename_spec xb mb t _ ou _ (by omega) p _ _ _ hp0 hm); (intro v1 μ1 i1 hle1 hR); (dsimp only [List.cons_append, List.nil_append]); (have hk := hk.mono hle1); (have hp0 := hp0.mono hle1); (have hm := hm.mono hle1)) | (refine CF 13 ?_; (with_reducible apply g_ce 2); exact rfl; exact rfl; exact rfl; ((with_reducible apply e_call3); kernel_rfl; exact rfl; exact rfl; exact rfl); exact rfl; (exact hR); (exact eall_spec N t.kids _ _ p _ _ xb mb hN hk hp0 hBk hsb hlen hm); (intro v1 μ1 i1 hle1 hR); (dsimp only [List.cons_append, List.nil_append])) | refine KI ?_ | refine NB fun b => ?_ | ((refine KB ?_ ?_ <;> intro hp)) | refine KG ?_ | fail)
    all_goals try (exfalso; first | omega | contradiction)
    all_goals exact ret_ce 2 i1 (by first | exact .inr rfl | exact .inl rfl) hcnt rfl rfl hs' hR
  rw [if_neg h34] at hs'
  by_cases h39 : t.op = 39 ∧ t.n = 3
  · rw [if_pos h39] at hs'
    have h1 := hq.here.1.one (by omega)
    obtain ⟨A, c, rfl, hcap, hget⟩ := hk.form
    obtain ⟨ad, x0, rfl, hm0, hox0, hk0⟩ := hget 0 _ (kidE_get (by omega))
    have hs0 := (hq.kid (kidE_mem (t := t) (i := 0) (by omega))).here.2
    obtain ⟨h39, h3⟩ := h39
    refine call_introM (args := [.pointer (some ⟨xb, 0, none⟩), .agg (encT t (.slice (some ad) t.kids.length c)).toArray, .agg (encPl p r lb lo mi).toArray]) Tryz.func42 rfl Tryz.ntmps42 (by simp) hμ hO ?_
    repeat' (first | refine KK ?_ | refine NB fun b => ?_ | ((refine KB ?_ ?_ <;> intro hp)) | refine KG ?_ | fail)
    all_goals try (exfalso; first | omega | contradiction)
    refine gc_draw 12 _ (by kernel_rfl) rfl (List.Sublist.cons_cons _ (List.Sublist.cons_cons _ (List.nil_sublist _))) ?_
    all_goals refine DD 0 ?_
    all_goals (first | refine D1 1 ?_ | (refine DV (k := 1) (b := by first | exact U1 0 | exact U4 hm0) (c := ?_)) | refine DD 1 ?_ | fail)
    all_goals (first | refine D1 2 ?_ | (refine DV (k := 2) (b := by first | exact U1 0 | exact U4 hm0) (c := ?_)) | (refine D3 2 (DW (b := by first | exact U1 0 | exact U4 hm0) (c := ?_))) | refine DD 2 ?_ | fail)
    all_goals (first | refine D1 3 ?_ | (refine DV (k := 3) (b := by first | exact U1 0 | exact U4 hm0) (c := ?_)) | refine DD 3 ?_ | fail)
    all_goals (first | refine D1 4 ?_ | (refine DV (k := 4) (b := by first | exact U1 0 | exact U4 hm0) (c := ?_)) | (refine D3 4 (DW (b := by first | exact U1 0 | exact U4 hm0) (c := ?_))) | refine DD 4 ?_ | fail)
    all_goals (first | refine D1 5 ?_ | (refine DV (k := 5) (b := by first | exact U1 0 | exact U4 hm0) (c := ?_)) | refine DD 5 ?_ | fail)
    all_goals (first | refine D1 6 ?_ | (refine DV (k := 6) (b := by first | exact U1 0 | exact U4 hm0) (c := ?_)) | (refine D3 6 (DW (b := by first | exact U1 0 | exact U4 hm0) (c := ?_))) | refine DD 6 ?_ | fail)
    all_goals (first | refine D1 7 ?_ | (refine DV (k := 7) (b := by first | exact U1 0 | exact U4 hm0) (c := ?_)) | refine DD 7 ?_ | fail)
    all_goals (first | refine D1 8 ?_ | (refine DV (k := 8) (b := by first | exact U1 0 | exact U4 hm0) (c := ?_)) | refine DD 8 ?_ | fail)
    all_goals (first | refine D1 9 ?_ | (refine DV (k := 9) (b := by first | exact U1 0 | exact U4 hm0) (c := ?_)) | (refine D3 9 (DW (b := by first | exact U1 0 | exact U4 hm0) (c := ?_))) | refine DD 9 ?_ | fail)
    all_goals (first | refine D1 10 ?_ | (refine DV (k := 10) (b := by first | exact U1 0 | exact U4 hm0) (c := ?_)) | (refine D3 10 (DW (b := by first | exact U1 0 | exact U4 hm0) (c := ?_))) | refine DD 10 ?_ | fail)
    all_goals (first | (refine D3 11 ?_; refine D5 ?_; refine CF 38 ?_; (with_reducible apply g_ce 2); exact rfl; exact rfl; exact rfl; ((with_reducible apply e_call4); kernel_rfl; exact rfl; exact rfl; exact rfl; exact rfl); exact rfl; (exact hR); (exact ename_spec xb mb (kidE t 0) _ hox0 _ (by omega) p _ _ _ hp0 hm); (intro v1 μ1 i1 hle1 hR); (dsimp only [List.cons_append, List.nil_append]); refine D9 ?_))
    all_goals refine D8 ?_
    all_goals repeat' (first | refine KK ?_ | refine NB fun b => ?_ | ((refine KB ?_ ?_ <;> intro hp)) | refine KG ?_ | fail)
    all_goals exact ret_ce 2 i1 (by first | exact .inr rfl | exact .inl rfl) hcnt rfl rfl hs' hR
  rw [if_neg h39] at hs'
  by_cases h54 : t.op = 54
  · rw [if_pos h54] at hs'
    have hsb := hsbA _ (gr_bad (cYld p) t.at' 34 s)
    refine call_introM (args := [.pointer (some ⟨xb, 0, none⟩), .agg (encT t u).toArray, .agg (encPl p r lb lo mi).toArray]) Tryz.func42 rfl Tryz.ntmps42 (by simp) hμ hO ?_
    repeat' (first | refine KO ?_ | (refine CF 39 ?_; (with_reducible apply g_ce 2); exact rfl; exact rfl; exact rfl; ((with_reducible apply e_call4); kernel_rfl; exact rfl; exact rfl; exact rfl; exact rfl); exact rfl; (exact hR); (exact bad_is xb mb t _ ou _ (cYld p) (by unfold cYld; simp_all) _ _ _); (intro v1 μ1 i1 hle1 hR); (dsimp only [List.cons_append, List.nil_append]); (have hk := hk.mono hle1); (have hp0 := hp0.mono hle1); (have hm := hm.mono hle1)) | (refine CF 13 ?_; (with_reducible apply g_ce 2); exact rfl; exact rfl; exact rfl; ((with_reducible apply e_call3); kernel_rfl; exact rfl; exact rfl; exact rfl); exact rfl; (exact hR); (exact eall_spec N t.kids _ _ p _ _ xb mb hN hk hp0 hBk hsb hlen hm); (intro v1 μ1 i1 hle1 hR); (dsimp only [List.cons_append, List.nil_append])) | refine KI ?_ | refine NB fun b => ?_ | ((refine KB ?_ ?_ <;> intro hp)) | refine KG ?_ | fail)
    all_goals try (exfalso; first | omega | contradiction)
    all_goals exact ret_ce 2 i1 (by first | exact .inr rfl | exact .inl rfl) hcnt rfl rfl hs' hR
  rw [if_neg h54] at hs'
  by_cases h42 : t.op = 42
  · rw [if_pos h42] at hs'
    have h1 := hq.here.1.one (by omega)
    have hk9 := hk
    obtain ⟨A, c, rfl, hcap, hget⟩ := hk9.form
    obtain ⟨ad, x0, rfl, hm0, hox0, hk0⟩ := hget 0 _ (kidE_get (by omega))
    have hsb := hsbA _ (gr_bad (cDel t p) t.at' 35 s)
    refine call_introM (args := [.pointer (some ⟨xb, 0, none⟩), .agg (encT t (.slice (some ad) t.kids.length c)).toArray, .agg (encPl p r lb lo mi).toArray]) Tryz.func42 rfl Tryz.ntmps42 (by simp) hμ hO ?_
    repeat' (first | refine KK ?_ | refine NB fun b => ?_ | ((refine KB ?_ ?_ <;> intro hp)) | refine KG ?_ | fail)
    all_goals try (exfalso; first | omega | contradiction)
    refine gc_draw 19 _ (by kernel_rfl) rfl (List.Sublist.cons_cons _ (List.Sublist.cons_cons _ (List.nil_sublist _))) ?_
    all_goals refine DD 0 ?_
    all_goals (first | refine D1 1 ?_ | (refine DV (k := 1) (b := by first | exact U1 0 | exact U4 hm0) (c := ?_)) | (refine D3 1 (DW (b := by first | exact U1 0 | exact U4 hm0) (c := ?_))) | refine DD 1 ?_ | fail)
    all_goals (first | refine D1 2 ?_ | (refine DV (k := 2) (b := by first | exact U1 0 | exact U4 hm0) (c := ?_)) | refine DD 2 ?_ | fail)
    all_goals (first | refine D1 3 ?_ | (refine DV (k := 3) (b := by first | exact U1 0 | exact U4 hm0) (c := ?_)) | refine DD 3 ?_ | fail)
    all_goals (first | refine D1 4 ?_ | (refine DV (k := 4) (b := by first | exact U1 0 | exact U4 hm0) (c := ?_)) | (refine D3 4 (DW (b := by first | exact U1 0 | exact U4 hm0) (c := ?_))) | refine DD 4 ?_ | fail)
    all_goals refine DD 5 ?_
    all_goals (try (refine D7 6 ?_; (repeat' (first | refine KO ?_ | (refine KB ?_ ?_ <;> intro hp)))))
    all_goals (first | refine D1 6 ?_ | (refine DV (k := 6) (b := by first | exact U1 0 | exact U4 hm0) (c := ?_)) | refine DD 6 ?_ | fail)
    all_goals (first | refine D1 7 ?_ | (refine DV (k := 7) (b := by first | exact U1 0 | exact U4 hm0) (c := ?_)) | (refine D3 7 (DW (b := by first | exact U1 0 | exact U4 hm0) (c := ?_))) | refine DD 7 ?_ | fail)
    all_goals (first | refine D1 8 ?_ | (refine DV (k := 8) (b := by first | exact U1 0 | exact U4 hm0) (c := ?_)) | refine DD 8 ?_ | fail)
    all_goals refine DD 9 ?_
    all_goals refine DD 10 ?_
    all_goals (try (refine D7 11 ?_; (repeat' (first | refine KO ?_ | (refine KB ?_ ?_ <;> intro hp)))))
    all_goals (first | refine D1 11 ?_ | (refine DV (k := 11) (b := by first | exact U1 0 | exact U4 hm0) (c := ?_)) | refine DD 11 ?_ | fail)
    all_goals (first | refine D1 12 ?_ | (refine DV (k := 12) (b := by first | exact U1 0 | exact U4 hm0) (c := ?_)) | (refine D3 12 (DW (b := by first | exact U1 0 | exact U4 hm0) (c := ?_))) | refine DD 12 ?_ | fail)
    all_goals (first | refine D1 13 ?_ | (refine DV (k := 13) (b := by first | exact U1 0 | exact U4 hm0) (c := ?_)) | refine DD 13 ?_ | fail)
    all_goals (first | refine D1 14 ?_ | (refine DV (k := 14) (b := by first | exact U1 0 | exact U4 hm0) (c := ?_)) | refine DD 14 ?_ | fail)
    all_goals (first | refine D1 15 ?_ | (refine DV (k := 15) (b := by first | exact U1 0 | exact U4 hm0) (c := ?_)) | (refine D3 15 (DW (b := by first | exact U1 0 | exact U4 hm0) (c := ?_))) | refine DD 15 ?_ | fail)
    all_goals (first | refine D1 16 ?_ | (refine DV (k := 16) (b := by first | exact U1 0 | exact U4 hm0) (c := ?_)) | refine DD 16 ?_ | fail)
    all_goals refine DD 17 ?_
    all_goals (first | (refine D3 18 ?_; refine D5 ?_; refine CF 39 ?_; (with_reducible apply g_ce 2); exact rfl; exact rfl; exact rfl; ((with_reducible apply e_call4); kernel_rfl; exact rfl; exact rfl; exact rfl; exact rfl); exact rfl; (exact hR); (exact bad_is xb mb t _ ou _ (cDel t p) (by unfold cDel; rw [str_delete]; simp_all) _ _ _); (intro v1 μ1 i1 hle1 hR); (dsimp only [List.cons_append, List.nil_append]); (have hk := hk.mono hle1); (have hp0 := hp0.mono hle1); (have hm := hm.mono hle1); refine D9 ?_))
    all_goals refine D8 ?_
    all_goals repeat' (first | refine KO ?_ | (refine CF 13 ?_; (with_reducible apply g_ce 2); exact rfl; exact rfl; exact rfl; ((with_reducible apply e_call3); kernel_rfl; exact rfl; exact rfl; exact rfl); exact rfl; (exact hR); (exact eall_spec N t.kids _ _ p _ _ xb mb hN hk hp0 hBk hsb hlen hm); (intro v1 μ1 i1 hle1 hR); (dsimp only [List.cons_append, List.nil_append])) | refine KI ?_ | refine NB fun b => ?_ | ((refine KB ?_ ?_ <;> intro hp)) | refine KG ?_ | fail)
    all_goals exact ret_ce 2 i1 (by first | exact .inr rfl | exact .inl rfl) hcnt rfl rfl hs' hR
  rw [if_neg h42] at hs'
  have hsb := hsbA _ (Gr.refl s)
  refine call_introM (args := [.pointer (some ⟨xb, 0, none⟩), .agg (encT t u).toArray, .agg (encPl p r lb lo mi).toArray]) Tryz.func42 rfl Tryz.ntmps42 (by simp) hμ hO ?_
  by_cases h390 : t.op = 39
  · have h3 : ¬t.n = 3 := fun h => h39 ⟨h390, h⟩
    repeat' (first | refine KO ?_ | (refine CF 13 ?_; (with_reducible apply g_ce 2); exact rfl; exact rfl; exact rfl; ((with_reducible apply e_call3); kernel_rfl; exact rfl; exact rfl; exact rfl); exact rfl; (exact hR); (exact eall_spec N t.kids _ _ p _ _ xb mb hN hk hp0 hBk hsb hlen hm); (intro v1 μ1 i1 hle1 hR); (dsimp only [List.cons_append, List.nil_append])) | refine KI ?_ | refine NB fun b => ?_ | ((refine KB ?_ ?_ <;> intro hp)) | refine KG ?_ | fail)
    all_goals try (exfalso; first | omega | contradiction)
    all_goals exact ret_ce 2 i1 (by first | exact .inr rfl | exact .inl rfl) hcnt rfl rfl hs' hR
  · repeat' (first | refine KO ?_ | (refine CF 13 ?_; (with_reducible apply g_ce 2); exact rfl; exact rfl; exact rfl; ((with_reducible apply e_call3); kernel_rfl; exact rfl; exact rfl; exact rfl); exact rfl; (exact hR); (exact eall_spec N t.kids _ _ p _ _ xb mb hN hk hp0 hBk hsb hlen hm); (intro v1 μ1 i1 hle1 hR); (dsimp only [List.cons_append, List.nil_append])) | refine KI ?_ | refine NB fun b => ?_ | ((refine KB ?_ ?_ <;> intro hp)) | refine KG ?_ | fail)
    all_goals try (exfalso; first | omega | contradiction)
    all_goals exact ret_ce 2 i1 (by first | exact .inr rfl | exact .inl rfl) hcnt rfl rfl hs' hR
end Go.Proofs.YtfabmichdhbiaaaGreatDoor
