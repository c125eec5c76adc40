/- Package early: jump, bind and variables, walked. (and what leans on it). No statement of the seat is proved here. -/
import Derived.Test.YtfabmichdhbiaaaGreatDoorQam
import Derived.Test.YtfabmichdhbiaaaGreatDoorQae
set_option maxRecDepth 20000
set_option maxHeartbeats 2000000
namespace Go.Proofs.YtfabmichdhbiaaaGreatDoor
open Go.RowKit Go.Vcg Ou
theorem bad_is (xb mb : Nat) (t : T) (u : Value) (hu : u.oneCell' = true) (c c' : Bool) (h : c = c') (e : Int) (s : ES) (μ : Mem) :
    CEs 39 [.pointer (some ⟨xb, 0, none⟩), .agg (encT t u).toArray, .int .i64 e, .bool c] xb mb s (badE c' t.at' e s) μ := by
  subst h
  exact bad_spec xb mb t u hu c e s μ
theorem kidE_get {t : T} {i : Nat} (h : i < t.kids.length) : t.kids[i]? = some (kidE t i) := by
  unfold kidE
  rw [List.getElem?_eq_getElem h]
  rfl
theorem contains_is (s : ByteArray) (l : List ByteArray) (b : Bool) (hb : l.contains s = b) (v : Value) (w : World) (μ : Mem) (hμ : MOk μ w) (hv : SsV μ v l) (hn : l.length ≤ 100000) :
    Calls Tryz.prog 40 #[v, .string s] w fun e w' => e = .returned (.bool b) ∧ Below w.heap.size w w' := by
  subst hb
  exact econtains_spec s l v w μ hμ hv hn
attribute [local irreducible] wdL anI famD mkD G GC GQ GA GAop Calls IntKind.wrap Int.decLt Int.decLe
theorem ejump_spec (t : T) (hs : t.s.size ≤ 100000) (u pv : Value) (p : EP) (s : ES) (μ : Mem) (xb mb : Nat) (ou : u.oneCell' = true) (hp : PV μ p pv) (hl : p.labels.length ≤ 100000) (hlo : p.loops.length ≤ 100000) (hm : MaxQ μ) :
    CEs 75 [.pointer (some ⟨xb, 0, none⟩), .agg (encT t u).toArray, pv] xb mb s (jumpE wdF t p s) μ := by
  intro w fs hμ hR hO
  have hcnt := ids_count hO.diff
  have hp0 := hp
  obtain ⟨r, lb, lo, mi, rfl, hpr, hplb, hplo, hpmi⟩ := hp
  have o1 := hpr.one
  have o2 := hplb.one
  have o3 := hplo.one
  have o4 := hpmi.one
  generalize hs' : jumpE wdF t p s = s'
  unfold jumpE at hs'
  refine call_introM (args := [.pointer (some ⟨xb, 0, none⟩), .agg (encT t u).toArray, .agg (encPl p r lb lo mi).toArray]) Tryz.func75 rfl Tryz.ntmps75 (by simp) hμ hO ?_
  by_cases h0 : t.s = ⟨#[]⟩
  · rw [if_pos h0] at hs'
    repeat' (first | refine KO ?_ | (refine CF 39 ?_; (with_reducible apply g_ce 2); exact rfl; exact rfl; exact rfl; ((with_reducible apply e_call4); kernel_rfl; exact rfl; exact rfl; exact rfl; exact rfl); exact rfl; (exact hR); (exact bad_spec xb mb t _ ou _ _ _ _); (intro v1 μ1 i1 hle1 hR); (dsimp only [List.cons_append, List.nil_append])) | refine KI ?_ | refine NB fun b => ?_ | ((refine KB ?_ ?_ <;> intro hp)) | refine KG ?_ | fail)
    all_goals try (exfalso; first | omega | contradiction)
    all_goals exact ret_ce 2 i1 (by first | exact .inr rfl | exact .inl rfl) hcnt rfl rfl (by rw [← hs']; simp_all) hR
  rw [if_neg h0] at hs'
  cases hA : p.labels.contains t.s
  all_goals cases hC : p.loops.contains t.s
  all_goals rw [hA, hC] at hs'
  all_goals repeat' (first | refine KO ?_ | (refine CF 38 ?_; (with_reducible apply g_ce 2); exact rfl; exact rfl; exact rfl; ((with_reducible apply e_call4); kernel_rfl; exact rfl; exact rfl; exact rfl; exact rfl); exact rfl; (exact hR); (exact ename_spec xb mb t _ ou _ (by omega) p _ _ _ (hp0) hm); (intro v1 μ1 i1 hle1 hR); (dsimp only [List.cons_append, List.nil_append]); (have hp0 := hp0.mono hle1); (have hplb := hplb.mono hle1); (have hplo := hplo.mono hle1); (have hm := hm.mono hle1)) | refine KI ?_ | refine NB fun b => ?_ | ((refine KB ?_ ?_ <;> intro hp)) | refine KG ?_ | fail)
  all_goals try (exfalso; first | omega | contradiction)
  all_goals
    refine gc_draw 10 _ (by kernel_rfl) rfl (List.Sublist.cons_cons _ (List.Sublist.cons_cons _ (List.nil_sublist _))) ?_
    all_goals refine DD 0 ?_
    all_goals refine DD 1 ?_
    all_goals refine DD 2 ?_
    all_goals refine DD 3 ?_
    all_goals refine DD 4 ?_
    all_goals refine DD 5 ?_
    all_goals refine DD 6 ?_
    all_goals (first | (refine D3 7 ?_; refine D5 ?_; (first | ((with_reducible apply C1); exact rfl; exact EN; (exact fun w μc hw hse => contains_is t.s p.labels _ hA lb w μc hw (hplb.mono hse.le) hl)) | (refine CF 39 ?_; (with_reducible apply g_ce 2); exact rfl; exact rfl; exact rfl; ((with_reducible apply e_call4); kernel_rfl; exact rfl; exact rfl; exact rfl; exact rfl); exact rfl; (exact hR); (exact bad_spec xb mb t _ ou _ _ _ _); (intro v1 μ1 i1 hle1 hR); (dsimp only [List.cons_append, List.nil_append]); (have hplo := hplo.mono hle1))); refine D9 ?_))
    all_goals refine DD 8 ?_
    all_goals (first | (refine D3 9 ?_; refine D5 ?_; (first | ((with_reducible apply C1); exact rfl; exact EN; (exact fun w μc hw hse => contains_is t.s p.labels _ hA lb w μc hw (hplb.mono hse.le) hl)) | (refine CF 39 ?_; (with_reducible apply g_ce 2); exact rfl; exact rfl; exact rfl; ((with_reducible apply e_call4); kernel_rfl; exact rfl; exact rfl; exact rfl; exact rfl); exact rfl; (exact hR); (exact bad_spec xb mb t _ ou _ _ _ _); (intro v1 μ1 i1 hle1 hR); (dsimp only [List.cons_append, List.nil_append]); (have hplo := hplo.mono hle1))); refine D9 ?_))
    all_goals refine D8 ?_
  all_goals repeat' (first | refine KK ?_ | refine NB fun b => ?_ | ((refine KB ?_ ?_ <;> intro hp)) | refine KG ?_ | fail)
  all_goals
    refine gc_draw 15 _ (by kernel_rfl) rfl (List.Sublist.cons_cons _ (List.Sublist.cons_cons _ (List.nil_sublist _))) ?_
    all_goals refine DD 0 ?_
    all_goals refine DD 1 ?_
    all_goals refine DD 2 ?_
    all_goals refine DD 3 ?_
    all_goals refine DD 4 ?_
    all_goals refine DD 5 ?_
    all_goals (try (refine D7 6 ?_; (repeat' (first | refine KO ?_ | (refine KB ?_ ?_ <;> intro hp)))))
    all_goals refine DD 6 ?_
    all_goals refine DD 7 ?_
    all_goals refine DD 8 ?_
    all_goals refine DD 9 ?_
    all_goals refine DD 10 ?_
    all_goals (first | (refine D3 11 ?_; refine D5 ?_; (first | ((with_reducible apply C1); exact rfl; exact EN; (exact fun w μc hw hse => contains_is t.s p.loops _ hC lo w μc hw (hplo.mono hse.le) hlo)) | (refine CF 39 ?_; (with_reducible apply g_ce 2); exact rfl; exact rfl; exact rfl; ((with_reducible apply e_call4); kernel_rfl; exact rfl; exact rfl; exact rfl; exact rfl); exact rfl; (exact hR); (exact bad_spec xb mb t _ ou _ _ _ _); (intro v1 μ1 i1 hle1 hR); (dsimp only [List.cons_append, List.nil_append]))); refine D9 ?_) | refine D3 11 (D6 ?_))
    all_goals refine DD 12 ?_
    all_goals refine DD 13 ?_
    all_goals (first | (refine D3 14 ?_; refine D5 ?_; (first | ((with_reducible apply C1); exact rfl; exact EN; (exact fun w μc hw hse => contains_is t.s p.loops _ hC lo w μc hw (hplo.mono hse.le) hlo)) | (refine CF 39 ?_; (with_reducible apply g_ce 2); exact rfl; exact rfl; exact rfl; ((with_reducible apply e_call4); kernel_rfl; exact rfl; exact rfl; exact rfl; exact rfl); exact rfl; (exact hR); (exact bad_spec xb mb t _ ou _ _ _ _); (intro v1 μ1 i1 hle1 hR); (dsimp only [List.cons_append, List.nil_append]))); refine D9 ?_))
    all_goals refine D8 ?_
  all_goals repeat' (first | refine KK ?_ | refine NB fun b => ?_ | ((refine KB ?_ ?_ <;> intro hp)) | refine KG ?_ | fail)
  all_goals exact ret_ce 2 i1 (by first | exact .inr rfl | exact .inl rfl) hcnt rfl rfl (by rw [← hs']; simp_all) hR
theorem ebind_spec (N : T → EP → ES → ES) (B : T → EP → ED → ES → ES) (t : T) (hq : Kc t) (hs : t.s.size ≤ 100000) (hts : t.size ≤ 90000) (hN : ∀ k ∈ t.kids, NCk N k ∧ NG N k) (hBC : ∀ k ∈ t.kids, BCk B k ∧ BG B k) : BCk (bindE wdF N B) t := by
  intro xb mb u pv dv p d s μ hk hp hd hdl hB hS hm
  intro w fs hμ hR hO
  have hcnt := ids_count hO.diff
  have hp0 := hp
  obtain ⟨r, lb, lo, mi, rfl, hpr, hplb, hplo, hpmi⟩ := hp
  have o1 := hpr.one
  have o2 := hplb.one
  have o3 := hplo.one
  have o4 := hpmi.one
  have ou := hk.one
  have od := hd.one
  have hB0 := hB
  have hr1 := hB.regs
  have hr2 := hB.labels
  have hsz := size_szs t
  obtain ⟨A, c, rfl, hcap, hget⟩ := hk.form
  generalize hs' : bindE wdF N B t p d s = s'
  unfold bindE at hs'
  refine call_introM (args := [.pointer (some ⟨xb, 0, none⟩), .agg (encT t (.slice A t.kids.length c)).toArray, .agg (encPl p r lb lo mi).toArray, .agg (encD (d, dv)).toArray]) Tryz.func34 rfl Tryz.ntmps34 (by simp) hμ hO ?_
  by_cases h34 : t.op = 34
  · rw [if_pos h34] at hs'
    have hgn := gr_name (F := FF) wdF t t.s p s
    have htot : totE (nameE wdF t t.s p s).names ≤ 1000000 := by
      have h9 := hgn.wt
      unfold SB at hS
      omega
    repeat' (first | refine KO ?_ | (refine CF 38 ?_; (with_reducible apply g_ce 3); exact rfl; exact rfl; exact rfl; ((with_reducible apply e_call4); kernel_rfl; exact rfl; exact rfl; exact rfl; exact rfl); exact rfl; (exact hR); (exact ename_spec xb mb t _ ou _ (by omega) p _ _ _ hp0 hm); (intro v1 μ1 i1 hle1 hR); (dsimp only [List.cons_append, List.nil_append]); (have hd := hd.mono hle1)) | (refine CF 70 ?_; (with_reducible apply g_ce 3); exact rfl; exact rfl; exact rfl; ((with_reducible apply e_call4); kernel_rfl; exact rfl; exact rfl; exact rfl; exact rfl); exact rfl; (exact hR); (exact declare_spec xb mb t _ ou t.s d _ _ _ hd hdl htot); (intro v1 μ1 i1 hle1 hR); (dsimp only [List.cons_append, List.nil_append])) | refine KI ?_ | refine NB fun b => ?_ | ((refine KB ?_ ?_ <;> intro hp)) | refine KG ?_ | fail)
    all_goals try (exfalso; first | omega | contradiction)
    all_goals exact ret_ce 3 i1 (by first | exact .inr rfl | exact .inl rfl) hcnt rfl rfl hs' hR
  rw [if_neg h34] at hs'
  by_cases h51 : t.op = 51 ∨ t.op = 52
  · rw [if_pos h51] at hs'
    rcases h51 with h51 | h51
    all_goals repeat' (first | refine KO ?_ | (refine CF 39 ?_; (with_reducible apply g_ce 3); exact rfl; exact rfl; exact rfl; ((with_reducible apply e_call4); kernel_rfl; exact rfl; exact rfl; exact rfl; exact rfl); exact rfl; (exact hR); (exact bad_spec xb mb t _ ou _ _ _ _); (intro v1 μ1 i1 hle1 hR); (dsimp only [List.cons_append, List.nil_append])) | refine KI ?_ | refine NB fun b => ?_ | ((refine KB ?_ ?_ <;> intro hp)) | refine KG ?_ | fail)
    all_goals try (exfalso; first | omega | contradiction)
    all_goals exact ret_ce 3 i1 (by first | exact .inr rfl | exact .inl rfl) hcnt rfl rfl hs' hR
  rw [if_neg h51] at hs'
  by_cases h63 : t.op = 63
  · rw [if_pos h63] at hs'
    have h2 := hq.two (by simp [h63])
    obtain ⟨r2, hr2⟩ := kids2 h2
    have hz := hsz
    rw [hr2, szs_cons, szs_cons] at hz
    obtain ⟨ad, x0, rfl, hm0, hox0, hk0⟩ := hget 0 _ (kidE_get (by omega))
    obtain ⟨ad', x1, e, hm1, hox1, hk1⟩ := hget 1 _ (kidE_get (by omega))
    cases e
    have hmem0 := kidE_mem (t := t) (i := 0) (by omega)
    have hmem1 := kidE_mem (t := t) (i := 1) (by omega)
    have hsb := SB.gr (s' := B (kidE t 0) p d s) (n := (kidE t 0).size) (m := (kidE t 1).size) (hS.mono (by omega)) ((hBC _ hmem0).2 p d s)
    repeat' (first | refine KK ?_ | refine NB fun b => ?_ | ((refine KB ?_ ?_ <;> intro hp)) | refine KG ?_ | fail)
    all_goals try (exfalso; first | omega | contradiction)
    refine gc_draw 8 _ (by kernel_rfl) rfl (List.Sublist.cons_cons _ (List.Sublist.cons_cons _ (List.Sublist.cons_cons _ (List.nil_sublist _)))) ?_
    all_goals refine DD 0 ?_
    all_goals (first | refine D1 1 ?_ | (refine DV (k := 1) (b := by first | exact U1 0 | exact U4 hm0) (c := ?_)) | refine DD 1 ?_ | fail)
    all_goals (first | refine D1 2 ?_ | (refine DV (k := 2) (b := by first | exact U1 0 | exact U4 hm0) (c := ?_)) | (refine D3 2 (DW (b := by first | exact U1 0 | exact U4 hm0) (c := ?_))) | refine DD 2 ?_ | fail)
    all_goals (first | refine D1 3 ?_ | (refine DV (k := 3) (b := by first | exact U1 0 | exact U4 hm0) (c := ?_)) | refine DD 3 ?_ | fail)
    all_goals (first | refine D1 4 ?_ | (refine DV (k := 4) (b := by first | exact U1 0 | exact U4 hm0) (c := ?_)) | (refine D3 4 (DW (b := by first | exact U1 0 | exact U4 hm0) (c := ?_))) | refine DD 4 ?_ | fail)
    all_goals (first | refine D1 5 ?_ | (refine DV (k := 5) (b := by first | exact U1 0 | exact U4 hm0) (c := ?_)) | (refine D3 5 (DW (b := by first | exact U1 0 | exact U4 hm0) (c := ?_))) | refine DD 5 ?_ | fail)
    all_goals (first | refine D1 6 ?_ | (refine DV (k := 6) (b := by first | exact U1 0 | exact U4 hm0) (c := ?_)) | (refine D3 6 (DW (b := by first | exact U1 0 | exact U4 hm0) (c := ?_))) | refine DD 6 ?_ | fail)
    all_goals (first | (refine D3 7 ?_; refine D5 ?_; refine CF 34 ?_; (with_reducible apply g_ce 3); exact rfl; exact rfl; exact rfl; ((with_reducible apply e_call4); kernel_rfl; exact rfl; exact rfl; exact rfl; exact rfl); exact rfl; (exact hR); (exact (hBC _ hmem0).1 xb mb _ _ _ p d s _ hk0 hp0 hd hdl (hB0.mono (by omega)) (hS.mono (by omega)) hm); (intro v1 μ1 i1 hle1 hR); (dsimp only [List.cons_append, List.nil_append]); (have hm1 := hm1.mono hle1); (have hk1 := hk1.mono hle1); (have hp0 := hp0.mono hle1); (have hm := hm.mono hle1); refine D9 ?_))
    all_goals refine D8 ?_
    all_goals repeat' (first | refine KK ?_ | refine NB fun b => ?_ | ((refine KB ?_ ?_ <;> intro hp)) | refine KG ?_ | fail)
    refine gc_draw 7 _ (by kernel_rfl) rfl (List.Sublist.cons_cons _ (List.Sublist.cons_cons _ (List.Sublist.cons_cons _ (List.nil_sublist _)))) ?_
    all_goals refine DD 0 ?_
    all_goals (first | refine D1 1 ?_ | (refine DV (k := 1) (b := by first | exact U1 1 | exact U4 hm1) (c := ?_)) | refine DD 1 ?_ | fail)
    all_goals (first | refine D1 2 ?_ | (refine DV (k := 2) (b := by first | exact U1 1 | exact U4 hm1) (c := ?_)) | (refine D3 2 (DW (b := by first | exact U1 1 | exact U4 hm1) (c := ?_))) | refine DD 2 ?_ | fail)
    all_goals (first | refine D1 3 ?_ | (refine DV (k := 3) (b := by first | exact U1 1 | exact U4 hm1) (c := ?_)) | refine DD 3 ?_ | fail)
    all_goals (first | refine D1 4 ?_ | (refine DV (k := 4) (b := by first | exact U1 1 | exact U4 hm1) (c := ?_)) | (refine D3 4 (DW (b := by first | exact U1 1 | exact U4 hm1) (c := ?_))) | refine DD 4 ?_ | fail)
    all_goals (first | refine D1 5 ?_ | (refine DV (k := 5) (b := by first | exact U1 1 | exact U4 hm1) (c := ?_)) | (refine D3 5 (DW (b := by first | exact U1 1 | exact U4 hm1) (c := ?_))) | refine DD 5 ?_ | fail)
    all_goals (first | (refine D3 6 ?_; refine D5 ?_; refine CF 18 ?_; (with_reducible apply g_ce 3); exact rfl; exact rfl; exact rfl; ((with_reducible apply e_call3); kernel_rfl; exact rfl; exact rfl; exact rfl); exact rfl; (exact hR); (exact (hN _ hmem1).1 xb mb _ _ p _ _ hk1 hp0 (hB0.mono (by omega)) hsb hm); (intro v1 μ1 i1 hle1 hR); (dsimp only [List.cons_append, List.nil_append]); refine D9 ?_))
    all_goals refine D8 ?_
    all_goals repeat' (first | refine KK ?_ | refine NB fun b => ?_ | ((refine KB ?_ ?_ <;> intro hp)) | refine KG ?_ | fail)
    all_goals exact ret_ce 3 i1 (by first | exact .inr rfl | exact .inl rfl) hcnt rfl rfl hs' hR
  rw [if_neg h63] at hs'
  by_cases h62 : t.op = 62
  · rw [if_pos h62] at hs'
    have h2 := hq.two (by simp [h62])
    obtain ⟨r2, hr2⟩ := kids2 h2
    have hz := hsz
    rw [hr2, szs_cons, szs_cons] at hz
    obtain ⟨ad, x0, rfl, hm0, hox0, hk0⟩ := hget 0 _ (kidE_get (by omega))
    obtain ⟨ad', x1, e, hm1, hox1, hk1⟩ := hget 1 _ (kidE_get (by omega))
    cases e
    have hmem0 := kidE_mem (t := t) (i := 0) (by omega)
    have hmem1 := kidE_mem (t := t) (i := 1) (by omega)
    have hsb := SB.gr (s' := N (kidE t 0) p s) (n := (kidE t 0).size) (m := (kidE t 1).size) (hS.mono (by omega)) ((hN _ hmem0).2 p s)
    repeat' (first | refine KK ?_ | refine NB fun b => ?_ | ((refine KB ?_ ?_ <;> intro hp)) | refine KG ?_ | fail)
    all_goals try (exfalso; first | omega | contradiction)
    refine gc_draw 7 _ (by kernel_rfl) rfl (List.Sublist.cons_cons _ (List.Sublist.cons_cons _ (List.Sublist.cons_cons _ (List.nil_sublist _)))) ?_
    all_goals refine DD 0 ?_
    all_goals (first | refine D1 1 ?_ | (refine DV (k := 1) (b := by first | exact U1 0 | exact U4 hm0) (c := ?_)) | refine DD 1 ?_ | fail)
    all_goals (first | refine D1 2 ?_ | (refine DV (k := 2) (b := by first | exact U1 0 | exact U4 hm0) (c := ?_)) | (refine D3 2 (DW (b := by first | exact U1 0 | exact U4 hm0) (c := ?_))) | refine DD 2 ?_ | fail)
    all_goals (first | refine D1 3 ?_ | (refine DV (k := 3) (b := by first | exact U1 0 | exact U4 hm0) (c := ?_)) | refine DD 3 ?_ | fail)
    all_goals (first | refine D1 4 ?_ | (refine DV (k := 4) (b := by first | exact U1 0 | exact U4 hm0) (c := ?_)) | (refine D3 4 (DW (b := by first | exact U1 0 | exact U4 hm0) (c := ?_))) | refine DD 4 ?_ | fail)
    all_goals (first | refine D1 5 ?_ | (refine DV (k := 5) (b := by first | exact U1 0 | exact U4 hm0) (c := ?_)) | (refine D3 5 (DW (b := by first | exact U1 0 | exact U4 hm0) (c := ?_))) | refine DD 5 ?_ | fail)
    all_goals (first | (refine D3 6 ?_; refine D5 ?_; refine CF 18 ?_; (with_reducible apply g_ce 3); exact rfl; exact rfl; exact rfl; ((with_reducible apply e_call3); kernel_rfl; exact rfl; exact rfl; exact rfl); exact rfl; (exact hR); (exact (hN _ hmem0).1 xb mb _ _ p s _ hk0 hp0 (hB0.mono (by omega)) (hS.mono (by omega)) hm); (intro v1 μ1 i1 hle1 hR); (dsimp only [List.cons_append, List.nil_append]); (have hm1 := hm1.mono hle1); (have hk1 := hk1.mono hle1); (have hp0 := hp0.mono hle1); (have hd := hd.mono hle1); (have hm := hm.mono hle1); refine D9 ?_))
    all_goals refine D8 ?_
    all_goals repeat' (first | refine KK ?_ | refine NB fun b => ?_ | ((refine KB ?_ ?_ <;> intro hp)) | refine KG ?_ | fail)
    refine gc_draw 8 _ (by kernel_rfl) rfl (List.Sublist.cons_cons _ (List.Sublist.cons_cons _ (List.Sublist.cons_cons _ (List.nil_sublist _)))) ?_
    all_goals refine DD 0 ?_
    all_goals (first | refine D1 1 ?_ | (refine DV (k := 1) (b := by first | exact U1 1 | exact U4 hm1) (c := ?_)) | refine DD 1 ?_ | fail)
    all_goals (first | refine D1 2 ?_ | (refine DV (k := 2) (b := by first | exact U1 1 | exact U4 hm1) (c := ?_)) | (refine D3 2 (DW (b := by first | exact U1 1 | exact U4 hm1) (c := ?_))) | refine DD 2 ?_ | fail)
    all_goals (first | refine D1 3 ?_ | (refine DV (k := 3) (b := by first | exact U1 1 | exact U4 hm1) (c := ?_)) | refine DD 3 ?_ | fail)
    all_goals (first | refine D1 4 ?_ | (refine DV (k := 4) (b := by first | exact U1 1 | exact U4 hm1) (c := ?_)) | (refine D3 4 (DW (b := by first | exact U1 1 | exact U4 hm1) (c := ?_))) | refine DD 4 ?_ | fail)
    all_goals (first | refine D1 5 ?_ | (refine DV (k := 5) (b := by first | exact U1 1 | exact U4 hm1) (c := ?_)) | (refine D3 5 (DW (b := by first | exact U1 1 | exact U4 hm1) (c := ?_))) | refine DD 5 ?_ | fail)
    all_goals (first | refine D1 6 ?_ | (refine DV (k := 6) (b := by first | exact U1 1 | exact U4 hm1) (c := ?_)) | (refine D3 6 (DW (b := by first | exact U1 1 | exact U4 hm1) (c := ?_))) | refine DD 6 ?_ | fail)
    all_goals (first | (refine D3 7 ?_; refine D5 ?_; refine CF 34 ?_; (with_reducible apply g_ce 3); exact rfl; exact rfl; exact rfl; ((with_reducible apply e_call4); kernel_rfl; exact rfl; exact rfl; exact rfl; exact rfl); exact rfl; (exact hR); (exact (hBC _ hmem1).1 xb mb _ _ _ p d _ _ hk1 hp0 hd hdl (hB0.mono (by omega)) hsb hm); (intro v1 μ1 i1 hle1 hR); (dsimp only [List.cons_append, List.nil_append]); refine D9 ?_))
    all_goals refine D8 ?_
    all_goals repeat' (first | refine KK ?_ | refine NB fun b => ?_ | ((refine KB ?_ ?_ <;> intro hp)) | refine KG ?_ | fail)
    all_goals exact ret_ce 3 i1 (by first | exact .inr rfl | exact .inl rfl) hcnt rfl rfl hs' hR
  rw [if_neg h62] at hs'
  by_cases h60 : t.op = 60 ∨ t.op = 61 ∨ t.op = 64
  rotate_left
  · rw [if_neg h60] at hs'
    repeat' (first | refine KK ?_ | refine NB fun b => ?_ | ((refine KB ?_ ?_ <;> intro hp)) | refine KG ?_ | fail)
    all_goals try (exfalso; first | omega | contradiction)
    all_goals exact ret_ce 3 fs (by first | exact .inr rfl | exact .inl rfl) hcnt rfl rfl hs' hR
  rw [if_pos h60] at hs'
  have hlen : t.kids.length ≤ 100000 := by
    have h9 : ∀ l : List T, l.length ≤ szs l := fun l => by
      induction l with
      | nil => exact Nat.zero_le _
      | cons k r ih =>
        rw [szs_cons, List.length_cons]
        have := size_szs k
        omega
    have := h9 t.kids
    omega
  repeat' (first | ((with_reducible show GC _ _ (Code.seq (Code.region 1 _ _) _) _ _ _ _); (apply gc_stop)) | refine KK ?_ | refine NB fun b => ?_ | ((refine KB ?_ ?_ <;> intro hp)) | refine KG ?_ | fail)
  rename_i bn bp
  obtain ⟨bd, hbd⟩ : ∃ y, y = b := ⟨_, rfl⟩
  rw [← hbd]
  clear hbd
  refine gcs ?_
  rcases h60 with h60 | h60 | h60
  all_goals repeat' (first | refine KK ?_ | refine NB fun b => ?_ | ((refine KB ?_ ?_ <;> intro hp)) | refine KG ?_ | fail)
  all_goals try (exfalso; omega)
  all_goals
    refine gc_loop (ι := Nat × Mem × List FR) (fun q => q.1 ≤ t.kids.length ∧ MLe μ q.2.1 ∧ ER q.2.1 q.2.2 ((t.kids.take q.1).foldl (fun s k => B k p d s) s)) (fun q => t.kids.length - q.1) (fun q => q.2.1) (fun q => [(73, .int .i64 (q.1 : Int)), (72, .int .i64 (t.kids.length : Int)), (71, .slice A t.kids.length c), (6, .pointer (some ⟨bp, 0, none⟩)), (7, .pointer (some ⟨bd, 0, none⟩)), (0, .pointer (some ⟨xb, 0, none⟩))]) (fun q => .inl ⟨bd, 62, 4, idx 0 (encD (d, dv))⟩ :: .inl ⟨bp, 47, 12, idx 0 (encPl p r lb lo mi)⟩ :: EB xb mb ((t.kids.take q.1).foldl (fun s k => B k p d s) s) q.2.2) (0, μ, fs) ⟨Nat.zero_le _, MLe.refl _, hR⟩ (fun a w hs => hs.sel PU (sel_0 (.cells PU) (sel_0 (.cells PU) (sel_drop _ (sel_all _))))) ?_
    rintro ⟨i, μ0, fs0⟩ ⟨hi, hle, hR⟩
    dsimp only at hi hle hR ⊢
    by_cases hlt : i < t.kids.length
    · obtain ⟨k, hkk⟩ : ∃ k, t.kids[i]? = some k := ⟨_, List.getElem?_eq_getElem hlt⟩
      obtain ⟨ad, x, rfl, hm0, hox, hkx⟩ := hget i k hkk
      have hmm := hm0.mono hle
      have hmem := List.mem_of_getElem? hkk
      obtain ⟨hn1, -⟩ := hBC k hmem
      have hz := szs_take hkk
      have hgr := gr_fold (F := FF) (g := fun s k => B k p d s) (c := fun k => 2 * T.size k) (t.kids.take i) s (fun k hk s => (hBC k (List.mem_of_mem_take hk)).2 p d s)
      rw [sum_two] at hgr
      have hsb := SB.gr (n := szs (t.kids.take i)) (m := k.size) (hS.mono (by omega)) hgr
      have hnext : B k p d ((t.kids.take i).foldl (fun s k => B k p d s) s) = (t.kids.take (i + 1)).foldl (fun s k => B k p d s) s := (fold_take (fun s k => B k p d s) t.kids s hkk).symm
      repeat' (first | refine KO ?_ | (refine CF 34 ?_; (with_reducible apply g_ce 3); exact rfl; exact rfl; exact rfl; ((with_reducible apply e_call4); kernel_rfl; exact rfl; exact rfl; exact rfl; exact rfl); exact rfl; (exact hR); (exact hn1 xb mb _ _ _ p d _ _ (hkx.mono hle) (hp0.mono hle) (hd.mono hle) hdl (hB0.mono (by omega)) hsb (hm.mono hle)); (intro v1 μ1 i1 hle1 hR); (dsimp only [List.cons_append, List.nil_append])) | (refine KV (b := by first | exact U1 i | exact U4 hmm) (c := ?_)) | refine KI ?_ | refine NB fun b => ?_ | ((refine KB ?_ ?_ <;> intro hp)) | refine KG ?_ | fail)
      all_goals try (exfalso; first | omega | contradiction)
      rw [hnext] at hR ⊢
      exact gq_backS (i + 1, μ1, i1) ⟨by dsimp only; omega, hle.trans hle1, hR⟩ (by dsimp only; omega) rfl PU (sel_1 (.refl _) (sel_1 (.refl _) (sel_drop _ (sel_all _))))
    · have hil : i = t.kids.length := by omega
      subst hil
      rw [List.take_of_length_le (Nat.le_refl _)] at hR ⊢
      repeat' (first | refine KK ?_ | refine NB fun b => ?_ | ((refine KB ?_ ?_ <;> intro hp)) | refine KG ?_ | fail)
      all_goals try (exfalso; first | omega | contradiction)
      all_goals exact ret_ce 2 fs0 (by first | exact .inr rfl | exact .inl rfl) hcnt rfl rfl hs' hR
end Go.Proofs.YtfabmichdhbiaaaGreatDoor
namespace Go.Proofs.YtfabmichdhbiaaaGreatDoor
open Go.RowKit Go.Vcg Ou
theorem len_szs : ∀ l : List T, l.length ≤ szs l
  | [] => Nat.zero_le _
  | k :: r => by
    have := len_szs r
    have := size_szs k
    rw [szs_cons, List.length_cons]
    omega
theorem szs_drop1 {k : T} (h : 1 ≤ k.kids.length) : (kidE k 0).size + szs (k.kids.drop 1) + 1 = k.size := by
  have h2 := size_szs k
  have h3 := kids1 h
  rw [h3, szs_cons] at h2
  omega
def cVar (t k : T) (each : Bool) : Bool := decide (k.kids.length = 1) && !each && (decide (t.n = 2) || decide ((kidE k 0).op ≠ 34))
def qE (t : T) : Prop := Kc t ∧ t.s.size ≤ 100000
attribute [local irreducible] wdL anI famD mkD G GC GQ GA GAop Calls IntKind.wrap Int.decLt Int.decLe
theorem evars_spec (N : T → EP → ES → ES) (B : T → EP → ED → ES → ES) (t : T) (hq : AllN qE t) (h2 : t.op = 2) (hts : t.size ≤ 80000) (hN : ∀ k, AllN qE k → k.size < t.size → NCk N k ∧ NG N k) (hBC : ∀ k, AllN qE k → k.size < t.size → BCk B k ∧ BG B k)
    (xb mb : Nat) (u pv : Value) (p : EP) (each : Bool) (s : ES) (μ : Mem) (hk : KR μ t.kids u) (hp : PV μ p pv) (hB : PB p t.size) (hS : SB s t.size) (hm : MaxQ μ) :
    CEs 31 [.pointer (some ⟨xb, 0, none⟩), .agg (encT t u).toArray, pv, .bool each] xb mb s (varsE N B t p each s) μ := by
  intro w fs hμ hR hO
  have hcnt := ids_count hO.diff
  have hp0 := hp
  obtain ⟨r, lb, lo, mi, rfl, hpr, hplb, hplo, hpmi⟩ := hp
  have o1 := hpr.one
  have o2 := hplb.one
  have o3 := hplo.one
  have o4 := hpmi.one
  have hpr0 := hpr
  obtain ⟨Ar, cr, rfl, -, -⟩ := hpr0
  have ou := hk.one
  have hne := hB.ne
  have hr1 := hB.regs
  have hsz := size_szs t
  have hlen := len_szs t.kids
  have hsub := hq.here.1.sub h2
  obtain ⟨nv, hnv, hnear⟩ := near_spec μ p _ hp0 hne (by omega)
  have hnv0 := hnv
  obtain ⟨An, cn, rfl, -, -⟩ := hnv0
  obtain ⟨A, c, rfl, hcap, hget⟩ := hk.form
  generalize hs' : varsE N B t p each s = s'
  unfold varsE at hs'
  dsimp only at hs'
  have hddl : (if t.n ≠ 0 then (⟨true, nearE p, 0, false⟩ : ED) else ⟨false, p.regs, 0, false⟩).ins.length ≤ 100000 := by
    split
    · show (nearE p).length ≤ 100000
      unfold nearE
      rw [List.length_drop]
      omega
    · show p.regs.length ≤ 100000
      omega
  generalize hdd : (if t.n ≠ 0 then (⟨true, nearE p, 0, false⟩ : ED) else ⟨false, p.regs, 0, false⟩) = dd at hs' hddl
  refine call_introM (args := [.pointer (some ⟨xb, 0, none⟩), .agg (encT t (.slice A t.kids.length c)).toArray, .agg (encPl p (.slice Ar p.regs.length cr) lb lo mi).toArray, .bool each]) Tryz.func31 rfl Tryz.ntmps31 (by simp) hμ hO ?_
  repeat' (first | ((with_reducible show GC _ _ (Code.seq (Code.seq (Code.region 2 _ _) _) _) _ _ _ _); (apply gc_stop)) | refine KK ?_ | refine NB fun b => ?_ | ((refine KB ?_ ?_ <;> intro hp)) | refine KG ?_ | fail)
  rename_i bn bp
  obtain ⟨bd, hbd⟩ : ∃ y, y = b := ⟨_, rfl⟩
  rw [← hbd]
  clear hbd
  refine gcs (gc_join (ι := Value) (fun dv => IsV μ dv dd.ins) (fun _ => μ) (fun _ => [(8, .pointer (some ⟨bd, 0, none⟩)), (6, .pointer (some ⟨bp, 0, none⟩)), (5, .pointer (some ⟨bn, 0, none⟩)), (3, .bool each), (0, .pointer (some ⟨xb, 0, none⟩))]) (fun dv => .inl ⟨bd, 62, 4, idx 0 (encD (dd, dv))⟩ :: .inl ⟨bp, 47, 12, idx 0 (encPl p (.slice Ar p.regs.length cr) lb lo mi)⟩ :: .inl ⟨bn, 27, 6, idx 0 (encT t (.slice A t.kids.length c))⟩ :: EB xb mb s fs) ?_ ?_)
  · by_cases hn : t.n = 0
    · rw [if_neg (fun h => h hn)] at hdd
      subst hdd
      repeat' (first | refine KK ?_ | refine NB fun b => ?_ | ((refine KB ?_ ?_ <;> intro hp)) | refine KG ?_ | fail)
      all_goals try (exfalso; first | omega | contradiction)
      all_goals exact gq_joinS _ hpr rfl PU (sel_0 (.cells PU) (sel_0 (.cells PU) (sel_0 (.cells PU) (sel_all _))))
    · rw [if_pos hn] at hdd
      subst hdd
      repeat' (first | refine KO ?_ | ((with_reducible apply F1 35); exact rfl; exact EN; (exact fun w μc hw hse => hnear w μc hw hse.le)) | refine KI ?_ | refine NB fun b => ?_ | ((refine KB ?_ ?_ <;> intro hp)) | refine KG ?_ | fail)
      all_goals try (exfalso; first | omega | contradiction)
      all_goals exact gq_joinS _ hnv rfl PU (sel_0 (.cells PU) (sel_0 (.cells PU) (sel_0 (.cells PU) (sel_all _))))
  intro dv hdv
  have odv := hdv.one
  repeat' (first | refine KK ?_ | refine NB fun b => ?_ | ((refine KB ?_ ?_ <;> intro hp)) | refine KG ?_ | fail)
  refine gc_loop (ι := Nat × Mem × List FR) (fun q => q.1 ≤ t.kids.length ∧ MLe μ q.2.1 ∧ ER q.2.1 q.2.2 ((t.kids.take q.1).foldl (fun s k => allE N (k.kids.drop 1) p (B (kidE k 0) p dd (badE (cVar t k each) k.at' 36 s))) s)) (fun q => t.kids.length - q.1) (fun q => q.2.1) (fun q => [(24, .int .i64 (q.1 : Int)), (23, .int .i64 (t.kids.length : Int)), (22, .slice A t.kids.length c), (8, .pointer (some ⟨bd, 0, none⟩)), (6, .pointer (some ⟨bp, 0, none⟩)), (5, .pointer (some ⟨bn, 0, none⟩)), (3, .bool each), (0, .pointer (some ⟨xb, 0, none⟩))]) (fun q => .inl ⟨bd, 62, 4, idx 0 (encD (dd, dv))⟩ :: .inl ⟨bp, 47, 12, idx 0 (encPl p (.slice Ar p.regs.length cr) lb lo mi)⟩ :: .inl ⟨bn, 27, 6, idx 0 (encT t (.slice A t.kids.length c))⟩ :: EB xb mb ((t.kids.take q.1).foldl (fun s k => allE N (k.kids.drop 1) p (B (kidE k 0) p dd (badE (cVar t k each) k.at' 36 s))) s) q.2.2) (0, μ, fs) ⟨Nat.zero_le _, MLe.refl _, hR⟩ (fun a w hs => hs.sel PU (sel_all _)) ?_
  rintro ⟨i, μ0, fs0⟩ ⟨hi, hle, hR⟩
  dsimp only at hi hle hR ⊢
  by_cases hlt : i < t.kids.length
  · obtain ⟨k, hkk⟩ : ∃ k, t.kids[i]? = some k := ⟨_, List.getElem?_eq_getElem hlt⟩
    obtain ⟨ad, x, rfl, hm0, hox, hkx⟩ := hget i k hkk
    have hmm := hm0.mono hle
    have hmem := List.mem_of_getElem? hkk
    have hak := hq.kid hmem
    have hk1 := hsub k hmem
    have hzk := szs_drop1 hk1
    have hz := szs_take hkk
    have ha0 := hak.kid (kidE_mem (t := k) (i := 0) (by omega))
    obtain ⟨hb1, hb2⟩ := hBC _ ha0 (by omega)
    have hdr : ∀ y ∈ k.kids.drop 1, AllN qE y ∧ y.size ≤ szs (k.kids.drop 1) := fun y hy => ⟨hak.kid (List.mem_of_mem_drop hy), T.sum_mem (List.mem_map.2 ⟨y, hy, rfl⟩)⟩
    have hND := fun y hy => hN y (hdr y hy).1 (by have := (hdr y hy).2; omega)
    have hgr : Gr FF (2 * szs (t.kids.take i)) s ((t.kids.take i).foldl (fun s k => allE N (k.kids.drop 1) p (B (kidE k 0) p dd (badE (cVar t k each) k.at' 36 s))) s) := by
      have h9 := gr_fold (F := FF) (g := (fun s k => allE N (k.kids.drop 1) p (B (kidE k 0) p dd (badE (cVar t k each) k.at' 36 s)))) (c := fun k => 2 * T.size k) (t.kids.take i) s (fun k hk s => by
        have hmk := List.mem_of_mem_take hk
        have hak := hq.kid hmk
        have hk1 := hsub k hmk
        have hzk := szs_drop1 hk1
        have hsk : k.size ≤ szs t.kids := T.sum_mem (List.mem_map.2 ⟨k, hmk, rfl⟩)
        have ha0 := hak.kid (kidE_mem (t := k) (i := 0) (by omega))
        exact ((gr_bad _ _ _ _).trans ((hBC _ ha0 (by omega)).2 _ _ _) (Nat.le_refl _)).trans (gr_all _ (fun x hx => (hN x (hak.kid (List.mem_of_mem_drop hx)) (by
          have : x.size ≤ szs (k.kids.drop 1) := T.sum_mem (List.mem_map.2 ⟨x, hx, rfl⟩)
          omega)).2) _ _) (by omega))
      rwa [sum_two] at h9
    have hsb := SB.gr (n := szs (t.kids.take i)) (m := k.size) (hS.mono (by omega)) hgr
    have hnext : (fun s k => allE N (k.kids.drop 1) p (B (kidE k 0) p dd (badE (cVar t k each) k.at' 36 s))) ((t.kids.take i).foldl (fun s k => allE N (k.kids.drop 1) p (B (kidE k 0) p dd (badE (cVar t k each) k.at' 36 s))) s) k = ((t.kids.take (i + 1)).foldl (fun s k => allE N (k.kids.drop 1) p (B (kidE k 0) p dd (badE (cVar t k each) k.at' 36 s))) s) := (fold_take (fun s k => allE N (k.kids.drop 1) p (B (kidE k 0) p dd (badE (cVar t k each) k.at' 36 s))) t.kids s hkk).symm
    generalize hsi : ((t.kids.take i).foldl (fun s k => allE N (k.kids.drop 1) p (B (kidE k 0) p dd (badE (cVar t k each) k.at' 36 s))) s) = si at hR hsb hnext ⊢
    dsimp only at hnext
    have hsb1 := (hsb.mono (m := (kidE k 0).size + szs (k.kids.drop 1)) (by omega)).bad (cVar t k each) k.at' 36
    have hsb2 := SB.gr hsb1 (hb2 p dd _)
    obtain ⟨A2, c2, rfl, hcap2, hget2⟩ := hkx.form
    obtain ⟨ad2, x2, rfl, hmk0, hox2, hkx2⟩ := hget2 0 _ (kidE_get (by omega))
    have hmk0 := hmk0.mono hle
    have hkx2 := hkx2.mono hle
    have hdrp := (hkx.mono hle).drop1 (by omega)
    have hp1 := hp0.mono hle
    have hdv1 := hdv.mono hle
    have hm1 := hm.mono hle
    have hq1 : ((k.kids.length : Int) = 1) = (k.kids.length = 1) := propext (by omega)
    repeat' (first | refine KO ?_ | (refine KV (b := by first | exact U1 i | exact U4 hmm) (c := ?_)) | refine KI ?_ | refine NB fun b => ?_ | ((refine KB ?_ ?_ <;> intro hp)) | refine KG ?_ | fail)
    all_goals try (exfalso; first | omega | contradiction)
    refine gc_draw 24 _ (by kernel_rfl) rfl (List.Sublist.cons_cons _ (List.Sublist.cons_cons _ (List.Sublist.cons_cons _ (List.Sublist.cons_cons _ (List.nil_sublist _))))) ?_
    all_goals refine DD 0 ?_
    all_goals (first | refine D1 1 ?_ | (refine DV (k := 1) (b := by first | exact U1 0 | exact U4 hmk0) (c := ?_)) | (refine D3 1 (DW (b := by first | exact U1 0 | exact U4 hmk0) (c := ?_))) | refine DD 1 ?_ | fail)
    all_goals (first | refine D1 2 ?_ | (refine DV (k := 2) (b := by first | exact U1 0 | exact U4 hmk0) (c := ?_)) | refine DD 2 ?_ | fail)
    all_goals (first | refine D1 3 ?_ | (refine DV (k := 3) (b := by first | exact U1 0 | exact U4 hmk0) (c := ?_)) | (refine D3 3 (DW (b := by first | exact U1 0 | exact U4 hmk0) (c := ?_))) | refine DD 3 ?_ | fail)
    all_goals (first | refine D1 4 ?_ | (refine DV (k := 4) (b := by first | exact U1 0 | exact U4 hmk0) (c := ?_)) | refine DD 4 ?_ | fail)
    all_goals (first | refine D1 5 ?_ | (refine DV (k := 5) (b := by first | exact U1 0 | exact U4 hmk0) (c := ?_)) | refine DD 5 ?_ | fail)
    all_goals refine DD 6 ?_
    all_goals (try (refine D7 7 ?_; (repeat' (first | refine KO ?_ | (refine KB ?_ ?_ <;> intro hp)))))
    all_goals refine DD 7 ?_
    all_goals refine DD 8 ?_
    all_goals refine DD 9 ?_
    all_goals refine DD 10 ?_
    all_goals (try (refine D7 11 ?_; (repeat' (first | refine KO ?_ | (refine KB ?_ ?_ <;> intro hp)))))
    all_goals (first | refine D1 11 ?_ | (refine DV (k := 11) (b := by first | exact U1 0 | exact U4 hmk0) (c := ?_)) | refine DD 11 ?_ | fail)
    all_goals (first | refine D1 12 ?_ | (refine DV (k := 12) (b := by first | exact U1 0 | exact U4 hmk0) (c := ?_)) | (refine D3 12 (DW (b := by first | exact U1 0 | exact U4 hmk0) (c := ?_))) | refine DD 12 ?_ | fail)
    all_goals (first | refine D1 13 ?_ | (refine DV (k := 13) (b := by first | exact U1 0 | exact U4 hmk0) (c := ?_)) | refine DD 13 ?_ | fail)
    all_goals refine DD 14 ?_
    all_goals (try (refine D7 15 ?_; (repeat' (first | refine KO ?_ | (refine KB ?_ ?_ <;> intro hp)))))
    all_goals (first | refine D1 15 ?_ | (refine DV (k := 15) (b := by first | exact U1 0 | exact U4 hmk0) (c := ?_)) | refine DD 15 ?_ | fail)
    all_goals (first | refine D1 16 ?_ | (refine DV (k := 16) (b := by first | exact U1 0 | exact U4 hmk0) (c := ?_)) | (refine D3 16 (DW (b := by first | exact U1 0 | exact U4 hmk0) (c := ?_))) | refine DD 16 ?_ | fail)
    all_goals (first | refine D1 17 ?_ | (refine DV (k := 17) (b := by first | exact U1 0 | exact U4 hmk0) (c := ?_)) | refine DD 17 ?_ | fail)
    all_goals (first | refine D1 18 ?_ | (refine DV (k := 18) (b := by first | exact U1 0 | exact U4 hmk0) (c := ?_)) | refine DD 18 ?_ | fail)
    all_goals (first | refine D1 19 ?_ | (refine DV (k := 19) (b := by first | exact U1 0 | exact U4 hmk0) (c := ?_)) | (refine D3 19 (DW (b := by first | exact U1 0 | exact U4 hmk0) (c := ?_))) | refine DD 19 ?_ | fail)
    all_goals (first | refine D1 20 ?_ | (refine DV (k := 20) (b := by first | exact U1 0 | exact U4 hmk0) (c := ?_)) | refine DD 20 ?_ | fail)
    all_goals refine DD 21 ?_
    all_goals refine DD 22 ?_
    all_goals (first | (refine D3 23 ?_; refine D5 ?_; refine CF 39 ?_; (with_reducible apply g_ce 4); exact rfl; exact rfl; exact rfl; ((with_reducible apply e_call4); kernel_rfl; exact rfl; exact rfl; exact rfl; exact rfl); exact rfl; (exact hR); (exact bad_is xb mb k _ hox _ (cVar t k each) (by unfold cVar; simp_all) _ _ _); (intro v1 μ1 i1 hle1 hR); (dsimp only [List.cons_append, List.nil_append]); (have hmk0 := hmk0.mono hle1); (have hkx2 := hkx2.mono hle1); (have hdrp := hdrp.mono hle1); (have hp1 := hp1.mono hle1); (have hdv1 := hdv1.mono hle1); (have hm1 := hm1.mono hle1); (have hle := hle.trans hle1); refine D9 ?_))
    all_goals refine D8 ?_
    all_goals repeat' (first | refine KK ?_ | refine NB fun b => ?_ | ((refine KB ?_ ?_ <;> intro hp)) | refine KG ?_ | fail)
    all_goals
      refine gc_draw 8 _ (by kernel_rfl) rfl (List.Sublist.cons_cons _ (List.Sublist.cons_cons _ (List.Sublist.cons_cons _ (List.Sublist.cons_cons _ (List.nil_sublist _))))) ?_
      all_goals refine DD 0 ?_
      all_goals (first | refine D1 1 ?_ | (refine DV (k := 1) (b := by first | exact U1 0 | exact U4 hmk0) (c := ?_)) | refine DD 1 ?_ | fail)
      all_goals (first | refine D1 2 ?_ | (refine DV (k := 2) (b := by first | exact U1 0 | exact U4 hmk0) (c := ?_)) | (refine D3 2 (DW (b := by first | exact U1 0 | exact U4 hmk0) (c := ?_))) | refine DD 2 ?_ | fail)
      all_goals (first | refine D1 3 ?_ | (refine DV (k := 3) (b := by first | exact U1 0 | exact U4 hmk0) (c := ?_)) | refine DD 3 ?_ | fail)
      all_goals (first | refine D1 4 ?_ | (refine DV (k := 4) (b := by first | exact U1 0 | exact U4 hmk0) (c := ?_)) | (refine D3 4 (DW (b := by first | exact U1 0 | exact U4 hmk0) (c := ?_))) | refine DD 4 ?_ | fail)
      all_goals (first | refine D1 5 ?_ | (refine DV (k := 5) (b := by first | exact U1 0 | exact U4 hmk0) (c := ?_)) | (refine D3 5 (DW (b := by first | exact U1 0 | exact U4 hmk0) (c := ?_))) | refine DD 5 ?_ | fail)
      all_goals (first | refine D1 6 ?_ | (refine DV (k := 6) (b := by first | exact U1 0 | exact U4 hmk0) (c := ?_)) | (refine D3 6 (DW (b := by first | exact U1 0 | exact U4 hmk0) (c := ?_))) | refine DD 6 ?_ | fail)
      all_goals (first | (refine D3 7 ?_; refine D5 ?_; refine CF 34 ?_; (with_reducible apply g_ce 4); exact rfl; exact rfl; exact rfl; ((with_reducible apply e_call4); kernel_rfl; exact rfl; exact rfl; exact rfl; exact rfl); exact rfl; (exact hR); (exact hb1 xb mb _ _ _ p dd _ _ hkx2 hp1 hdv1 hddl (hB.mono (by omega)) (hsb1.mono (by omega)) hm1); (intro v1 μ1 i1 hle1 hR); (dsimp only [List.cons_append, List.nil_append]); (have hdrp := hdrp.mono hle1); (have hp1 := hp1.mono hle1); (have hm1 := hm1.mono hle1); (have hle := hle.trans hle1); refine D9 ?_))
      all_goals refine D8 ?_
    all_goals repeat' (first | refine KK ?_ | refine NB fun b => ?_ | ((refine KB ?_ ?_ <;> intro hp)) | refine KG ?_ | fail)
    all_goals
      refine gc_draw 6 _ (by kernel_rfl) rfl (List.Sublist.cons_cons _ (List.Sublist.cons_cons _ (List.Sublist.cons_cons _ (List.Sublist.cons_cons _ (List.nil_sublist _))))) ?_
      all_goals refine DD 0 ?_
      all_goals (first | refine D1 1 ?_ | (refine DV (k := 1) (b := by first | ((with_reducible apply v_slice_lo 1); exact rfl; exact rfl; exact rfl; exact rfl; omega; omega)) (c := ?_)) | refine DD 1 ?_ | fail)
      all_goals (first | refine D1 2 ?_ | (refine DV (k := 2) (b := by first | ((with_reducible apply v_slice_lo 1); exact rfl; exact rfl; exact rfl; exact rfl; omega; omega)) (c := ?_)) | (refine D3 2 (DW (b := by first | ((with_reducible apply v_slice_lo 1); exact rfl; exact rfl; exact rfl; exact rfl; omega; omega)) (c := ?_))) | refine DD 2 ?_ | fail)
      all_goals (first | refine D1 3 ?_ | (refine DV (k := 3) (b := by first | ((with_reducible apply v_slice_lo 1); exact rfl; exact rfl; exact rfl; exact rfl; omega; omega)) (c := ?_)) | refine DD 3 ?_ | fail)
      all_goals (first | refine D1 4 ?_ | (refine DV (k := 4) (b := by first | ((with_reducible apply v_slice_lo 1); exact rfl; exact rfl; exact rfl; exact rfl; omega; omega)) (c := ?_)) | (refine D3 4 (DW (b := by first | ((with_reducible apply v_slice_lo 1); exact rfl; exact rfl; exact rfl; exact rfl; omega; omega)) (c := ?_))) | refine DD 4 ?_ | fail)
      all_goals (first | (refine D3 5 ?_; refine D5 ?_; refine CF 13 ?_; (with_reducible apply g_ce 4); exact rfl; exact rfl; exact rfl; ((with_reducible apply e_call3); kernel_rfl; exact rfl; exact rfl; exact rfl); exact rfl; (exact hR); (exact eall_spec N (k.kids.drop 1) _ _ p _ _ xb mb hND hdrp hp1 (fun y hy => hB.mono (by have := (hdr y hy).2; omega)) hsb2 (by have := len_szs (k.kids.drop 1); omega) hm1); (intro v1 μ1 i1 hle1 hR); (dsimp only [List.cons_append, List.nil_append]); (have hle := hle.trans hle1); refine D9 ?_))
      all_goals refine D8 ?_
    all_goals repeat' (first | refine KK ?_ | refine NB fun b => ?_ | ((refine KB ?_ ?_ <;> intro hp)) | refine KG ?_ | fail)
    all_goals rw [hnext] at hR ⊢
    all_goals exact gq_backS (i + 1, μ1, i1) ⟨by dsimp only; omega, hle, hR⟩ (by dsimp only; omega) rfl PU (sel_1 (.refl _) (sel_1 (.refl _) (sel_1 (.refl _) (sel_drop _ (sel_all _)))))
  · have hil : i = t.kids.length := by omega
    subst hil
    rw [List.take_of_length_le (Nat.le_refl _)] at hR ⊢
    repeat' (first | refine KK ?_ | refine NB fun b => ?_ | ((refine KB ?_ ?_ <;> intro hp)) | refine KG ?_ | fail)
    all_goals try (exfalso; first | omega | contradiction)
    all_goals exact ret_ce 3 fs0 (by first | exact .inr rfl | exact .inl rfl) hcnt rfl rfl hs' hR
end Go.Proofs.YtfabmichdhbiaaaGreatDoor
namespace Go.Proofs.YtfabmichdhbiaaaGreatDoor
open Go.RowKit Go.Vcg Ou
theorem strictL_cons (s : T) (r : List T) : strictL (s :: r) = if s.op = 8 ∧ s.kids.length = 1 ∧ (kidE s 0).op = 31 then (if (kidE s 0).s = useStrict then true else strictL r) else false := rfl
theorem str_strict : useStrict = ⟨#[117, 115, 101, 32, 115, 116, 114, 105, 99, 116]⟩ := by decide +kernel
theorem simpleE_eq (t : T) : simpleE t = (decide (t.op = 5) && !(t.kids.any fun k => decide (k.op ≠ 34))) := by
  unfold simpleE
  congr 1
  induction t.kids with
  | nil => rfl
  | cons k r ih =>
    rw [List.all_cons, List.any_cons, ih]
    by_cases h : k.op = 34 <;> simp [h]
attribute [local irreducible] wdL anI famD mkD G GC GQ GA GAop Calls IntKind.wrap Int.decLt Int.decLe
theorem ebody_spec (t : T) (u : Value) (μ : Mem) (hk : KR μ t.kids u) (hl : t.kids.length ≤ 100000) : ∃ v, KR μ (bodyE t) v ∧ ∀ (w : World) (μ' : Mem), MOk μ' w → MLe μ μ' → Calls Tryz.prog 19 #[.agg (encT t u).toArray] w fun e w' => e = .returned v ∧ Below w.heap.size w w' := by
  obtain ⟨A, c, rfl, hcap, hget⟩ := hk.form
  unfold bodyE
  by_cases h1 : t.op = 1
  · rw [if_pos h1]
    refine ⟨_, hk, fun w μ' hw hle => ?_⟩
    refine call_intro (args := [.agg (encT t (.slice A t.kids.length c)).toArray]) Tryz.func19 rfl Tryz.ntmps19 (by simp) hw ?_
    repeat' (first | refine KK ?_ | refine NB fun b => ?_ | ((refine KB ?_ ?_ <;> intro hp)) | refine KG ?_ | fail)
    all_goals first | exact ret_s rfl rfl rfl | (exfalso; omega)
  rw [if_neg h1]
  by_cases h4 : t.op = 4 ∧ 1 < t.kids.length ∧ (kidE t 1).op = 6
  · rw [if_pos h4]
    obtain ⟨h4, h2, h6⟩ := h4
    obtain ⟨ad, x1, rfl, hm1, hox1, hk1⟩ := hget 1 _ (kidE_get (by omega))
    refine ⟨x1, hk1, fun w μ' hw hle => ?_⟩
    have hm1 := hm1.mono hle
    refine call_intro (args := [.agg (encT t (.slice (some ad) t.kids.length c)).toArray]) Tryz.func19 rfl Tryz.ntmps19 (by simp) hw ?_
    repeat' (first | refine KO ?_ | (refine KV (b := by first | exact U1 1 | exact U4 hm1) (c := ?_)) | refine KI ?_ | refine NB fun b => ?_ | ((refine KB ?_ ?_ <;> intro hp)) | refine KG ?_ | fail)
    all_goals first | exact ret_s rfl rfl rfl | (exfalso; first | omega | contradiction)
  rw [if_neg h4]
  refine ⟨.slice none 0 0, KR.nil _ _ _, fun w μ' hw hle => ?_⟩
  by_cases h40 : t.op = 4
  rotate_left
  · refine call_intro (args := [.agg (encT t (.slice A t.kids.length c)).toArray]) Tryz.func19 rfl Tryz.ntmps19 (by simp) hw ?_
    repeat' (first | refine KK ?_ | refine NB fun b => ?_ | ((refine KB ?_ ?_ <;> intro hp)) | refine KG ?_ | fail)
    all_goals first | exact ret_s rfl rfl rfl | (exfalso; omega)
  by_cases h2 : 1 < t.kids.length
  rotate_left
  · refine call_intro (args := [.agg (encT t (.slice A t.kids.length c)).toArray]) Tryz.func19 rfl Tryz.ntmps19 (by simp) hw ?_
    repeat' (first | refine KK ?_ | refine NB fun b => ?_ | ((refine KB ?_ ?_ <;> intro hp)) | refine KG ?_ | fail)
    all_goals first | exact ret_s rfl rfl rfl | (exfalso; omega)
  have h6 : ¬(kidE t 1).op = 6 := fun h => h4 ⟨h40, h2, h⟩
  obtain ⟨ad, x1, rfl, hm1, hox1, hk1⟩ := hget 1 _ (kidE_get (by omega))
  have hm1 := hm1.mono hle
  refine call_intro (args := [.agg (encT t (.slice (some ad) t.kids.length c)).toArray]) Tryz.func19 rfl Tryz.ntmps19 (by simp) hw ?_
  repeat' (first | refine KO ?_ | (refine KV (b := by first | exact U1 1 | exact U4 hm1) (c := ?_)) | refine KI ?_ | refine NB fun b => ?_ | ((refine KB ?_ ?_ <;> intro hp)) | refine KG ?_ | fail)
  all_goals first | exact ret_s rfl rfl rfl | (exfalso; first | omega | contradiction)
theorem estrict_spec (t : T) (u : Value) (w : World) (μ : Mem) (hw : MOk μ w) (hk : KR μ t.kids u) (hts : t.size ≤ 100000) : Calls Tryz.prog 14 #[.agg (encT t u).toArray] w fun e w' => e = .returned (.bool (strictE t)) ∧ Below w.heap.size w w' := by
  have hsz := size_szs t
  have hln := len_szs t.kids
  obtain ⟨v, hkv, hbody⟩ := ebody_spec t u μ hk (by omega)
  have hbl : (bodyE t).length ≤ 100000 := by
    unfold bodyE
    split
    · omega
    split
    · rename_i h
      obtain ⟨-, h2, -⟩ := h
      have h9 := len_szs (kidE t 1).kids
      have h8 := size_szs (kidE t 1)
      have h7 : (kidE t 1).size ≤ szs t.kids := T.sum_mem (List.mem_map.2 ⟨_, kidE_mem h2, rfl⟩)
      omega
    · exact Nat.zero_le _
  have hst : strictE t = strictL (bodyE t) := rfl
  rw [hst]
  have ou := hk.one
  generalize bodyE t = l at hkv hbody hbl
  obtain ⟨A, c, rfl, hcap, hget⟩ := hkv.form
  generalize hR : strictL l = R
  refine call_intro (args := [.agg (encT t u).toArray]) Tryz.func14 rfl Tryz.ntmps14 (by simp) hw ?_
  repeat' (first | refine KO ?_ | ((with_reducible apply F1 19); exact rfl; exact EN; (exact fun w μc hw hse => hbody w μc hw hse.le)) | refine KI ?_ | refine NB fun b => ?_ | ((refine KB ?_ ?_ <;> intro hp)) | refine KG ?_ | fail)
  refine gc_loop (ι := Nat) (fun i => i ≤ l.length ∧ strictL (l.drop i) = R) (fun i => l.length - i) (fun _ => μ) (fun i => [(8, .int .i64 (i : Int)), (7, .int .i64 (l.length : Int)), (6, .slice A l.length c)]) (fun _ => []) 0 ⟨Nat.zero_le _, hR⟩ (fun a w hs => J5 hs) ?_
  rintro i ⟨hi, hJ⟩
  by_cases hlt : i < l.length
  · obtain ⟨k, hkk⟩ : ∃ k, l[i]? = some k := ⟨_, List.getElem?_eq_getElem hlt⟩
    obtain ⟨ad, x, rfl, hm0, hox, hkx⟩ := hget i k hkk
    have hdr : l.drop i = k :: l.drop (i + 1) := by
      rw [List.drop_eq_getElem_cons hlt]
      congr 1
      exact (List.getElem?_eq_some_iff.1 hkk).2
    rw [hdr, strictL_cons] at hJ
    obtain ⟨A2, c2, rfl, hcap2, hget2⟩ := hkx.form
    by_cases h8 : k.op = 8
    rotate_left
    · rw [if_neg (fun h => h8 h.1)] at hJ
      subst hJ
      repeat' (first | refine KO ?_ | (refine KV (b := by first | exact U1 i | exact U4 hm0) (c := ?_)) | refine KI ?_ | refine NB fun b => ?_ | ((refine KB ?_ ?_ <;> intro hp)) | refine KG ?_ | fail)
      all_goals first | exact ret_s rfl rfl rfl | (exfalso; first | omega | contradiction)
    by_cases hl1 : k.kids.length = 1
    rotate_left
    · rw [if_neg (fun h => hl1 h.2.1)] at hJ
      subst hJ
      repeat' (first | refine KO ?_ | (refine KV (b := by first | exact U1 i | exact U4 hm0) (c := ?_)) | refine KI ?_ | refine NB fun b => ?_ | ((refine KB ?_ ?_ <;> intro hp)) | refine KG ?_ | fail)
      all_goals first | exact ret_s rfl rfl rfl | (exfalso; first | omega | contradiction)
    obtain ⟨ad2, x2, rfl, hmk0, hox2, hkx2⟩ := hget2 0 _ (kidE_get (by omega))
    by_cases h31 : (kidE k 0).op = 31
    rotate_left
    · rw [if_neg (fun h => h31 h.2.2)] at hJ
      subst hJ
      repeat' (first | refine KO ?_ | (refine KV (b := by first | exact U1 i | exact U1 0 | exact U4 hm0 | exact U4 hmk0) (c := ?_)) | refine KI ?_ | refine NB fun b => ?_ | ((refine KB ?_ ?_ <;> intro hp)) | refine KG ?_ | fail)
      all_goals first | exact ret_s rfl rfl rfl | (exfalso; first | omega | contradiction)
    rw [if_pos ⟨h8, hl1, h31⟩, str_strict] at hJ
    by_cases hu : (kidE k 0).s = ⟨#[117, 115, 101, 32, 115, 116, 114, 105, 99, 116]⟩
    · rw [if_pos hu] at hJ
      subst hJ
      repeat' (first | refine KO ?_ | (refine KV (b := by first | exact U1 i | exact U1 0 | exact U4 hm0 | exact U4 hmk0) (c := ?_)) | refine KI ?_ | refine NB fun b => ?_ | ((refine KB ?_ ?_ <;> intro hp)) | refine KG ?_ | fail)
      all_goals first | exact ret_s rfl rfl rfl | (exfalso; first | omega | contradiction)
    · rw [if_neg hu] at hJ
      repeat' (first | refine KO ?_ | (refine KV (b := by first | exact U1 i | exact U1 0 | exact U4 hm0 | exact U4 hmk0) (c := ?_)) | refine KI ?_ | refine NB fun b => ?_ | ((refine KB ?_ ?_ <;> intro hp)) | refine KG ?_ | fail)
      all_goals try (exfalso; first | omega | contradiction)
      all_goals exact J2 (i + 1) ⟨by omega, hJ⟩ (by omega)
  · rw [List.drop_of_length_le (by omega)] at hJ
    subst hJ
    repeat' (first | refine KK ?_ | refine NB fun b => ?_ | ((refine KB ?_ ?_ <;> intro hp)) | refine KG ?_ | fail)
    all_goals first | exact ret_s rfl rfl rfl | (exfalso; first | omega | contradiction)
theorem esimple1_spec (t : T) (u : Value) (w : World) (μ : Mem) (hw : MOk μ w) (ou : u.oneCell' = true) : Calls Tryz.prog 101 ([Value.agg (encT t u).toArray] ++ []).toArray w fun e w' => e = .returned (.bool (decide (t.op ≠ 34))) ∧ Below w.heap.size w w' := by
  refine call_intro (args := [.agg (encT t u).toArray]) Tryz.func101 rfl Tryz.ntmps101 (by simp) hw ?_
  repeat' (first | refine KK ?_ | refine NB fun b => ?_ | ((refine KB ?_ ?_ <;> intro hp)) | refine KG ?_ | fail)
  all_goals exact ret_s rfl rfl rfl
theorem esimple_spec (t : T) (u : Value) (w : World) (μ : Mem) (hw : MOk μ w) (hk : KR μ t.kids u) (hts : t.size ≤ 100000) : Calls Tryz.prog 69 #[.agg (encT t u).toArray] w fun e w' => e = .returned (.bool (simpleE t)) ∧ Below w.heap.size w w' := by
  have hsz := size_szs t
  have hln := len_szs t.kids
  have hk0 := hk
  obtain ⟨A, c, rfl, hcap, hget⟩ := hk.form
  rw [simpleE_eq]
  have hcon := fun (w : World) (μc : Mem) (hw : MOk μc w) (hle : MLe μ μc) => containsN_spec 101 [] (fun k => decide (k.op ≠ 34)) t.kids A t.kids.length c w μc hw (by kernel_rfl) (hk0.mono hle) rfl (fun k x w μ' _ hw' hle' hkx => esimple1_spec k x w μ' hw' hkx.one) (by omega)
  generalize (t.kids.any fun k => decide (k.op ≠ 34)) = q at hcon ⊢
  refine call_intro (args := [.agg (encT t (.slice A t.kids.length c)).toArray]) Tryz.func69 rfl Tryz.ntmps69 (by simp) hw ?_
  repeat' (first | refine KO ?_ | ((with_reducible apply C1); exact rfl; exact EN; (exact fun w μc hw hse => hcon w μc hw hse.le)) | refine KI ?_ | refine NB fun b => ?_ | ((refine KB ?_ ?_ <;> intro hp)) | refine KG ?_ | fail)
  all_goals refine ret_s rfl rfl ?_
  all_goals simp_all
end Go.Proofs.YtfabmichdhbiaaaGreatDoor
