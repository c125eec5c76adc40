/- Package early: node, walked. (and what leans on it). No statement of the seat is proved here. -/
import Derived.Test.YtfabmichdhbiaaaGreatDoorQap
import Derived.Test.YtfabmichdhbiaaaGreatDoorQae
import Derived.Test.YtfabmichdhbiaaaGreatDoorQag
set_option maxRecDepth 20000
set_option maxHeartbeats 2000000
namespace Go.Proofs.YtfabmichdhbiaaaGreatDoor
open Go.RowKit Go.Vcg Ou
attribute [local irreducible] wdL anI famD mkD G GC GQ GA GAop Calls IntKind.wrap Int.decLt Int.decLe
theorem PV.form {μ : Mem} {p : EP} {v : Value} (h : PV μ p v) : ∃ Ar cr Al cl Ao co Am cm, v = .agg (encPl p (.slice Ar p.regs.length cr) (.slice Al p.labels.length cl) (.slice Ao p.loops.length co) (.slice Am p.mine.length cm)).toArray ∧ IsV μ (.slice Ar p.regs.length cr) p.regs ∧ SsV μ (.slice Al p.labels.length cl) p.labels ∧ SsV μ (.slice Ao p.loops.length co) p.loops ∧ SsV μ (.slice Am p.mine.length cm) p.mine := by
  obtain ⟨r, lb, lo, mi, rfl, h1, h2, h3, h4⟩ := h
  have e1 := h1
  have e2 := h2
  have e3 := h3
  have e4 := h4
  obtain ⟨Ar, cr, rfl, -, -⟩ := e1
  obtain ⟨Al, cl, rfl, -, -⟩ := e2
  obtain ⟨Ao, co, rfl, -, -⟩ := e3
  obtain ⟨Am, cm, rfl, -, -⟩ := e4
  exact ⟨_, _, _, _, _, _, _, _, rfl, h1, h2, h3, h4⟩
theorem enode_spec (N : T → EP → ES → ES) (B : T → EP → ED → ES → ES) (t : T) (hq : AllN qE t) (hts : t.size ≤ 80000) (hNN : ∀ k, AllN qE k → k.size < t.size → NCk N k ∧ NG N k) (hBB : ∀ k, AllN qE k → k.size < t.size → BCk B k ∧ BG B k) : NCk (nodeE wdF N B) t := by
  intro xb mb u pv p s μ hk hp hB hS hm
  intro w fs hμ hR hO
  have hcnt := ids_count hO.diff
  have hp0 := hp
  obtain ⟨Ar, cr, Al, cl, Ao, co, Am, cm, rfl, hpr, hplb, hplo, hmi⟩ := hp.form
  have ou := hk.one
  have hrl := hB.regs
  have hbl := hB.labels
  have hll := hB.loops
  have hne := hB.ne
  have hts9 := hq.here.2
  have hsz := size_szs t
  have hlen0 := len_szs t.kids
  have hlen : t.kids.length ≤ 100000 := by omega
  have hlek : ∀ k ∈ t.kids, k.size < t.size := fun k hk => by
    have : k.size ≤ szs t.kids := T.sum_mem (List.mem_map.2 ⟨k, hk, rfl⟩)
    omega
  have hN : ∀ k ∈ t.kids, NCk N k ∧ NG N k := fun k hk => hNN k (hq.kid hk) (hlek k hk)
  have hregs : s.regs ≤ 1000000 := by
    unfold SB at hS
    omega
  have hsbw : SB (withS s) (szs t.kids) := by
    have := (gr_with (F := FF) s).wt
    unfold SB at hS ⊢
    omega
  obtain ⟨A, c, rfl, hcap, hget⟩ := hk.form
  generalize hs' : nodeE wdF N B t p s = s'
  unfold nodeE at hs'
  dsimp only at hs'
  refine call_introM (args := [.pointer (some ⟨xb, 0, none⟩), .agg (encT t (.slice A t.kids.length c)).toArray, .agg (encPl p (.slice Ar p.regs.length cr) (.slice Al p.labels.length cl) (.slice Ao p.loops.length co) (.slice Am p.mine.length cm)).toArray]) Tryz.func18 rfl Tryz.ntmps18 (by simp) hμ hO ?_
  refine gc_LEq (EB_eq xb mb s fs) ?_
  by_cases he : s.e = 0
  rotate_left
  · rw [if_pos he] at hs'
    repeat' (first | refine KK ?_ | refine NB fun b => ?_ | ((refine KB ?_ ?_ <;> intro hp)) | refine KG ?_ | fail)
    all_goals try (exfalso; first | omega | contradiction)
    all_goals exact ret_ce 2 fs (by first | exact .inr rfl | exact .inl rfl) hcnt rfl rfl hs' hR
  rw [if_neg (fun h => h he)] at hs'
  repeat' (first | refine KK ?_ | refine NB fun b => ?_ | ((refine KB ?_ ?_ <;> intro hp)) | refine KG ?_ | fail)
  all_goals try (exfalso; first | omega | contradiction)
  rename_i bn
  obtain ⟨bp, hbp⟩ : ∃ y, y = b := ⟨_, rfl⟩
  rw [← hbp]
  clear hbp
  refine gc_draw 9 _ (by kernel_rfl) rfl (List.Sublist.cons_cons _ (List.Sublist.cons_cons _ (List.nil_sublist _))) ?_
  all_goals refine DD 0 ?_
  all_goals refine DD 1 ?_
  all_goals refine DD 2 ?_
  all_goals refine DD 3 ?_
  all_goals refine DD 4 ?_
  all_goals refine DD 5 ?_
  all_goals refine DD 6 ?_
  all_goals refine DD 7 ?_
  all_goals refine DD 8 ?_
  all_goals refine D8 ?_
  repeat' (first | ((with_reducible show GC _ _ (Code.seq (Code.region 4 _ _) _) _ _ _ _); (apply gc_stop)) | refine KK ?_ | refine NB fun b => ?_ | ((refine KB ?_ ?_ <;> intro hp)) | refine KG ?_ | fail)
  refine gcs (gc_sel (l' := [(0, .pointer (some ⟨xb, 0, none⟩)), (4, .pointer (some ⟨bn, 0, none⟩)), (5, .pointer (some ⟨bp, 0, none⟩)), (6, (.slice Am p.mine.length cm)), (7, .bool p.own), (8, .bool p.each)]) (L' := .inl ⟨bp, 47, 12, idx 0 (encPl (baseP p) (.slice Ar p.regs.length cr) (.slice Al p.labels.length cl) (.slice Ao p.loops.length co) (.slice none 0 0))⟩ :: .inl ⟨bn, 27, 6, idx 0 (encT t (.slice A t.kids.length c))⟩ :: EB xb mb s fs) PU (sel_0 (.cells PU) (sel_all _)) ?_)
  have hpq : PV μ (baseP p) (.agg (encPl (baseP p) (.slice Ar p.regs.length cr) (.slice Al p.labels.length cl) (.slice Ao p.loops.length co) (.slice none 0 0)).toArray) := ⟨_, _, _, _, rfl, hpr, hplb, hplo, SsV.nil _⟩
  have hPBq : ∀ n, n ≤ t.size → PB (baseP p) n := fun n hn => ⟨hne, by show p.regs.length + n ≤ 90000; omega, by show p.labels.length + n ≤ 90000; omega, by show p.loops.length + 0 ≤ p.labels.length; omega⟩
  have hPBw : ∀ s n, n < t.size → PB (withP (baseP p) s) n := fun s n hn => ⟨by show 0 < (p.regs ++ _).length; simp, by show (p.regs ++ _).length + n ≤ 90000; rw [List.length_append, List.length_singleton]; omega, by show p.labels.length + n ≤ 90000; omega, by show p.loops.length + 0 ≤ p.labels.length; omega⟩
  have hPBl : ∀ x n, n < t.size → PB { baseP p with labels := p.labels ++ [x], mine := p.mine ++ [x] } n := fun x n hn => ⟨hne, by show p.regs.length + n ≤ 90000; omega, by show (p.labels ++ [x]).length + n ≤ 90000; rw [List.length_append, List.length_singleton]; omega, by show p.loops.length + (p.mine ++ [x]).length ≤ (p.labels ++ [x]).length; rw [List.length_append, List.length_append, List.length_singleton]; omega⟩
  have hqm : (baseP p).loops.length + p.mine.length + (baseP p).mine.length ≤ (baseP p).labels.length := by show p.loops.length + p.mine.length + 0 ≤ p.labels.length; omega
  have hqr : (baseP p).regs.length ≤ 100000 := by show p.regs.length ≤ _; omega
  have hql : (baseP p).labels = p.labels := rfl
  have hqo : (baseP p).loops = p.loops := rfl
  have hqg : (baseP p).regs = p.regs := rfl
  have hwl : ∀ s, (withP (baseP p) s).regs.length ≤ 100000 := fun s => by show (p.regs ++ _).length ≤ _; rw [List.length_append, List.length_singleton]; omega
  have hwn : ∀ s, 0 < (withP (baseP p) s).regs.length := fun s => by show 0 < (p.regs ++ _).length; simp
  generalize baseP p = q at hs' hpq hPBq hPBw hPBl hqm hqr hql hqo hqg hwl hwn ⊢
  by_cases h2 : t.op = 2
  · rw [if_pos h2] at hs'
    repeat' (first | refine KO ?_ | (refine CF 31 ?_; (with_reducible apply g_ce 2); exact rfl; exact rfl; exact rfl; ((with_reducible apply e_call4); kernel_rfl; exact rfl; exact rfl; exact rfl; exact rfl); exact rfl; (exact hR); (exact evars_spec N B t hq h2 hts hNN hBB xb mb _ _ q p.each s _ hk hpq (hPBq _ (Nat.le_refl _)) hS hm); (intro v1 μ1 i1 hle1 hR); (dsimp only [List.cons_append, List.nil_append])) | refine KI ?_ | refine NB fun b => ?_ | ((refine KB ?_ ?_ <;> intro hp)) | refine KG ?_ | fail)
    all_goals try (exfalso; first | omega | contradiction)
    all_goals exact ret_ce 2 i1 (by first | exact .inr rfl | exact .inl rfl) hcnt rfl rfl hs' hR
  rw [if_neg h2] at hs'
  by_cases h4 : t.op = 4
  · rw [if_pos h4] at hs'
    repeat' (first | refine KO ?_ | (refine CF 32 ?_; (with_reducible apply g_ce 2); exact rfl; exact rfl; exact rfl; ((with_reducible apply e_call4); kernel_rfl; exact rfl; exact rfl; exact rfl; exact rfl); exact rfl; (exact hR); (exact efun_spec N B t hq h4 hts hNN hBB xb mb _ _ q p.own s _ hk hpq (hPBq _ (Nat.le_refl _)) hS hm); (intro v1 μ1 i1 hle1 hR); (dsimp only [List.cons_append, List.nil_append])) | refine KI ?_ | refine NB fun b => ?_ | ((refine KB ?_ ?_ <;> intro hp)) | refine KG ?_ | fail)
    all_goals try (exfalso; first | omega | contradiction)
    all_goals exact ret_ce 2 i1 (by first | exact .inr rfl | exact .inl rfl) hcnt rfl rfl hs' hR
  rw [if_neg h4] at hs'
  by_cases h6 : t.op = 6
  · rw [if_pos h6] at hs'
    repeat' (first | refine KK ?_ | refine NB fun b => ?_ | ((refine KB ?_ ?_ <;> intro hp)) | refine KG ?_ | fail)
    all_goals try (exfalso; first | omega | contradiction)
    refine gc_draw 7 _ (by kernel_rfl) rfl (List.Sublist.cons_cons _ (List.Sublist.cons_cons _ (List.nil_sublist _))) ?_
    all_goals refine DD 0 ?_
    all_goals refine DD 1 ?_
    all_goals refine DD 2 ?_
    all_goals refine DD 3 ?_
    all_goals refine DD 4 ?_
    all_goals (first | (refine D3 5 ?_; refine D5 ?_; (first | (refine CF 33 ?_; (with_reducible apply g_cer 2); exact rfl; exact rfl; exact rfl; ((with_reducible apply e_call2); kernel_rfl; exact rfl; exact rfl); exact rfl; (exact hR); (exact with_spec xb mb q _ s _ hpq hqr hregs); (intro v1 μ1 i1 hle1 hR hP1); (dsimp only [List.cons_append, List.nil_append]); (have hk := hk.mono hle1); (have hm := hm.mono hle1)) | (refine CF 13 ?_; (with_reducible apply g_ce 2); exact rfl; exact rfl; exact rfl; ((with_reducible apply e_call3); kernel_rfl; exact rfl; exact rfl; exact rfl); exact rfl; (exact hR); (exact eall_spec N t.kids _ _ (withP q s) (withS s) _ xb mb hN hk hP1 (fun y hy => hPBw s _ (hlek y hy)) hsbw hlen hm); (intro v1 μ1 i1 hle1 hR); (dsimp only [List.cons_append, List.nil_append]))); refine D9 ?_))
    all_goals (first | (refine D3 6 ?_; refine D5 ?_; (first | (refine CF 33 ?_; (with_reducible apply g_cer 2); exact rfl; exact rfl; exact rfl; ((with_reducible apply e_call2); kernel_rfl; exact rfl; exact rfl); exact rfl; (exact hR); (exact with_spec xb mb q _ s _ hpq hqr hregs); (intro v1 μ1 i1 hle1 hR hP1); (dsimp only [List.cons_append, List.nil_append]); (have hk := hk.mono hle1); (have hm := hm.mono hle1)) | (refine CF 13 ?_; (with_reducible apply g_ce 2); exact rfl; exact rfl; exact rfl; ((with_reducible apply e_call3); kernel_rfl; exact rfl; exact rfl; exact rfl); exact rfl; (exact hR); (exact eall_spec N t.kids _ _ (withP q s) (withS s) _ xb mb hN hk hP1 (fun y hy => hPBw s _ (hlek y hy)) hsbw hlen hm); (intro v1 μ1 i1 hle1 hR); (dsimp only [List.cons_append, List.nil_append]))); refine D9 ?_))
    all_goals refine D8 ?_
    all_goals repeat' (first | refine KK ?_ | refine NB fun b => ?_ | ((refine KB ?_ ?_ <;> intro hp)) | refine KG ?_ | fail)
    all_goals exact ret_ce 2 i1 (by first | exact .inr rfl | exact .inl rfl) hcnt rfl rfl hs' hR
  rw [if_neg h6] at hs'
  by_cases h20 : t.op = 20
  · rw [if_pos h20] at hs'
    have hk2 := hq.here.1.two (by simp [h20])
    obtain ⟨rr, hrr⟩ := kids2 hk2
    have hz := hsz
    rw [hrr, szs_cons, szs_cons] at hz hsbw
    have hz1 := size_szs (kidE t 1)
    obtain ⟨ad, x0, rfl, hm0, hox0, hk0⟩ := hget 0 _ (kidE_get (by omega))
    obtain ⟨ad', x1, e, hm1, hox1, hk1⟩ := hget 1 _ (kidE_get (by omega))
    cases e
    have ha1 := hq.kid (kidE_mem (t := t) (i := 1) (by omega))
    have hl1 := len_szs (kidE t 1).kids
    obtain ⟨hb0, hg0⟩ := hBB _ (hq.kid (kidE_mem (t := t) (i := 0) (by omega))) (by omega)
    have hND : ∀ y ∈ (kidE t 1).kids, (NCk N y ∧ NG N y) ∧ y.size < t.size := fun y hy => by
      have : y.size ≤ szs (kidE t 1).kids := T.sum_mem (List.mem_map.2 ⟨y, hy, rfl⟩)
      exact ⟨hNN y (ha1.kid hy) (by omega), by omega⟩
    repeat' (first | ((with_reducible show GC _ _ (Code.seq (Code.region 14 _ _) _) _ _ _ _); (apply gc_stop)) | refine KO ?_ | (refine CF 33 ?_; (with_reducible apply g_cer 2); exact rfl; exact rfl; exact rfl; ((with_reducible apply e_call2); kernel_rfl; exact rfl; exact rfl); exact rfl; (exact hR); (exact with_spec xb mb q _ s _ hpq hqr hregs); (intro v1 μ1 i1 hle1 hR hP1); (dsimp only [List.cons_append, List.nil_append]); (obtain ⟨r2, lb2, lo2, mi2, rfl, hr2, hlb2, hlo2, hmi2⟩ := hP1); (have q1 := hr2.one); (have q2 := hlb2.one); (have q3 := hlo2.one); (have q4 := hmi2.one); (have hr2f := hr2); (obtain ⟨A2, c2, rfl, -, -⟩ := hr2f)) | refine KI ?_ | refine NB fun b => ?_ | ((refine KB ?_ ?_ <;> intro hp)) | refine KG ?_ | fail)
    all_goals try (exfalso; first | omega | contradiction)
    have hPw := hPBw s
    have hwl := hwl s
    have hwn := hwn s
    generalize withP q s = q2 at hs' hr2 hlb2 hlo2 hmi2 hPw hwl hwn ⊢
    refine gcs ?_
    have hp2 : PV μ1 q2 (.agg (encPl q2 (.slice A2 q2.regs.length c2) lb2 lo2 mi2).toArray) := ⟨_, _, _, _, rfl, hr2, hlb2, hlo2, hmi2⟩
    obtain ⟨nv, hnv, hnear⟩ := near_spec μ1 q2 _ hp2 hwn (by omega)
    have hnv0 := hnv
    obtain ⟨An, cn, rfl, -, -⟩ := hnv0
    have hnl : (nearE q2).length ≤ 100000 := by
      unfold nearE
      rw [List.length_drop]
      omega
    have hm0 := hm0.mono hle1
    have hk0 := hk0.mono hle1
    have hm1 := hm1.mono hle1
    have hk1 := hk1.mono hle1
    have hm := hm.mono hle1
    have hsb1 := SB.gr (n := (kidE t 0).size) (m := szs (kidE t 1).kids) (hsbw.mono (by omega)) (hg0 q2 ⟨true, nearE q2, 0, false⟩ (withS s))
    repeat' (first | refine KK ?_ | refine NB fun b => ?_ | ((refine KB ?_ ?_ <;> intro hp)) | refine KG ?_ | fail)
    refine gc_draw 10 _ (by kernel_rfl) rfl (List.Sublist.cons_cons _ (List.Sublist.cons_cons _ (List.nil_sublist _))) ?_
    all_goals refine DD 0 ?_
    all_goals (first | refine D1 1 ?_ | (refine DV (k := 1) (b := by first | exact U1 0 | exact U4 hm0) (c := ?_)) | refine DD 1 ?_ | fail)
    all_goals (first | refine D1 2 ?_ | (refine DV (k := 2) (b := by first | exact U1 0 | exact U4 hm0) (c := ?_)) | (refine D3 2 (DW (b := by first | exact U1 0 | exact U4 hm0) (c := ?_))) | refine DD 2 ?_ | fail)
    all_goals (first | refine D1 3 ?_ | (refine DV (k := 3) (b := by first | exact U1 0 | exact U4 hm0) (c := ?_)) | refine DD 3 ?_ | fail)
    all_goals (first | refine D1 4 ?_ | (refine DV (k := 4) (b := by first | exact U1 0 | exact U4 hm0) (c := ?_)) | (refine D3 4 (DW (b := by first | exact U1 0 | exact U4 hm0) (c := ?_))) | refine DD 4 ?_ | fail)
    all_goals (first | refine D1 5 ?_ | (refine DV (k := 5) (b := by first | exact U1 0 | exact U4 hm0) (c := ?_)) | (refine D3 5 (DW (b := by first | exact U1 0 | exact U4 hm0) (c := ?_))) | refine DD 5 ?_ | fail)
    all_goals (first | refine D1 6 ?_ | (refine DV (k := 6) (b := by first | exact U1 0 | exact U4 hm0) (c := ?_)) | (refine D3 6 (DW (b := by first | exact U1 0 | exact U4 hm0) (c := ?_))) | refine DD 6 ?_ | fail)
    all_goals (first | (refine D3 7 ?_; refine D5 ?_; (first | ((with_reducible apply F1 35); exact rfl; exact EN; (exact fun w μc hw hse => hnear w μc hw hse.le)) | (refine CF 34 ?_; (with_reducible apply g_ce 2); exact rfl; exact rfl; exact rfl; ((with_reducible apply e_call4); kernel_rfl; exact rfl; exact rfl; exact rfl; exact rfl); exact rfl; (exact hR); (exact hb0 xb mb _ _ _ q2 ⟨true, nearE q2, 0, false⟩ _ _ hk0 hp2 hnv hnl (hPw _ (by omega)) (hsbw.mono (by omega)) hm); (intro v1 μ1 i1 hle1 hR); (dsimp only [List.cons_append, List.nil_append]); (have hm1 := hm1.mono hle1); (have hk1 := hk1.mono hle1); (have hp2 := hp2.mono hle1); (have hm := hm.mono hle1))); refine D9 ?_))
    all_goals refine DD 8 ?_
    all_goals (first | (refine D3 9 ?_; refine D5 ?_; (first | ((with_reducible apply F1 35); exact rfl; exact EN; (exact fun w μc hw hse => hnear w μc hw hse.le)) | (refine CF 34 ?_; (with_reducible apply g_ce 2); exact rfl; exact rfl; exact rfl; ((with_reducible apply e_call4); kernel_rfl; exact rfl; exact rfl; exact rfl; exact rfl); exact rfl; (exact hR); (exact hb0 xb mb _ _ _ q2 ⟨true, nearE q2, 0, false⟩ _ _ hk0 hp2 hnv hnl (hPw _ (by omega)) (hsbw.mono (by omega)) hm); (intro v1 μ1 i1 hle1 hR); (dsimp only [List.cons_append, List.nil_append]); (have hm1 := hm1.mono hle1); (have hk1 := hk1.mono hle1); (have hp2 := hp2.mono hle1); (have hm := hm.mono hle1))); refine D9 ?_))
    all_goals refine D8 ?_
    all_goals repeat' (first | refine KK ?_ | refine NB fun b => ?_ | ((refine KB ?_ ?_ <;> intro hp)) | refine KG ?_ | fail)
    all_goals
      refine gc_draw 8 _ (by kernel_rfl) rfl (List.Sublist.cons_cons _ (List.Sublist.cons_cons _ (List.nil_sublist _))) ?_
      all_goals refine DD 0 ?_
      all_goals (first | refine D1 1 ?_ | (refine DV (k := 1) (b := by first | exact U1 1 | exact U4 hm1) (c := ?_)) | refine DD 1 ?_ | fail)
      all_goals (first | refine D1 2 ?_ | (refine DV (k := 2) (b := by first | exact U1 1 | exact U4 hm1) (c := ?_)) | (refine D3 2 (DW (b := by first | exact U1 1 | exact U4 hm1) (c := ?_))) | refine DD 2 ?_ | fail)
      all_goals (first | refine D1 3 ?_ | (refine DV (k := 3) (b := by first | exact U1 1 | exact U4 hm1) (c := ?_)) | refine DD 3 ?_ | fail)
      all_goals (first | refine D1 4 ?_ | (refine DV (k := 4) (b := by first | exact U1 1 | exact U4 hm1) (c := ?_)) | refine DD 4 ?_ | fail)
      all_goals (first | refine D1 5 ?_ | (refine DV (k := 5) (b := by first | exact U1 1 | exact U4 hm1) (c := ?_)) | (refine D3 5 (DW (b := by first | exact U1 1 | exact U4 hm1) (c := ?_))) | refine DD 5 ?_ | fail)
      all_goals (first | refine D1 6 ?_ | (refine DV (k := 6) (b := by first | exact U1 1 | exact U4 hm1) (c := ?_)) | (refine D3 6 (DW (b := by first | exact U1 1 | exact U4 hm1) (c := ?_))) | refine DD 6 ?_ | fail)
      all_goals (first | (refine D3 7 ?_; refine D5 ?_; refine CF 13 ?_; (with_reducible apply g_ce 2); exact rfl; exact rfl; exact rfl; ((with_reducible apply e_call3); kernel_rfl; exact rfl; exact rfl; exact rfl); exact rfl; (exact hR); (exact eall_spec N (kidE t 1).kids _ _ q2 _ _ xb mb (fun y hy => (hND y hy).1) hk1 hp2 (fun y hy => hPw _ (hND y hy).2) hsb1 (by omega) hm); (intro v1 μ1 i1 hle1 hR); (dsimp only [List.cons_append, List.nil_append]); refine D9 ?_))
      all_goals refine D8 ?_
    all_goals repeat' (first | refine KK ?_ | refine NB fun b => ?_ | ((refine KB ?_ ?_ <;> intro hp)) | refine KG ?_ | fail)
    all_goals exact ret_ce 2 i1 (by first | exact .inr rfl | exact .inl rfl) hcnt rfl rfl hs' hR
  rw [if_neg h20] at hs'
  by_cases h10 : t.op = 10 ∨ t.op = 11 ∨ t.op = 12 ∨ t.op = 13 ∨ t.op = 14
  · rw [if_pos h10] at hs'
    have h10' := h10
    rcases h10' with h | h | h | h | h
    all_goals repeat' (first | refine KO ?_ | (refine CF 36 ?_; (with_reducible apply g_ce 2); exact rfl; exact rfl; exact rfl; ((with_reducible apply e_call4); kernel_rfl; exact rfl; exact rfl; exact rfl; exact rfl); exact rfl; (exact hR); (exact eloop_spec N t hq h10 hts hNN xb mb _ _ _ q p.mine s _ hk hpq hmi (hPBq _ (Nat.le_refl _)) hqm hS hm); (intro v1 μ1 i1 hle1 hR); (dsimp only [List.cons_append, List.nil_append])) | refine KI ?_ | refine NB fun b => ?_ | ((refine KB ?_ ?_ <;> intro hp)) | refine KG ?_ | fail)
    all_goals try (exfalso; first | omega | contradiction)
    all_goals exact ret_ce 2 i1 (by first | exact .inr rfl | exact .inl rfl) hcnt rfl rfl hs' hR
  rw [if_neg h10] at hs'
  by_cases h21 : t.op = 21
  · rw [if_pos h21] at hs'
    have hk1 := hq.here.1.one (by omega)
    have hz := hsz
    rw [kids1 hk1, szs_cons] at hz
    obtain ⟨ad, x0, rfl, hm0, hox0, hk0⟩ := hget 0 _ (kidE_get (by omega))
    obtain ⟨hn0, hg0⟩ := hN _ (kidE_mem (t := t) (i := 0) (by omega))
    have hdr : ∀ y ∈ t.kids.drop 1, y ∈ t.kids := fun y hy => List.mem_of_mem_drop hy
    have hdp := hk.drop1 (by omega)
    have hld := len_szs (t.kids.drop 1)
    have hgA := (hg0 q s).trans (gr_with (F := FF) (N (kidE t 0) q s)) (Nat.le_refl _)
    have hsbA : SB (withS (N (kidE t 0) q s)) (szs (t.kids.drop 1)) := by
      have := hgA.wt
      unfold SB at hS ⊢
      omega
    have hregA : (N (kidE t 0) q s).regs ≤ 1000000 := by
      have := (hg0 q s).wt
      unfold SB at hS
      omega
    repeat' (first | refine KK ?_ | refine NB fun b => ?_ | ((refine KB ?_ ?_ <;> intro hp)) | refine KG ?_ | fail)
    all_goals try (exfalso; first | omega | contradiction)
    refine gc_draw 7 _ (by kernel_rfl) rfl (List.Sublist.cons_cons _ (List.Sublist.cons_cons _ (List.nil_sublist _))) ?_
    all_goals refine DD 0 ?_
    all_goals (first | refine D1 1 ?_ | (refine DV (k := 1) (b := by first | exact U1 0 | exact U4 hm0) (c := ?_)) | refine DD 1 ?_ | fail)
    all_goals (first | refine D1 2 ?_ | (refine DV (k := 2) (b := by first | exact U1 0 | exact U4 hm0) (c := ?_)) | (refine D3 2 (DW (b := by first | exact U1 0 | exact U4 hm0) (c := ?_))) | refine DD 2 ?_ | fail)
    all_goals (first | refine D1 3 ?_ | (refine DV (k := 3) (b := by first | exact U1 0 | exact U4 hm0) (c := ?_)) | refine DD 3 ?_ | fail)
    all_goals (first | refine D1 4 ?_ | (refine DV (k := 4) (b := by first | exact U1 0 | exact U4 hm0) (c := ?_)) | (refine D3 4 (DW (b := by first | exact U1 0 | exact U4 hm0) (c := ?_))) | refine DD 4 ?_ | fail)
    all_goals (first | refine D1 5 ?_ | (refine DV (k := 5) (b := by first | exact U1 0 | exact U4 hm0) (c := ?_)) | (refine D3 5 (DW (b := by first | exact U1 0 | exact U4 hm0) (c := ?_))) | refine DD 5 ?_ | fail)
    all_goals (first | (refine D3 6 ?_; refine D5 ?_; refine CF 18 ?_; (with_reducible apply g_ce 2); exact rfl; exact rfl; exact rfl; ((with_reducible apply e_call3); kernel_rfl; exact rfl; exact rfl; exact rfl); exact rfl; (exact hR); (exact hn0 xb mb _ _ q s _ hk0 hpq (hPBq _ (by omega)) (hS.mono (by omega)) hm); (intro v1 μ1 i1 hle1 hR); (dsimp only [List.cons_append, List.nil_append]); (have hdp := hdp.mono hle1); (have hpq := hpq.mono hle1); (have hm := hm.mono hle1); refine D9 ?_))
    all_goals refine D8 ?_
    all_goals repeat' (first | ((with_reducible show GC _ _ (Code.seq (Code.region 25 _ _) _) _ _ _ _); (apply gc_stop)) | refine KO ?_ | (refine CF 33 ?_; (with_reducible apply g_cer 2); exact rfl; exact rfl; exact rfl; ((with_reducible apply e_call2); kernel_rfl; exact rfl; exact rfl); exact rfl; (exact hR); (exact with_spec xb mb q _ (N (kidE t 0) q s) _ hpq hqr hregA); (intro v1 μ1 i1 hle1 hR hP1); (dsimp only [List.cons_append, List.nil_append]); (have hdp := hdp.mono hle1); (have hm := hm.mono hle1); (obtain ⟨r2, lb2, lo2, mi2, rfl, hr2, hlb2, hlo2, hmi2⟩ := hP1); (have q1 := hr2.one); (have q2 := hlb2.one); (have q3 := hlo2.one); (have q4 := hmi2.one); (have hr2f := hr2); (obtain ⟨A2, c2, rfl, -, -⟩ := hr2f)) | refine KI ?_ | refine NB fun b => ?_ | ((refine KB ?_ ?_ <;> intro hp)) | refine KG ?_ | fail)
    have hPw := hPBw (N (kidE t 0) q s)
    generalize withP q (N (kidE t 0) q s) = q2 at hs' hr2 hlb2 hlo2 hmi2 hPw ⊢
    refine gcs ?_
    repeat' (first | refine KK ?_ | refine NB fun b => ?_ | ((refine KB ?_ ?_ <;> intro hp)) | refine KG ?_ | fail)
    refine gc_draw 6 _ (by kernel_rfl) rfl (List.Sublist.cons_cons _ (List.Sublist.cons_cons _ (List.nil_sublist _))) ?_
    all_goals refine DD 0 ?_
    all_goals (first | refine D1 1 ?_ | (refine DV (k := 1) (b := by first | ((with_reducible apply v_slice_lo 1); exact rfl; exact rfl; exact rfl; exact rfl; omega; omega)) (c := ?_)) | refine DD 1 ?_ | fail)
    all_goals (first | refine D1 2 ?_ | (refine DV (k := 2) (b := by first | ((with_reducible apply v_slice_lo 1); exact rfl; exact rfl; exact rfl; exact rfl; omega; omega)) (c := ?_)) | (refine D3 2 (DW (b := by first | ((with_reducible apply v_slice_lo 1); exact rfl; exact rfl; exact rfl; exact rfl; omega; omega)) (c := ?_))) | refine DD 2 ?_ | fail)
    all_goals (first | refine D1 3 ?_ | (refine DV (k := 3) (b := by first | ((with_reducible apply v_slice_lo 1); exact rfl; exact rfl; exact rfl; exact rfl; omega; omega)) (c := ?_)) | refine DD 3 ?_ | fail)
    all_goals (first | refine D1 4 ?_ | (refine DV (k := 4) (b := by first | ((with_reducible apply v_slice_lo 1); exact rfl; exact rfl; exact rfl; exact rfl; omega; omega)) (c := ?_)) | (refine D3 4 (DW (b := by first | ((with_reducible apply v_slice_lo 1); exact rfl; exact rfl; exact rfl; exact rfl; omega; omega)) (c := ?_))) | refine DD 4 ?_ | fail)
    all_goals (first | (refine D3 5 ?_; refine D5 ?_; refine CF 13 ?_; (with_reducible apply g_ce 2); exact rfl; exact rfl; exact rfl; ((with_reducible apply e_call3); kernel_rfl; exact rfl; exact rfl; exact rfl); exact rfl; (exact hR); (exact eall_spec N (t.kids.drop 1) _ _ { q2 with choice := true } _ _ xb mb (fun y hy => hN y (hdr y hy)) hdp ⟨_, _, _, _, rfl, hr2, hlb2, hlo2, hmi2⟩ (fun y hy => ⟨(hPw _ (hlek y (hdr y hy))).ne, (hPw _ (hlek y (hdr y hy))).regs, (hPw _ (hlek y (hdr y hy))).labels, (hPw _ (hlek y (hdr y hy))).loops⟩) hsbA (by omega) hm); (intro v1 μ1 i1 hle1 hR); (dsimp only [List.cons_append, List.nil_append]); refine D9 ?_))
    all_goals refine D8 ?_
    all_goals repeat' (first | refine KK ?_ | refine NB fun b => ?_ | ((refine KB ?_ ?_ <;> intro hp)) | refine KG ?_ | fail)
    all_goals exact ret_ce 2 i1 (by first | exact .inr rfl | exact .inl rfl) hcnt rfl rfl hs' hR
  rw [if_neg h21] at hs'
  by_cases h9 : t.op = 9
  · rw [if_pos h9] at hs'
    have hk1 := hq.here.1.one (by omega)
    have hz := hsz
    rw [kids1 hk1, szs_cons] at hz
    obtain ⟨ad, x0, rfl, hm0, hox0, hk0⟩ := hget 0 _ (kidE_get (by omega))
    obtain ⟨hn0, hg0⟩ := hN _ (kidE_mem (t := t) (i := 0) (by omega))
    have hdr : ∀ y ∈ t.kids.drop 1, y ∈ t.kids := fun y hy => List.mem_of_mem_drop hy
    have hdp := hk.drop1 (by omega)
    have hld := len_szs (t.kids.drop 1)
    have hdl : (t.kids.drop 1).length = t.kids.length - 1 := List.length_drop
    have hlb : (t.kids.drop 1).length ≤ 100000 := by omega
    have hsbA := SB.gr (s' := N (kidE t 0) q s) (n := (kidE t 0).size) (m := szs (t.kids.drop 1)) (hS.mono (by omega)) (hg0 q s)
    repeat' (first | refine KK ?_ | refine NB fun b => ?_ | ((refine KB ?_ ?_ <;> intro hp)) | refine KG ?_ | fail)
    all_goals try (exfalso; first | omega | contradiction)
    refine gc_draw 7 _ (by kernel_rfl) rfl (List.Sublist.cons_cons _ (List.Sublist.cons_cons _ (List.nil_sublist _))) ?_
    all_goals refine DD 0 ?_
    all_goals (first | refine D1 1 ?_ | (refine DV (k := 1) (b := by first | exact U1 0 | exact U4 hm0) (c := ?_)) | refine DD 1 ?_ | fail)
    all_goals (first | refine D1 2 ?_ | (refine DV (k := 2) (b := by first | exact U1 0 | exact U4 hm0) (c := ?_)) | (refine D3 2 (DW (b := by first | exact U1 0 | exact U4 hm0) (c := ?_))) | refine DD 2 ?_ | fail)
    all_goals (first | refine D1 3 ?_ | (refine DV (k := 3) (b := by first | exact U1 0 | exact U4 hm0) (c := ?_)) | refine DD 3 ?_ | fail)
    all_goals (first | refine D1 4 ?_ | (refine DV (k := 4) (b := by first | exact U1 0 | exact U4 hm0) (c := ?_)) | (refine D3 4 (DW (b := by first | exact U1 0 | exact U4 hm0) (c := ?_))) | refine DD 4 ?_ | fail)
    all_goals (first | refine D1 5 ?_ | (refine DV (k := 5) (b := by first | exact U1 0 | exact U4 hm0) (c := ?_)) | (refine D3 5 (DW (b := by first | exact U1 0 | exact U4 hm0) (c := ?_))) | refine DD 5 ?_ | fail)
    all_goals (first | (refine D3 6 ?_; refine D5 ?_; refine CF 18 ?_; (with_reducible apply g_ce 2); exact rfl; exact rfl; exact rfl; ((with_reducible apply e_call3); kernel_rfl; exact rfl; exact rfl; exact rfl); exact rfl; (exact hR); (exact hn0 xb mb _ _ q s _ hk0 hpq (hPBq _ (by omega)) (hS.mono (by omega)) hm); (intro v1 μ1 i1 hle1 hR); (dsimp only [List.cons_append, List.nil_append]); (have hdp := hdp.mono hle1); (have hpq := hpq.mono hle1); (have hm := hm.mono hle1); refine D9 ?_))
    all_goals refine D8 ?_
    all_goals repeat' (first | refine KO ?_ | (refine KV (b := by first | ((with_reducible apply v_slice_lo 1); exact rfl; exact rfl; exact rfl; exact rfl; omega; omega)) (c := ?_)) | refine KI ?_ | refine NB fun b => ?_ | ((refine KB ?_ ?_ <;> intro hp)) | refine KG ?_ | fail)
    rw [← hdl] at hdp ⊢
    obtain ⟨A3, c3, e3, hcap3, hget3⟩ := hdp.form
    rw [e3]
    generalize hs0 : N (kidE t 0) q s = s0 at hR hs' hsbA ⊢
    generalize hl3 : t.kids.drop 1 = l3 at hs' hdr hld hlb hsbA hget3 ⊢
    refine gc_loop (ι := Nat × Mem × List FR) (fun y => y.1 ≤ l3.length ∧ MLe μ1 y.2.1 ∧ ER y.2.1 y.2.2 ((l3.take y.1).foldl (fun s k => aloneE N k q s) s0)) (fun y => l3.length - y.1) (fun y => y.2.1) (fun y => [(121, .int .i64 (y.1 : Int)), (120, .int .i64 (l3.length : Int)), (119, .slice A3 l3.length c3), (5, .pointer (some ⟨bp, 0, none⟩)), (0, .pointer (some ⟨xb, 0, none⟩))]) (fun y => .inl ⟨bp, 47, 12, idx 0 (encPl q (.slice Ar p.regs.length cr) (.slice Al p.labels.length cl) (.slice Ao p.loops.length co) (.slice none 0 0))⟩ :: EB xb mb ((l3.take y.1).foldl (fun s k => aloneE N k q s) s0) y.2.2) (0, μ1, i1) ⟨Nat.zero_le _, MLe.refl _, hR⟩ (fun a w hs => hs.sel PU (sel_0 (.refl _) (sel_drop _ (sel_all _)))) ?_
    clear hR
    rintro ⟨i, μ0, fs0⟩ ⟨hi, hle0, hR⟩
    dsimp only at hi hle0 hR ⊢
    by_cases hlt : i < l3.length
    · obtain ⟨k, hkk⟩ : ∃ k, l3[i]? = some k := ⟨_, List.getElem?_eq_getElem hlt⟩
      obtain ⟨ad3, x3, rfl, hm3, hox3, hkx3⟩ := hget3 i k hkk
      have hmem := hdr k (List.mem_of_getElem? hkk)
      have hmm := hm3.mono hle0
      obtain ⟨hn1, -⟩ := hN k hmem
      have hz3 := szs_take hkk
      have hgr : Gr FF (2 * szs (l3.take i)) s0 ((l3.take i).foldl (fun s k => aloneE N k q s) s0) := by
        have h9 := gr_fold (F := FF) (g := (fun s k => aloneE N k q s)) (c := fun k => 2 * T.size k) (l3.take i) s0 (fun k hk s => gr_alone k (fun p s => (hN k (hdr k (List.mem_of_mem_take hk))).2 p s) q s)
        rwa [sum_two] at h9
      have hsb := SB.gr (n := szs (l3.take i)) (m := k.size) (hsbA.mono (by omega)) hgr
      have hnext : (fun s k => aloneE N k q s) ((l3.take i).foldl (fun s k => aloneE N k q s) s0) k = ((l3.take (i + 1)).foldl (fun s k => aloneE N k q s) s0) := (fold_take (fun s k => aloneE N k q s) l3 s0 hkk).symm
      dsimp only at hnext
      repeat' (first | refine KO ?_ | (refine CF 37 ?_; (with_reducible apply g_ce 2); exact rfl; exact rfl; exact rfl; ((with_reducible apply e_call3); kernel_rfl; exact rfl; exact rfl; exact rfl); exact rfl; (exact hR); (exact ealone_spec N k hn1 _ _ q _ _ xb mb (hkx3.mono hle0) (hpq.mono hle0) (hPBq _ (Nat.le_of_lt (hlek k hmem))) hsb (hm.mono hle0)); (intro v1 μ1 i1 hle1 hR); (dsimp only [List.cons_append, List.nil_append])) | (refine KV (b := by first | exact U1 i | exact U4 hmm) (c := ?_)) | refine KI ?_ | refine NB fun b => ?_ | ((refine KB ?_ ?_ <;> intro hp)) | refine KG ?_ | fail)
      all_goals try (exfalso; first | omega | contradiction)
      rw [hnext] at hR ⊢
      exact gq_backS (i + 1, μ1, i1) ⟨by dsimp only; omega, hle0.trans hle1, hR⟩ (by dsimp only; omega) rfl PU (sel_1 (.refl _) (sel_drop _ (sel_all _)))
    · have hil : i = l3.length := by omega
      subst hil
      rw [List.take_of_length_le (Nat.le_refl _)] at hR ⊢
      repeat' (first | refine KK ?_ | refine NB fun b => ?_ | ((refine KB ?_ ?_ <;> intro hp)) | refine KG ?_ | fail)
      all_goals try (exfalso; first | omega | contradiction)
      all_goals exact ret_ce 1 fs0 (by first | exact .inr rfl | exact .inl rfl) hcnt rfl rfl hs' hR
  rw [if_neg h9] at hs'
  by_cases h23 : t.op = 23
  rotate_left
  · rw [if_neg h23] at hs'
    repeat' (first | refine KO ?_ | (refine CF 42 ?_; (with_reducible apply g_ce 2); exact rfl; exact rfl; exact rfl; ((with_reducible apply e_call3); kernel_rfl; exact rfl; exact rfl; exact rfl); exact rfl; (exact hR); (exact epart_spec N t hq hts hNN xb mb _ _ q s _ hk hpq (hPBq _ (Nat.le_refl _)) hS hm); (intro v1 μ1 i1 hle1 hR); (dsimp only [List.cons_append, List.nil_append])) | refine KI ?_ | refine NB fun b => ?_ | ((refine KB ?_ ?_ <;> intro hp)) | refine KG ?_ | fail)
    all_goals try (exfalso; first | omega | contradiction)
    all_goals exact ret_ce 2 i1 (by first | exact .inr rfl | exact .inl rfl) hcnt rfl rfl hs' hR
  rw [if_pos h23] at hs'
  have hk1 := hq.here.1.one (by omega)
  have hz := hsz
  rw [kids1 hk1, szs_cons] at hz
  obtain ⟨ad, x0, rfl, hm0, hox0, hk0⟩ := hget 0 _ (kidE_get (by omega))
  obtain ⟨hn0, hg0⟩ := hN _ (kidE_mem (t := t) (i := 0) (by omega))
  obtain ⟨cl1, hcl1⟩ : ∃ b, q.labels.contains t.s = b := ⟨_, rfl⟩
  rw [hcl1] at hs'
  have hgb := (gr_name (F := FF) wdF t t.s q s).trans (gr_bad cl1 t.at' 31 _) (Nat.le_refl _)
  have hsbA := SB.gr (n := 0) (m := (kidE t 0).size) (hS.mono (by omega)) hgb
  have hqb : SsV μ (.slice Al p.labels.length cl) q.labels := by rw [hql]; exact hplb
  repeat' (first | refine KO ?_ | (refine CF 38 ?_; (with_reducible apply g_ce 2); exact rfl; exact rfl; exact rfl; ((with_reducible apply e_call4); kernel_rfl; exact rfl; exact rfl; exact rfl; exact rfl); exact rfl; (exact hR); (exact ename_spec xb mb t _ ou _ (by omega) q _ s _ hpq hm); (intro v1 μ1 i1 hle1 hR); (dsimp only [List.cons_append, List.nil_append]); (have hlq := hqb.mono hle1); (have hleA := hle1); (have hm0 := hm0.mono hle1); (have hk0 := hk0.mono hle1); (have hpq := hpq.mono hle1); (have hmi := hmi.mono hle1); (have hm := hm.mono hle1)) | refine KI ?_ | refine NB fun b => ?_ | ((refine KB ?_ ?_ <;> intro hp)) | refine KG ?_ | fail)
  all_goals try (exfalso; first | omega | contradiction)
  refine gc_draw 9 _ (by kernel_rfl) rfl (List.Sublist.cons_cons _ (List.Sublist.cons_cons _ (List.nil_sublist _))) ?_
  all_goals refine DD 0 ?_
  all_goals refine DD 1 ?_
  all_goals refine DD 2 ?_
  all_goals refine DD 3 ?_
  all_goals refine DD 4 ?_
  all_goals refine DD 5 ?_
  all_goals refine DD 6 ?_
  all_goals (first | (refine D3 7 ?_; refine D5 ?_; (first | ((with_reducible apply F1 40); exact rfl; exact EN; (exact fun w μc hw hse => contains_is t.s q.labels _ hcl1 _ w μc hw (hlq.mono hse.le) (by rw [hql]; omega))) | (refine CF 39 ?_; (with_reducible apply g_ce 2); exact rfl; exact rfl; exact rfl; ((with_reducible apply e_call4); kernel_rfl; exact rfl; exact rfl; exact rfl; exact rfl); exact rfl; (exact hR); (exact bad_spec xb mb t _ ou _ _ _ _); (intro v1 μ1 i1 hle1 hR); (dsimp only [List.cons_append, List.nil_append]); (have hlq := hlq.mono hle1); (have hleA := hleA.trans hle1); (have hm0 := hm0.mono hle1); (have hk0 := hk0.mono hle1); (have hpq := hpq.mono hle1); (have hmi := hmi.mono hle1); (have hm := hm.mono hle1))); refine D9 ?_))
  all_goals (first | (refine D3 8 ?_; refine D5 ?_; (first | ((with_reducible apply F1 40); exact rfl; exact EN; (exact fun w μc hw hse => contains_is t.s q.labels _ hcl1 _ w μc hw (hlq.mono hse.le) (by rw [hql]; omega))) | (refine CF 39 ?_; (with_reducible apply g_ce 2); exact rfl; exact rfl; exact rfl; ((with_reducible apply e_call4); kernel_rfl; exact rfl; exact rfl; exact rfl; exact rfl); exact rfl; (exact hR); (exact bad_spec xb mb t _ ou _ _ _ _); (intro v1 μ1 i1 hle1 hR); (dsimp only [List.cons_append, List.nil_append]); (have hlq := hlq.mono hle1); (have hleA := hleA.trans hle1); (have hm0 := hm0.mono hle1); (have hk0 := hk0.mono hle1); (have hpq := hpq.mono hle1); (have hmi := hmi.mono hle1); (have hm := hm.mono hle1))); refine D9 ?_))
  all_goals refine D8 ?_
  repeat' (first | ((with_reducible show GC _ _ (Code.seq (Code.region 37 _ _) _) _ _ _ _); (apply gc_stop)) | refine KK ?_ | refine NB fun b => ?_ | ((refine KB ?_ ?_ <;> intro hp)) | refine KG ?_ | fail)
  have hlp := hplb.mono hleA
  have e1 : (p.labels.flatMap encStr).length = p.labels.length := flatS p.labels
  have e2 := ones_S p.labels
  refine gcs (gc_join (ι := Mem × Value) (fun y => MLe μ1 y.1 ∧ SsV y.1 y.2 (p.labels ++ [t.s])) (fun y => y.1) (fun _ => [(0, .pointer (some ⟨xb, 0, none⟩)), (4, .pointer (some ⟨bn, 0, none⟩)), (5, .pointer (some ⟨bp, 0, none⟩)), (6, (.slice Am p.mine.length cm))]) (fun y => .inl ⟨bp, 47, 12, idx 0 (encPl { q with labels := p.labels ++ [t.s] } (.slice Ar p.regs.length cr) y.2 (.slice Ao p.loops.length co) (.slice none 0 0))⟩ :: .inl ⟨bn, 27, 6, idx 0 (encT t (.slice (some ad) t.kids.length c))⟩ :: EB xb mb (badE cl1 t.at' 31 (nameE wdF t t.s q s)) i1) ?_ ?_)
  · refine gc_draw 11 _ (by kernel_rfl) rfl (List.Sublist.cons _ (List.Sublist.cons_cons _ (List.nil_sublist _))) ?_
    all_goals refine DD 0 ?_
    all_goals refine DD 1 ?_
    all_goals refine DD 4 ?_
    all_goals refine DD 5 ?_
    refine ga_all2 2 6 (by kernel_rfl) ?dr1_2 ?dr1_6
    case' dr1_2 =>
      (first | ((with_reducible apply gaop_val); exact rfl; exact rfl; exact rfl; exact rfl; (first | ((with_reducible apply pv_sound); exact rfl) | ((with_reducible apply v_ld); exact rfl; (repeat first | with_reducible exact inb_hd | with_reducible apply inb_tl); exact rfl))))
      refine ga_all2 3 6 (by kernel_rfl) ?dr2_3 ?dr2_6
      case' dr2_3 =>
        (first | (refine D5 ?_; (with_reducible apply F3 41); exact rfl; exact EN; (exact fun w μc hw hse => clone_S w μc hw p.labels _ (hlp.mono hse.le) (by omega)); intro vr; refine D9 ?_))
        all_goals (first | (refine D3 6 ?_; refine D5 ?_; refine NB fun b => ?_; refine D9 ?_))
        all_goals (first | (refine D3 7 ?_; refine D5 ?_; refine AI (k := fun g cap hcap => ?_); refine D9 ?_))
        all_goals refine DD 8 ?_
        all_goals refine DD 9 ?_
        all_goals (first | (refine D3 10 ?_; refine D5 ?_; refine Y0 ?_; refine D9 ?_))
        all_goals refine D8 ?_
      case' dr2_6 =>
        (first | (refine D5 ?_; refine NB fun b => ?_; refine D9 ?_))
        all_goals (first | (refine D3 3 ?_; refine D5 ?_; (with_reducible apply F3 41); exact rfl; exact EN; (exact fun w μc hw hse => clone_S w μc hw p.labels _ (hlp.mono hse.le) (by omega)); intro vr; refine D9 ?_))
        all_goals (first | (refine D3 7 ?_; refine D5 ?_; refine AI (k := fun g cap hcap => ?_); refine D9 ?_))
        all_goals refine DD 8 ?_
        all_goals refine DD 9 ?_
        all_goals (first | (refine D3 10 ?_; refine D5 ?_; refine Y0 ?_; refine D9 ?_))
        all_goals refine D8 ?_
    case' dr1_6 =>
      (first | (refine D5 ?_; refine NB fun b => ?_; refine D9 ?_))
      all_goals (first | (refine D3 2 ?_; (with_reducible apply gaop_val); exact rfl; exact rfl; exact rfl; exact rfl; (first | ((with_reducible apply pv_sound); exact rfl) | ((with_reducible apply v_ld); exact rfl; (repeat first | with_reducible exact inb_hd | with_reducible apply inb_tl); exact rfl))))
      all_goals (first | (refine D3 3 ?_; refine D5 ?_; (with_reducible apply F3 41); exact rfl; exact EN; (exact fun w μc hw hse => clone_S w μc hw p.labels _ (hlp.mono hse.le) (by omega)); intro vr; refine D9 ?_))
      all_goals (first | (refine D3 7 ?_; refine D5 ?_; refine AI (k := fun g cap hcap => ?_); refine D9 ?_))
      all_goals refine DD 8 ?_
      all_goals refine DD 9 ?_
      all_goals (first | (refine D3 10 ?_; refine D5 ?_; refine Y0 ?_; refine D9 ?_))
      all_goals refine D8 ?_
    all_goals repeat' (first | refine KK ?_ | refine NB fun b => ?_ | ((refine KB ?_ ?_ <;> intro hp)) | refine KG ?_ | fail)
    all_goals first
      | (refine gq_share_0 rfl ?_; intro μ4 hle4 hsh4; have hv := SsV.of_row (xs := p.labels ++ [t.s]) hsh4 (by simp) (by rw [List.flatMap_append]; rfl))
      | (refine gq_share_1 rfl ?_; intro μ4 hle4 hsh4; have hv := SsV.of_row (xs := p.labels ++ [t.s]) hsh4 (by simp) (by rw [List.flatMap_append]; rfl))
    all_goals exact gq_joinS (μ4, _) ⟨hle4, hv⟩ rfl PU (sel_1 (.cells PU) (sel_1 (.cells PU) (sel_drop _ (sel_all _))))
  rintro ⟨μ2, lv⟩ ⟨hle2, hlv⟩
  dsimp only at hle2 hlv ⊢
  have olv := hlv.one
  have hm0 := hm0.mono hle2
  have hk0 := hk0.mono hle2
  have hpr := hpr.mono (hleA.trans hle2)
  have hplo := hplo.mono (hleA.trans hle2)
  have hmi := hmi.mono hle2
  have hm := hm.mono hle2
  have hR := hR.mono hle2
  have e1 : (p.mine.flatMap encStr).length = p.mine.length := flatS p.mine
  have e2 := ones_S p.mine
  refine gc_join (ι := Mem × Value) (fun y => MLe μ2 y.1 ∧ SsV y.1 y.2 (p.mine ++ [t.s])) (fun y => y.1) (fun _ => [(0, .pointer (some ⟨xb, 0, none⟩)), (4, .pointer (some ⟨bn, 0, none⟩)), (5, .pointer (some ⟨bp, 0, none⟩))]) (fun y => .inl ⟨bp, 47, 12, idx 0 (encPl { q with labels := p.labels ++ [t.s], mine := p.mine ++ [t.s] } (.slice Ar p.regs.length cr) lv (.slice Ao p.loops.length co) y.2)⟩ :: .inl ⟨bn, 27, 6, idx 0 (encT t (.slice (some ad) t.kids.length c))⟩ :: EB xb mb (badE cl1 t.at' 31 (nameE wdF t t.s q s)) i1) ?_ ?_
  · refine gc_draw 8 _ (by kernel_rfl) rfl (List.Sublist.cons _ (List.Sublist.cons_cons _ (List.nil_sublist _))) ?_
    all_goals refine DD 0 ?_
    all_goals refine DD 2 ?_
    all_goals refine DD 3 ?_
    refine ga_all2 1 4 (by kernel_rfl) ?dr3_1 ?dr3_4
    case' dr3_1 =>
      (first | (refine D5 ?_; (with_reducible apply F3 41); exact rfl; exact EN; (exact fun w μc hw hse => clone_S w μc hw p.mine _ (hmi.mono hse.le) (by omega)); intro vr; refine D9 ?_))
      all_goals (first | (refine D3 4 ?_; refine D5 ?_; refine NB fun b => ?_; refine D9 ?_))
      all_goals (first | (refine D3 5 ?_; refine D5 ?_; refine AI (k := fun g cap hcap => ?_); refine D9 ?_))
      all_goals refine DD 6 ?_
      all_goals (first | (refine D3 7 ?_; refine D5 ?_; refine Y0 ?_; refine D9 ?_))
      all_goals refine D8 ?_
    case' dr3_4 =>
      (first | (refine D5 ?_; refine NB fun b => ?_; refine D9 ?_))
      all_goals (first | (refine D3 1 ?_; refine D5 ?_; (with_reducible apply F3 41); exact rfl; exact EN; (exact fun w μc hw hse => clone_S w μc hw p.mine _ (hmi.mono hse.le) (by omega)); intro vr; refine D9 ?_))
      all_goals (first | (refine D3 5 ?_; refine D5 ?_; refine AI (k := fun g cap hcap => ?_); refine D9 ?_))
      all_goals refine DD 6 ?_
      all_goals (first | (refine D3 7 ?_; refine D5 ?_; refine Y0 ?_; refine D9 ?_))
      all_goals refine D8 ?_
    all_goals repeat' (first | refine KK ?_ | refine NB fun b => ?_ | ((refine KB ?_ ?_ <;> intro hp)) | refine KG ?_ | fail)
    all_goals first
      | (refine gq_share_0 rfl ?_; intro μ4 hle4 hsh4; have hv := SsV.of_row (xs := p.mine ++ [t.s]) hsh4 (by simp) (by rw [List.flatMap_append]; rfl))
      | (refine gq_share_1 rfl ?_; intro μ4 hle4 hsh4; have hv := SsV.of_row (xs := p.mine ++ [t.s]) hsh4 (by simp) (by rw [List.flatMap_append]; rfl))
    all_goals exact gq_joinS (μ4, _) ⟨hle4, hv⟩ rfl PU (sel_1 (.cells PU) (sel_1 (.cells PU) (sel_drop _ (sel_all _))))
  rintro ⟨μ3, mv⟩ ⟨hle3, hmv⟩
  dsimp only at hle3 hmv ⊢
  have omv := hmv.one
  have hm0 := hm0.mono hle3
  have hp3 : PV μ3 { q with labels := p.labels ++ [t.s], mine := p.mine ++ [t.s] } (.agg (encPl { q with labels := p.labels ++ [t.s], mine := p.mine ++ [t.s] } (.slice Ar p.regs.length cr) lv (.slice Ao p.loops.length co) mv).toArray) := ⟨_, _, _, _, rfl, by show IsV _ _ q.regs; rw [hqg]; exact hpr.mono hle3, hlv.mono hle3, by show SsV _ _ q.loops; rw [hqo]; exact hplo.mono hle3, hmv⟩
  have hR := hR.mono hle3
  repeat' (first | refine KK ?_ | refine NB fun b => ?_ | ((refine KB ?_ ?_ <;> intro hp)) | refine KG ?_ | fail)
  refine gc_draw 7 _ (by kernel_rfl) rfl (List.Sublist.cons_cons _ (List.Sublist.cons_cons _ (List.nil_sublist _))) ?_
  all_goals refine DD 0 ?_
  all_goals (first | refine D1 1 ?_ | (refine DV (k := 1) (b := by first | exact U1 0 | exact U4 hm0) (c := ?_)) | refine DD 1 ?_ | fail)
  all_goals (first | refine D1 2 ?_ | (refine DV (k := 2) (b := by first | exact U1 0 | exact U4 hm0) (c := ?_)) | (refine D3 2 (DW (b := by first | exact U1 0 | exact U4 hm0) (c := ?_))) | refine DD 2 ?_ | fail)
  all_goals (first | refine D1 3 ?_ | (refine DV (k := 3) (b := by first | exact U1 0 | exact U4 hm0) (c := ?_)) | refine DD 3 ?_ | fail)
  all_goals (first | refine D1 4 ?_ | (refine DV (k := 4) (b := by first | exact U1 0 | exact U4 hm0) (c := ?_)) | (refine D3 4 (DW (b := by first | exact U1 0 | exact U4 hm0) (c := ?_))) | refine DD 4 ?_ | fail)
  all_goals (first | refine D1 5 ?_ | (refine DV (k := 5) (b := by first | exact U1 0 | exact U4 hm0) (c := ?_)) | (refine D3 5 (DW (b := by first | exact U1 0 | exact U4 hm0) (c := ?_))) | refine DD 5 ?_ | fail)
  all_goals (first | (refine D3 6 ?_; refine D5 ?_; refine CF 37 ?_; (with_reducible apply g_ce 2); exact rfl; exact rfl; exact rfl; ((with_reducible apply e_call3); kernel_rfl; exact rfl; exact rfl; exact rfl); exact rfl; (exact hR); (exact ealone_spec N (kidE t 0) hn0 _ _ { q with labels := p.labels ++ [t.s], mine := p.mine ++ [t.s] } _ _ xb mb (hk0.mono hle3) hp3 (hPBl t.s _ (by omega)) hsbA (hm.mono hle3)); (intro v1 μ1 i1 hle1 hR); (dsimp only [List.cons_append, List.nil_append]); refine D9 ?_))
  all_goals refine D8 ?_
  all_goals repeat' (first | refine KK ?_ | refine NB fun b => ?_ | ((refine KB ?_ ?_ <;> intro hp)) | refine KG ?_ | fail)
  all_goals exact ret_ce 2 i1 (by first | exact .inr rfl | exact .inl rfl) hcnt rfl rfl (by rw [← hs', hql]) hR
end Go.Proofs.YtfabmichdhbiaaaGreatDoor
namespace Go.Proofs.YtfabmichdhbiaaaGreatDoor
open Go.RowKit Go.Vcg
def bitT (t : T) (m : Int) : Bool := decide (t.op = 4) && decide (0 ≤ t.n) && decide ((IntKind.i64.wrap (t.n.tdiv m)).tmod 2 = 1)
def rStmtT (t : T) : Bool := decide (t.op = 2) || bitT t 1 || decide (6 ≤ t.op) && decide (t.op ≤ 19) || decide (t.op = 21) || decide (t.op = 23)
def rExprT (t : T) : Bool := if t.op = 4 then !bitT t 1 && !bitT t 8 && !bitT t 16 && !bitT t 32 else decide (30 ≤ t.op) && decide (t.op ≤ 38) || decide (42 ≤ t.op) && decide (t.op ≤ 54)
def loneT (t : T) : Bool := decide (t.op = 2) && decide (t.kids.length = 1) && len0 t 1
attribute [local irreducible] formB G GC GQ GA GAop Calls IntKind.wrap Int.decLt Int.decLe
theorem rBit_spec (m : Int) (hm : m ≠ 0) : ∀ (t : T) (u : Value) (w : World) (μ : Mem), MOk μ w → KR μ t.kids u →
    Calls Tryz.prog 77 #[.agg (encT t u).toArray, .int .i64 m] w fun e w' => e = .returned (.bool (bitT t m)) ∧ Below w.heap.size w w' := by
  intro t u w μ hμ hk
  have ho := hk.one
  refine call_intro (args := [.agg (encT t u).toArray, .int .i64 m]) Tryz.func77 rfl Tryz.ntmps77 (by simp) hμ ?_
  repeat' (first | refine KO ?_ | (refine KV (b := by first | ((with_reducible apply v_quo); exact rfl; exact rfl; exact hm)) (c := ?_)) | refine KI ?_ | refine NB fun b => ?_ | ((refine KB ?_ ?_ <;> intro hp)) | refine KG ?_ | fail)
  all_goals (refine ret_s rfl rfl ?_; simp_all [bitT]; try omega)
theorem rSimple_spec : NodeP 82 simpleT := by
  intro t u w μ hμ hk hs hss
  have ho := hk.one
  refine call_intro (args := [.agg (encT t u).toArray]) Tryz.func82 rfl Tryz.ntmps82 (by simp) hμ ?_
  repeat' (first | refine KK ?_ | refine NB fun b => ?_ | ((refine KB ?_ ?_ <;> intro hp)) | refine KG ?_ | fail)
  all_goals (refine ret_s rfl rfl ?_; simp_all [simpleT]; try omega)
theorem rTarget_spec : NodeP 81 targetT := by
  intro t u w μ hμ hk hs hss
  have ho := hk.one
  refine call_intro (args := [.agg (encT t u).toArray]) Tryz.func81 rfl Tryz.ntmps81 (by simp) hμ ?_
  repeat' (first | refine KO ?_ | ((with_reducible apply F1 82); exact rfl; exact EN; (exact fun w μc hw hse => rSimple_spec t u w μc hw (hk.mono hse.le) hs hss)) | refine KI ?_ | refine NB fun b => ?_ | ((refine KB ?_ ?_ <;> intro hp)) | refine KG ?_ | fail)
  all_goals (refine ret_s rfl rfl ?_; simp_all [targetT]; try omega)
theorem rLink_spec : NodeP 21 linkT := by
  intro t u w μ hμ hk hs hss
  have ho := hk.one
  refine call_intro (args := [.agg (encT t u).toArray]) Tryz.func21 rfl Tryz.ntmps21 (by simp) hμ ?_
  repeat' (first | refine KK ?_ | refine NB fun b => ?_ | ((refine KB ?_ ?_ <;> intro hp)) | refine KG ?_ | fail)
  all_goals (refine ret_s rfl rfl ?_; simp_all [linkT]; try omega)
theorem rStmt_spec : NodeP 80 rStmtT := by
  intro t u w μ hμ hk hs hss
  have ho := hk.one
  refine call_intro (args := [.agg (encT t u).toArray]) Tryz.func80 rfl Tryz.ntmps80 (by simp) hμ ?_
  repeat' (first | refine KO ?_ | ((with_reducible apply F1 77); exact rfl; exact EN; (exact fun w μc hw hse => rBit_spec 1 (by decide) t u w μc hw (hk.mono hse.le))) | refine KI ?_ | refine NB fun b => ?_ | ((refine KB ?_ ?_ <;> intro hp)) | refine KG ?_ | fail)
  all_goals (refine ret_s rfl rfl ?_; simp_all [rStmtT]; try (intros; omega))
theorem rExpr_spec : NodeP 45 rExprT := by
  intro t u w μ hμ hk hs hss
  have ho := hk.one
  refine call_intro (args := [.agg (encT t u).toArray]) Tryz.func45 rfl Tryz.ntmps45 (by simp) hμ ?_
  repeat' (first | refine KO ?_ | ((with_reducible apply F1 77); exact rfl; exact EN; (exact fun w μc hw hse => rBit_spec _ (by decide) t u w μc hw (hk.mono hse.le))) | refine KI ?_ | refine NB fun b => ?_ | ((refine KB ?_ ?_ <;> intro hp)) | refine KG ?_ | fail)
  all_goals (refine ret_s rfl rfl ?_; simp_all [rExprT]; try (intros; omega))
theorem rLone_spec : NodeP 83 loneT := by
  intro t u w μ hμ hk hs hss
  have ho := hk.one
  obtain ⟨A, c, rfl, hlc, hkid⟩ := hk.form
  have hlen := kidsLe t
  refine call_intro (args := [.agg (encT t (.slice A t.kids.length c)).toArray]) Tryz.func83 rfl Tryz.ntmps83 (by simp) hμ ?_
  by_cases h0 : t.kids.length = 1
  · obtain ⟨k, hkr⟩ := List.length_eq_one_iff.1 h0
    obtain ⟨ad, x, rfl, hm, hox, hkx⟩ := hkid 0 k (by rw [hkr]; rfl)
    obtain ⟨A2, c2, rfl, hlc2, -⟩ := hkx.form
    have hsz := T.size_kid (t := t) (i := 0) (k := k) (by rw [hkr]; rfl)
    have hlk := kidsLe k
    have hg : loneT t = (decide (t.op = 2) && decide (k.kids.length = 1)) := by
      unfold loneT
      rw [len0_cons hkr, h0]
      simp
    rw [hg]
    repeat' (first | refine KO ?_ | (refine KV (b := by first | exact U1 0 | exact U4 hm) (c := ?_)) | refine KI ?_ | refine NB fun b => ?_ | ((refine KB ?_ ?_ <;> intro hp)) | refine KG ?_ | fail)
    all_goals (refine ret_s rfl rfl ?_; simp_all; try omega)
  · have hg : loneT t = false := by
      unfold loneT
      rw [decide_eq_false h0]
      simp
    rw [hg]
    repeat' (first | refine KK ?_ | refine NB fun b => ?_ | ((refine KB ?_ ?_ <;> intro hp)) | refine KG ?_ | fail)
    all_goals (refine ret_s rfl rfl ?_; simp_all; try omega)
theorem rForm_spec (s : ByteArray) (hs : s.size ≤ 65536) (w : World) (μ : Mem) (hμ : MOk μ w) :
    Calls Tryz.prog 76 #[.string s] w fun e w' => e = .returned (.bool (formB s)) ∧ Below w.heap.size w w' := by
  refine call_intro (args := [.string s]) Tryz.func76 rfl Tryz.ntmps76 (by simp) hμ ?_
  repeat' (first | refine KK ?_ | ((refine KB ?_ ?_ <;> intro hp)) | refine KG ?_ | fail)
  refine gc_loop (ι := Nat) (fun i => i ≤ s.size ∧ ∀ (j : Nat) (c : UInt8), j < i → (bl s)[j]? = some c → okAt j c) (fun i => s.size - i) (fun _ => μ) (fun i => [(3, .int .i64 i), (0, .string s)]) (fun _ => []) 0 ⟨Nat.zero_le _, fun j _ h => absurd h (by omega)⟩ (fun a w hs => J6 hs) ?_
  rintro i ⟨hi, hok⟩
  by_cases hlt : i < s.size
  · obtain ⟨c, hc1, hc2⟩ := bl_at (s := s) (i := i) hlt
    have hcl := c.toNat_lt
    have hnext : okAt i c → ∀ (j : Nat) (d : UInt8), j < i + 1 → (bl s)[j]? = some d → okAt j d := fun h j d hj hd => by
      rcases Nat.lt_or_ge j i with h1 | h1
      · exact hok j d h1 hd
      · obtain rfl : j = i := by omega
        rw [hc1] at hd
        cases hd
        exact h
    have hbad : ¬okAt i c → formB s = false := fun h => formB_f fun hf => h (hf.2 i c hc1)
    by_cases hk : okAt i c
    · have hb := hnext hk
      unfold okAt LetP DigP at hk
      repeat' (first | refine KO ?_ | (refine KV (b := by first | exact U2 i) (c := ?_)) | refine KI ?_ | ((refine KB ?_ ?_ <;> intro hp)) | refine KG ?_ | fail)
      all_goals first
        | exact J4 (i + 1) ⟨by omega, hb⟩ (by omega)
        | (exfalso; omega)
    · rw [hbad hk]
      unfold okAt LetP DigP at hk
      repeat' (first | refine KO ?_ | (refine KV (b := by first | exact U2 i) (c := ?_)) | refine KI ?_ | ((refine KB ?_ ?_ <;> intro hp)) | refine KG ?_ | fail)
      all_goals first
        | exact ret_s rfl rfl rfl
        | (exfalso; omega)
  · obtain rfl : i = s.size := by omega
    have hall : ∀ (j : Nat) (c : UInt8), (bl s)[j]? = some c → okAt j c := fun j c hc => hok j c (by have := (List.getElem?_eq_some_iff.1 hc).1; rw [bl_len] at this; exact this) hc
    have hg : formB s = decide (s ≠ ⟨#[]⟩) := by
      by_cases h : s = ⟨#[]⟩
      · rw [formB_f fun hf => hf.1 (by rw [h]), h]
        simp
      · rw [formB_t ⟨fun e => h (bl_inj e), hall⟩]
        simp [h]
    rw [hg]
    repeat' (first | refine KK ?_ | ((refine KB ?_ ?_ <;> intro hp)) | refine KG ?_ | fail)
    exact ret_s rfl rfl rfl
end Go.Proofs.YtfabmichdhbiaaaGreatDoor
namespace Go.Proofs.YtfabmichdhbiaaaGreatDoor
open Go.RowKit Go.Vcg
def opsL : List (Int × Int) := [(68, 3), (80, 5), (66, 6), (75, 22), (82, 39), (81, 62), (90, 64)]
noncomputable def restT (c : Int) (t : T) : Bool :=
  if c = 70 then targetT t || decide (t.op = 63)
  else if c = 72 then targetT t || decide (t.op = 63) || decide (t.op = 40)
  else if c = 107 then decide (t.op = 31) || decide (t.op = 30)
  else if c = 119 then namedT t
  else if c = 103 then bitT t 16 && len0 t 0
  else if c = 115 then bitT t 32 && set0 t
  else if c = 109 then bitT t 8
  else match opsL.find? (fun x => decide (x.1 = c)) with | some x => decide (t.op = x.2) | none => false
noncomputable def isT (c : Int) (t : T) : Bool :=
  if c = 83 then rStmtT t
  else if c = 69 then rExprT t
  else if c = 84 then targetT t
  else if c = 116 then simpleT t
  else if c = 99 then linkT t
  else if c = 73 then decide (t.op = 2) || decide (t.op = 8) || decide (t.op = 7)
  else if c = 77 then rExprT t || decide (t.op = 7)
  else if c = 76 then targetT t || loneT t
  else if c = 89 then decide (t.op = 6) || decide (t.op = 7)
  else if c = 67 then decide (t.op = 20) || decide (t.op = 7)
  else if c = 71 then targetT t || decide (t.op = 7)
  else if c = 65 then rExprT t || decide (t.op = 40) || decide (t.op = 41)
  else if c = 97 then rExprT t || decide (t.op = 41)
  else restT c t
attribute [local irreducible] rStmtT rExprT targetT simpleT linkT loneT namedT bitT restT formB G GC GQ GA GAop Calls IntKind.wrap Int.decLt Int.decLe
theorem is_spec (hrest : ∀ (c : Int) (t : T) (u : Value) (w : World) (μ : Mem), MOk μ w → KR μ t.kids u → t.size ≤ 100000 → t.s.size ≤ 65536 → Calls Tryz.prog 84 #[.int .u8 c, .agg (encT t u).toArray] w fun e w' => e = .returned (.bool (restT c t)) ∧ Below w.heap.size w w') (c : Int) (t : T) (u : Value) (w : World) (μ : Mem) (hμ : MOk μ w) (hk : KR μ t.kids u) (hs : t.size ≤ 100000) (hss : t.s.size ≤ 65536) :
    Calls Tryz.prog 47 #[.int .u8 c, .agg (encT t u).toArray] w fun e w' => e = .returned (.bool (isT c t)) ∧ Below w.heap.size w w' := by
  have ho := hk.one
  refine call_intro (args := [.int .u8 c, .agg (encT t u).toArray]) Tryz.func47 rfl Tryz.ntmps47 (by simp) hμ ?_
  repeat' (first | refine KO ?_ | ((with_reducible apply F1 80); exact rfl; exact EN; (exact fun w μc hw hse => rStmt_spec t u w μc hw (hk.mono hse.le) hs hss)) | ((with_reducible apply F1 45); exact rfl; exact EN; (exact fun w μc hw hse => rExpr_spec t u w μc hw (hk.mono hse.le) hs hss)) | ((with_reducible apply F1 81); exact rfl; exact EN; (exact fun w μc hw hse => rTarget_spec t u w μc hw (hk.mono hse.le) hs hss)) | ((with_reducible apply F1 82); exact rfl; exact EN; (exact fun w μc hw hse => rSimple_spec t u w μc hw (hk.mono hse.le) hs hss)) | ((with_reducible apply F1 21); exact rfl; exact EN; (exact fun w μc hw hse => rLink_spec t u w μc hw (hk.mono hse.le) hs hss)) | ((with_reducible apply F1 83); exact rfl; exact EN; (exact fun w μc hw hse => rLone_spec t u w μc hw (hk.mono hse.le) hs hss)) | ((with_reducible apply F1 84); exact rfl; exact EN; (exact fun w μc hw hse => hrest c t u w μc hw (hk.mono hse.le) hs hss)) | refine KI ?_ | refine NB fun b => ?_ | ((refine KB ?_ ?_ <;> intro hp)) | refine KG ?_ | fail)
  all_goals (clear hrest hk ho hμ; refine ret_s rfl rfl ?_; simp_all [isT])
end Go.Proofs.YtfabmichdhbiaaaGreatDoor
