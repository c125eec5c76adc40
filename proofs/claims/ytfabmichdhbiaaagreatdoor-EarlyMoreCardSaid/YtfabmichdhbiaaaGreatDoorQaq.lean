/- Package early: node, walked. (and what leans on it). No statement of the seat is proved here. -/
import Derived.Test.YtfabmichdhbiaaaGreatDoorQap
import Derived.Test.YtfabmichdhbiaaaGreatDoorQae
import Derived.Test.YtfabmichdhbiaaaGreatDoorQag
import Derived.Test.YtfabmichdhbiaaaGreatDoorQah
import Derived.Test.YtfabmichdhbiaaaGreatDoorQak
set_option maxRecDepth 20000
set_option maxHeartbeats 2000000
namespace Go.Proofs.YtfabmichdhbiaaaGreatDoor
open Go.RowKit Go.Vcg Ou
attribute [local irreducible] wdL anI famD mkD G GC GQ GA GAop Calls IntKind.wrap Int.decLt Int.decLe
theorem PV.form {μ : Mem} {p : EP} {v : Value} (h : PV μ p v) : ∃ Ar cr Al cl Ao co Am cm, v = .agg (encPl p (.slice Ar p.regs.length cr) (.slice Al p.labels.length cl) (.slice Ao p.loops.length co) (.slice Am p.mine.length cm)).toArray ∧ IsV μ (.slice Ar p.regs.length cr) p.regs ∧ SsV μ (.slice Al p.labels.length cl) p.labels ∧ SsV μ (.slice Ao p.loops.length co) p.loops ∧ SsV μ (.slice Am p.mine.length cm) p.mine := by
  obtain ⟨r, lb, lo, mi, rfl, h1, h2, h3, h4⟩ := h
  have e1 := h1
  have e2 := h2
  have e3 := h3
  have e4 := h4
  obtain ⟨Ar, cr, rfl, -, -⟩ := e1
  obtain ⟨Al, cl, rfl, -, -⟩ := e2
  obtain ⟨Ao, co, rfl, -, -⟩ := e3
  obtain ⟨Am, cm, rfl, -, -⟩ := e4
  exact ⟨_, _, _, _, _, _, _, _, rfl, h1, h2, h3, h4⟩
theorem enode_spec (N : T → EP → ES → ES) (B : T → EP → ED → ES → ES) (t : T) (hq : AllN qE t) (hts : t.size ≤ 80000) (hNN : ∀ k, AllN qE k → k.size < t.size → NCk N k ∧ NG N k) (hBB : ∀ k, AllN qE k → k.size < t.size → BCk B k ∧ BG B k) : NCk (nodeE wdF N B) t := by
  intro xb mb u pv p s μ hk hp hB hS hm
  intro w fs hμ hR hO
  have hcnt := ids_count hO.diff
  have hp0 := hp
  obtain ⟨Ar, cr, Al, cl, Ao, co, Am, cm, rfl, hpr, hplb, hplo, hmi⟩ := hp.form
  have ou := hk.one
  have hrl := hB.regs
  have hbl := hB.labels
  have hll := hB.loops
  have hne := hB.ne
  have hts9 := hq.here.2
  have hsz := size_szs t
  have hlen0 := len_szs t.kids
  have hlen : t.kids.length ≤ 100000 := by omega
  have hlek : ∀ k ∈ t.kids, k.size < t.size := fun k hk => by
    have : k.size ≤ szs t.kids := T.sum_mem (List.mem_map.2 ⟨k, hk, rfl⟩)
    omega
  have hN : ∀ k ∈ t.kids, NCk N k ∧ NG N k := fun k hk => hNN k (hq.kid hk) (hlek k hk)
  have hregs : s.regs ≤ 1000000 := by
    unfold SB at hS
    omega
  have hsbw : SB (withS s) (szs t.kids) := by
    have := (gr_with (F := FF) s).wt
    unfold SB at hS ⊢
    omega
  obtain ⟨A, c, rfl, hcap, hget⟩ := hk.form
  generalize hs' : nodeE wdF N B t p s = s'
  unfold nodeE at hs'
  dsimp only at hs'
  refine call_introM (args := [.pointer (some ⟨xb, 0, none⟩), .agg (encT t (.slice A t.kids.length c)).toArray, .agg (encPl p (.slice Ar p.regs.length cr) (.slice Al p.labels.length cl) (.slice Ao p.loops.length co) (.slice Am p.mine.length cm)).toArray]) Tryz.func18 rfl Tryz.ntmps18 (by simp) hμ hO ?_
  refine gc_LEq (EB_eq xb mb s fs) ?_
  by_cases he : s.e = 0
  rotate_left
  · rw [if_pos he] at hs'
    repeat' (first | refine KK ?_ | refine NB fun b => ?_ | ((refine KB ?_ ?_ <;> intro hp)) | refine KG ?_ | fail)
    all_goals try (exfalso; first | omega | contradiction)
    all_goals exact ret_ce 2 fs (by first | exact .inr rfl | exact .inl rfl) hcnt rfl rfl hs' hR
  rw [if_neg (fun h => h he)] at hs'
  repeat' (first | refine KK ?_ | refine NB fun b => ?_ | ((refine KB ?_ ?_ <;> intro hp)) | refine KG ?_ | fail)
  all_goals try (exfalso; first | omega | contradiction)
  rename_i bn
  obtain ⟨bp, hbp⟩ : ∃ y, y = b := ⟨_, rfl⟩
  rw [← hbp]
  clear hbp
  refine gc_draw 9 _ (by kernel_rfl) rfl (List.Sublist.cons_cons _ (List.Sublist.cons_cons _ (List.nil_sublist _))) ?_
  all_goals refine DD 0 ?_
  all_goals refine DD 1 ?_
  all_goals refine DD 2 ?_
  all_goals refine DD 3 ?_
  all_goals refine DD 4 ?_
  all_goals refine DD 5 ?_
  all_goals refine DD 6 ?_
  all_goals refine DD 7 ?_
  all_goals refine DD 8 ?_
  all_goals refine D8 ?_
  repeat' (first | ((with_reducible show GC _ _ (Code.seq (Code.region 4 _ _) _) _ _ _ _); (apply gc_stop)) | refine KK ?_ | refine NB fun b => ?_ | ((refine KB ?_ ?_ <;> intro hp)) | refine KG ?_ | fail)
  refine gcs (gc_sel (l' := [(0, .pointer (some ⟨xb, 0, none⟩)), (4, .pointer (some ⟨bn, 0, none⟩)), (5, .pointer (some ⟨bp, 0, none⟩)), (6, (.slice Am p.mine.length cm)), (7, .bool p.own), (8, .bool p.each)]) (L' := .inl ⟨bp, 47, 12, idx 0 (encPl (baseP p) (.slice Ar p.regs.length cr) (.slice Al p.labels.length cl) (.slice Ao p.loops.length co) (.slice none 0 0))⟩ :: .inl ⟨bn, 27, 6, idx 0 (encT t (.slice A t.kids.length c))⟩ :: EB xb mb s fs) PU (sel_0 (.cells PU) (sel_all _)) ?_)
  have hpq : PV μ (baseP p) (.agg (encPl (baseP p) (.slice Ar p.regs.length cr) (.slice Al p.labels.length cl) (.slice Ao p.loops.length co) (.slice none 0 0)).toArray) := ⟨_, _, _, _, rfl, hpr, hplb, hplo, SsV.nil _⟩
  have hPBq : ∀ n, n ≤ t.size → PB (baseP p) n := fun n hn => ⟨hne, by show p.regs.length + n ≤ 90000; omega, by show p.labels.length + n ≤ 90000; omega, by show p.loops.length + 0 ≤ p.labels.length; omega⟩
  have hPBw : ∀ s n, n < t.size → PB (withP (baseP p) s) n := fun s n hn => ⟨by show 0 < (p.regs ++ _).length; simp, by show (p.regs ++ _).length + n ≤ 90000; rw [List.length_append, List.length_singleton]; omega, by show p.labels.length + n ≤ 90000; omega, by show p.loops.length + 0 ≤ p.labels.length; omega⟩
  have hPBl : ∀ x n, n < t.size → PB { baseP p with labels := p.labels ++ [x], mine := p.mine ++ [x] } n := fun x n hn => ⟨hne, by show p.regs.length + n ≤ 90000; omega, by show (p.labels ++ [x]).length + n ≤ 90000; rw [List.length_append, List.length_singleton]; omega, by show p.loops.length + (p.mine ++ [x]).length ≤ (p.labels ++ [x]).length; rw [List.length_append, List.length_append, List.length_singleton]; omega⟩
  have hqm : (baseP p).loops.length + p.mine.length + (baseP p).mine.length ≤ (baseP p).labels.length := by show p.loops.length + p.mine.length + 0 ≤ p.labels.length; omega
  have hqr : (baseP p).regs.length ≤ 100000 := by show p.regs.length ≤ _; omega
  have hql : (baseP p).labels = p.labels := rfl
  have hqo : (baseP p).loops = p.loops := rfl
  have hqg : (baseP p).regs = p.regs := rfl
  have hwl : ∀ s, (withP (baseP p) s).regs.length ≤ 100000 := fun s => by show (p.regs ++ _).length ≤ _; rw [List.length_append, List.length_singleton]; omega
  have hwn : ∀ s, 0 < (withP (baseP p) s).regs.length := fun s => by show 0 < (p.regs ++ _).length; simp
  generalize baseP p = q at hs' hpq hPBq hPBw hPBl hqm hqr hql hqo hqg hwl hwn ⊢
  by_cases h2 : t.op = 2
  · rw [if_pos h2] at hs'
    repeat' (first | refine KO ?_ | (refine CF 31 ?_; (with_reducible apply g_ce 2); exact rfl; exact rfl; exact rfl; ((with_reducible apply e_call4); kernel_rfl; exact rfl; exact rfl; exact rfl; exact rfl); exact rfl; (exact hR); (exact evars_spec N B t hq h2 hts hNN hBB xb mb _ _ q p.each s _ hk hpq (hPBq _ (Nat.le_refl _)) hS hm); (intro v1 μ1 i1 hle1 hR); (dsimp only [List.cons_append, List.nil_append])) | refine KI ?_ | refine NB fun b => ?_ | ((refine KB ?_ ?_ <;> intro hp)) | refine KG ?_ | fail)
    all_goals try (exfalso; first | omega | contradiction)
    all_goals exact ret_ce 2 i1 (by first | exact .inr rfl | exact .inl rfl) hcnt rfl rfl hs' hR
  rw [if_neg h2] at hs'
  by_cases h4 : t.op = 4
  · rw [if_pos h4] at hs'
    repeat' (first | refine KO ?_ | (refine CF 32 ?_; (with_reducible apply g_ce 2); exact rfl; exact rfl; exact rfl; ((with_reducible apply e_call4); kernel_rfl; exact rfl; exact rfl; exact rfl; exact rfl); exact rfl; (exact hR); (exact efun_spec N B t hq h4 hts hNN hBB xb mb _ _ q p.own s _ hk hpq (hPBq _ (Nat.le_refl _)) hS hm); (intro v1 μ1 i1 hle1 hR); (dsimp only [List.cons_append, List.nil_append])) | refine KI ?_ | refine NB fun b => ?_ | ((refine KB ?_ ?_ <;> intro hp)) | refine KG ?_ | fail)
    all_goals try (exfalso; first | omega | contradiction)
    all_goals exact ret_ce 2 i1 (by first | exact .inr rfl | exact .inl rfl) hcnt rfl rfl hs' hR
  rw [if_neg h4] at hs'
  by_cases h6 : t.op = 6
  · rw [if_pos h6] at hs'
    repeat' (first | refine KK ?_ | refine NB fun b => ?_ | ((refine KB ?_ ?_ <;> intro hp)) | refine KG ?_ | fail)
    all_goals try (exfalso; first | omega | contradiction)
    refine gc_draw 7 _ (by kernel_rfl) rfl (List.Sublist.cons_cons _ (List.Sublist.cons_cons _ (List.nil_sublist _))) ?_
    all_goals refine DD 0 ?_
    all_goals refine DD 1 ?_
    all_goals refine DD 2 ?_
    all_goals refine DD 3 ?_
    all_goals refine DD 4 ?_
    all_goals (first | (refine D3 5 ?_; refine D5 ?_; (first | (refine CF 33 ?_; (with_reducible apply g_cer 2); exact rfl; exact rfl; exact rfl; ((with_reducible apply e_call2); kernel_rfl; exact rfl; exact rfl); exact rfl; (exact hR); (exact with_spec xb mb q _ s _ hpq hqr hregs); (intro v1 μ1 i1 hle1 hR hP1); (dsimp only [List.cons_append, List.nil_append]); (have hk := hk.mono hle1); (have hm := hm.mono hle1)) | (refine CF 13 ?_; (with_reducible apply g_ce 2); exact rfl; exact rfl; exact rfl; ((with_reducible apply e_call3); kernel_rfl; exact rfl; exact rfl; exact rfl); exact rfl; (exact hR); (exact eall_spec N t.kids _ _ (withP q s) (withS s) _ xb mb hN hk hP1 (fun y hy => hPBw s _ (hlek y hy)) hsbw hlen hm); (intro v1 μ1 i1 hle1 hR); (dsimp only [List.cons_append, List.nil_append]))); refine D9 ?_))
    all_goals (first | (refine D3 6 ?_; refine D5 ?_; (first | (refine CF 33 ?_; (with_reducible apply g_cer 2); exact rfl; exact rfl; exact rfl; ((with_reducible apply e_call2); kernel_rfl; exact rfl; exact rfl); exact rfl; (exact hR); (exact with_spec xb mb q _ s _ hpq hqr hregs); (intro v1 μ1 i1 hle1 hR hP1); (dsimp only [List.cons_append, List.nil_append]); (have hk := hk.mono hle1); (have hm := hm.mono hle1)) | (refine CF 13 ?_; (with_reducible apply g_ce 2); exact rfl; exact rfl; exact rfl; ((with_reducible apply e_call3); kernel_rfl; exact rfl; exact rfl; exact rfl); exact rfl; (exact hR); (exact eall_spec N t.kids _ _ (withP q s) (withS s) _ xb mb hN hk hP1 (fun y hy => hPBw s _ (hlek y hy)) hsbw hlen hm); (intro v1 μ1 i1 hle1 hR); (dsimp only [List.cons_append, List.nil_append]))); refine D9 ?_))
    all_goals refine D8 ?_
    all_goals repeat' (first | refine KK ?_ | refine NB fun b => ?_ | ((refine KB ?_ ?_ <;> intro hp)) | refine KG ?_ | fail)
    all_goals exact ret_ce 2 i1 (by first | exact .inr rfl | exact .inl rfl) hcnt rfl rfl hs' hR
  rw [if_neg h6] at hs'
  by_cases h20 : t.op = 20
  · rw [if_pos h20] at hs'
    have hk2 := hq.here.1.two (by simp [h20])
    obtain ⟨rr, hrr⟩ := kids2 hk2
    have hz := hsz
    rw [hrr, szs_cons, szs_cons] at hz hsbw
    have hz1 := size_szs (kidE t 1)
    obtain ⟨ad, x0, rfl, hm0, hox0, hk0⟩ := hget 0 _ (kidE_get (by omega))
    obtain ⟨ad', x1, e, hm1, hox1, hk1⟩ := hget 1 _ (kidE_get (by omega))
    cases e
    have ha1 := hq.kid (kidE_mem (t := t) (i := 1) (by omega))
    have hl1 := len_szs (kidE t 1).kids
    obtain ⟨hb0, hg0⟩ := hBB _ (hq.kid (kidE_mem (t := t) (i := 0) (by omega))) (by omega)
    have hND : ∀ y ∈ (kidE t 1).kids, (NCk N y ∧ NG N y) ∧ y.size < t.size := fun y hy => by
      have : y.size ≤ szs (kidE t 1).kids := T.sum_mem (List.mem_map.2 ⟨y, hy, rfl⟩)
      exact ⟨hNN y (ha1.kid hy) (by omega), by omega⟩
    repeat' (first | ((with_reducible show GC _ _ (Code.seq (Code.region 14 _ _) _) _ _ _ _); (apply gc_stop)) | refine KO ?_ | (refine CF 33 ?_; (with_reducible apply g_cer 2); exact rfl; exact rfl; exact rfl; ((with_reducible apply e_call2); kernel_rfl; exact rfl; exact rfl); exact rfl; (exact hR); (exact with_spec xb mb q _ s _ hpq hqr hregs); (intro v1 μ1 i1 hle1 hR hP1); (dsimp only [List.cons_append, List.nil_append]); (obtain ⟨r2, lb2, lo2, mi2, rfl, hr2, hlb2, hlo2, hmi2⟩ := hP1); (have q1 := hr2.one); (have q2 := hlb2.one); (have q3 := hlo2.one); (have q4 := hmi2.one); (have hr2f := hr2); (obtain ⟨A2, c2, rfl, -, -⟩ := hr2f)) | refine KI ?_ | refine NB fun b => ?_ | ((refine KB ?_ ?_ <;> intro hp)) | refine KG ?_ | fail)
    all_goals try (exfalso; first | omega | contradiction)
    have hPw := hPBw s
    have hwl := hwl s
    have hwn := hwn s
    generalize withP q s = q2 at hs' hr2 hlb2 hlo2 hmi2 hPw hwl hwn ⊢
    refine gcs ?_
    have hp2 : PV μ1 q2 (.agg (encPl q2 (.slice A2 q2.regs.length c2) lb2 lo2 mi2).toArray) := ⟨_, _, _, _, rfl, hr2, hlb2, hlo2, hmi2⟩
    obtain ⟨nv, hnv, hnear⟩ := near_spec μ1 q2 _ hp2 hwn (by omega)
    have hnv0 := hnv
    obtain ⟨An, cn, rfl, -, -⟩ := hnv0
    have hnl : (nearE q2).length ≤ 100000 := by
      unfold nearE
      rw [List.length_drop]
      omega
    have hm0 := hm0.mono hle1
    have hk0 := hk0.mono hle1
    have hm1 := hm1.mono hle1
    have hk1 := hk1.mono hle1
    have hm := hm.mono hle1
    have hsb1 := SB.gr (n := (kidE t 0).size) (m := szs (kidE t 1).kids) (hsbw.mono (by omega)) (hg0 q2 ⟨true, nearE q2, 0, false⟩ (withS s))
    repeat' (first | refine KK ?_ | refine NB fun b => ?_ | ((refine KB ?_ ?_ <;> intro hp)) | refine KG ?_ | fail)
    refine gc_draw 10 _ (by kernel_rfl) rfl (List.Sublist.cons_cons _ (List.Sublist.cons_cons _ (List.nil_sublist _))) ?_
    all_goals refine DD 0 ?_
    all_goals (first | refine D1 1 ?_ | (refine DV (k := 1) (b := by first | exact U1 0 | exact U4 hm0) (c := ?_)) | refine DD 1 ?_ | fail)
    all_goals (first | refine D1 2 ?_ | (refine DV (k := 2) (b := by first | exact U1 0 | exact U4 hm0) (c := ?_)) | (refine D3 2 (DW (b := by first | exact U1 0 | exact U4 hm0) (c := ?_))) | refine DD 2 ?_ | fail)
    all_goals (first | refine D1 3 ?_ | (refine DV (k := 3) (b := by first | exact U1 0 | exact U4 hm0) (c := ?_)) | refine DD 3 ?_ | fail)
    all_goals (first | refine D1 4 ?_ | (refine DV (k := 4) (b := by first | exact U1 0 | exact U4 hm0) (c := ?_)) | (refine D3 4 (DW (b := by first | exact U1 0 | exact U4 hm0) (c := ?_))) | refine DD 4 ?_ | fail)
    all_goals (first | refine D1 5 ?_ | (refine DV (k := 5) (b := by first | exact U1 0 | exact U4 hm0) (c := ?_)) | (refine D3 5 (DW (b := by first | exact U1 0 | exact U4 hm0) (c := ?_))) | refine DD 5 ?_ | fail)
    all_goals (first | refine D1 6 ?_ | (refine DV (k := 6) (b := by first | exact U1 0 | exact U4 hm0) (c := ?_)) | (refine D3 6 (DW (b := by first | exact U1 0 | exact U4 hm0) (c := ?_))) | refine DD 6 ?_ | fail)
    all_goals (first | (refine D3 7 ?_; refine D5 ?_; (first | ((with_reducible apply F1 35); exact rfl; exact EN; (exact fun w μc hw hse => hnear w μc hw hse.le)) | (refine CF 34 ?_; (with_reducible apply g_ce 2); exact rfl; exact rfl; exact rfl; ((with_reducible apply e_call4); kernel_rfl; exact rfl; exact rfl; exact rfl; exact rfl); exact rfl; (exact hR); (exact hb0 xb mb _ _ _ q2 ⟨true, nearE q2, 0, false⟩ _ _ hk0 hp2 hnv hnl (hPw _ (by omega)) (hsbw.mono (by omega)) hm); (intro v1 μ1 i1 hle1 hR); (dsimp only [List.cons_append, List.nil_append]); (have hm1 := hm1.mono hle1); (have hk1 := hk1.mono hle1); (have hp2 := hp2.mono hle1); (have hm := hm.mono hle1))); refine D9 ?_))
    all_goals refine DD 8 ?_
    all_goals (first | (refine D3 9 ?_; refine D5 ?_; (first | ((with_reducible apply F1 35); exact rfl; exact EN; (exact fun w μc hw hse => hnear w μc hw hse.le)) | (refine CF 34 ?_; (with_reducible apply g_ce 2); exact rfl; exact rfl; exact rfl; ((with_reducible apply e_call4); kernel_rfl; exact rfl; exact rfl; exact rfl; exact rfl); exact rfl; (exact hR); (exact hb0 xb mb _ _ _ q2 ⟨true, nearE q2, 0, false⟩ _ _ hk0 hp2 hnv hnl (hPw _ (by omega)) (hsbw.mono (by omega)) hm); (intro v1 μ1 i1 hle1 hR); (dsimp only [List.cons_append, List.nil_append]); (have hm1 := hm1.mono hle1); (have hk1 := hk1.mono hle1); (have hp2 := hp2.mono hle1); (have hm := hm.mono hle1))); refine D9 ?_))
    all_goals refine D8 ?_
    all_goals repeat' (first | refine KK ?_ | refine NB fun b => ?_ | ((refine KB ?_ ?_ <;> intro hp)) | refine KG ?_ | fail)
    all_goals
      refine gc_draw 8 _ (by kernel_rfl) rfl (List.Sublist.cons_cons _ (List.Sublist.cons_cons _ (List.nil_sublist _))) ?_
      all_goals refine DD 0 ?_
      all_goals (first | refine D1 1 ?_ | (refine DV (k := 1) (b := by first | exact U1 1 | exact U4 hm1) (c := ?_)) | refine DD 1 ?_ | fail)
      all_goals (first | refine D1 2 ?_ | (refine DV (k := 2) (b := by first | exact U1 1 | exact U4 hm1) (c := ?_)) | (refine D3 2 (DW (b := by first | exact U1 1 | exact U4 hm1) (c := ?_))) | refine DD 2 ?_ | fail)
      all_goals (first | refine D1 3 ?_ | (refine DV (k := 3) (b := by first | exact U1 1 | exact U4 hm1) (c := ?_)) | refine DD 3 ?_ | fail)
      all_goals (first | refine D1 4 ?_ | (refine DV (k := 4) (b := by first | exact U1 1 | exact U4 hm1) (c := ?_)) | refine DD 4 ?_ | fail)
      all_goals (first | refine D1 5 ?_ | (refine DV (k := 5) (b := by first | exact U1 1 | exact U4 hm1) (c := ?_)) | (refine D3 5 (DW (b := by first | exact U1 1 | exact U4 hm1) (c := ?_))) | refine DD 5 ?_ | fail)
      all_goals (first | refine D1 6 ?_ | (refine DV (k := 6) (b := by first | exact U1 1 | exact U4 hm1) (c := ?_)) | (refine D3 6 (DW (b := by first | exact U1 1 | exact U4 hm1) (c := ?_))) | refine DD 6 ?_ | fail)
      all_goals (first | (refine D3 7 ?_; refine D5 ?_; refine CF 13 ?_; (with_reducible apply g_ce 2); exact rfl; exact rfl; exact rfl; ((with_reducible apply e_call3); kernel_rfl; exact rfl; exact rfl; exact rfl); exact rfl; (exact hR); (exact eall_spec N (kidE t 1).kids _ _ q2 _ _ xb mb (fun y hy => (hND y hy).1) hk1 hp2 (fun y hy => hPw _ (hND y hy).2) hsb1 (by omega) hm); (intro v1 μ1 i1 hle1 hR); (dsimp only [List.cons_append, List.nil_append]); refine D9 ?_))
      all_goals refine D8 ?_
    all_goals repeat' (first | refine KK ?_ | refine NB fun b => ?_ | ((refine KB ?_ ?_ <;> intro hp)) | refine KG ?_ | fail)
    all_goals exact ret_ce 2 i1 (by first | exact .inr rfl | exact .inl rfl) hcnt rfl rfl hs' hR
  rw [if_neg h20] at hs'
  by_cases h10 : t.op = 10 ∨ t.op = 11 ∨ t.op = 12 ∨ t.op = 13 ∨ t.op = 14
  · rw [if_pos h10] at hs'
    have h10' := h10
    rcases h10' with h | h | h | h | h
    all_goals repeat' (first | refine KO ?_ | (refine CF 36 ?_; (with_reducible apply g_ce 2); exact rfl; exact rfl; exact rfl; ((with_reducible apply e_call4); kernel_rfl; exact rfl; exact rfl; exact rfl; exact rfl); exact rfl; (exact hR); (exact eloop_spec N t hq h10 hts hNN xb mb _ _ _ q p.mine s _ hk hpq hmi (hPBq _ (Nat.le_refl _)) hqm hS hm); (intro v1 μ1 i1 hle1 hR); (dsimp only [List.cons_append, List.nil_append])) | refine KI ?_ | refine NB fun b => ?_ | ((refine KB ?_ ?_ <;> intro hp)) | refine KG ?_ | fail)
    all_goals try (exfalso; first | omega | contradiction)
    all_goals exact ret_ce 2 i1 (by first | exact .inr rfl | exact .inl rfl) hcnt rfl rfl hs' hR
  rw [if_neg h10] at hs'
  by_cases h21 : t.op = 21
  · rw [if_pos h21] at hs'
    have hk1 := hq.here.1.one (by omega)
    have hz := hsz
    rw [kids1 hk1, szs_cons] at hz
    obtain ⟨ad, x0, rfl, hm0, hox0, hk0⟩ := hget 0 _ (kidE_get (by omega))
    obtain ⟨hn0, hg0⟩ := hN _ (kidE_mem (t := t) (i := 0) (by omega))
    have hdr : ∀ y ∈ t.kids.drop 1, y ∈ t.kids := fun y hy => List.mem_of_mem_drop hy
    have hdp := hk.drop1 (by omega)
    have hld := len_szs (t.kids.drop 1)
    have hgA := (hg0 q s).trans (gr_with (F := FF) (N (kidE t 0) q s)) (Nat.le_refl _)
    have hsbA : SB (withS (N (kidE t 0) q s)) (szs (t.kids.drop 1)) := by
      have := hgA.wt
      unfold SB at hS ⊢
      omega
    have hregA : (N (kidE t 0) q s).regs ≤ 1000000 := by
      have := (hg0 q s).wt
      unfold SB at hS
      omega
    repeat' (first | refine KK ?_ | refine NB fun b => ?_ | ((refine KB ?_ ?_ <;> intro hp)) | refine KG ?_ | fail)
    all_goals try (exfalso; first | omega | contradiction)
    refine gc_draw 7 _ (by kernel_rfl) rfl (List.Sublist.cons_cons _ (List.Sublist.cons_cons _ (List.nil_sublist _))) ?_
    all_goals refine DD 0 ?_
    all_goals (first | refine D1 1 ?_ | (refine DV (k := 1) (b := by first | exact U1 0 | exact U4 hm0) (c := ?_)) | refine DD 1 ?_ | fail)
    all_goals (first | refine D1 2 ?_ | (refine DV (k := 2) (b := by first | exact U1 0 | exact U4 hm0) (c := ?_)) | (refine D3 2 (DW (b := by first | exact U1 0 | exact U4 hm0) (c := ?_))) | refine DD 2 ?_ | fail)
    all_goals (first | refine D1 3 ?_ | (refine DV (k := 3) (b := by first | exact U1 0 | exact U4 hm0) (c := ?_)) | refine DD 3 ?_ | fail)
    all_goals (first | refine D1 4 ?_ | (refine DV (k := 4) (b := by first | exact U1 0 | exact U4 hm0) (c := ?_)) | (refine D3 4 (DW (b := by first | exact U1 0 | exact U4 hm0) (c := ?_))) | refine DD 4 ?_ | fail)
    all_goals (first | refine D1 5 ?_ | (refine DV (k := 5) (b := by first | exact U1 0 | exact U4 hm0) (c := ?_)) | (refine D3 5 (DW (b := by first | exact U1 0 | exact U4 hm0) (c := ?_))) | refine DD 5 ?_ | fail)
    all_goals (first | (refine D3 6 ?_; refine D5 ?_; refine CF 18 ?_; (with_reducible apply g_ce 2); exact rfl; exact rfl; exact rfl; ((with_reducible apply e_call3); kernel_rfl; exact rfl; exact rfl; exact rfl); exact rfl; (exact hR); (exact hn0 xb mb _ _ q s _ hk0 hpq (hPBq _ (by omega)) (hS.mono (by omega)) hm); (intro v1 μ1 i1 hle1 hR); (dsimp only [List.cons_append, List.nil_append]); (have hdp := hdp.mono hle1); (have hpq := hpq.mono hle1); (have hm := hm.mono hle1); refine D9 ?_))
    all_goals refine D8 ?_
    all_goals repeat' (first | ((with_reducible show GC _ _ (Code.seq (Code.region 25 _ _) _) _ _ _ _); (apply gc_stop)) | refine KO ?_ | (refine CF 33 ?_; (with_reducible apply g_cer 2); exact rfl; exact rfl; exact rfl; ((with_reducible apply e_call2); kernel_rfl; exact rfl; exact rfl); exact rfl; (exact hR); (exact with_spec xb mb q _ (N (kidE t 0) q s) _ hpq hqr hregA); (intro v1 μ1 i1 hle1 hR hP1); (dsimp only [List.cons_append, List.nil_append]); (have hdp := hdp.mono hle1); (have hm := hm.mono hle1); (obtain ⟨r2, lb2, lo2, mi2, rfl, hr2, hlb2, hlo2, hmi2⟩ := hP1); (have q1 := hr2.one); (have q2 := hlb2.one); (have q3 := hlo2.one); (have q4 := hmi2.one); (have hr2f := hr2); (obtain ⟨A2, c2, rfl, -, -⟩ := hr2f)) | refine KI ?_ | refine NB fun b => ?_ | ((refine KB ?_ ?_ <;> intro hp)) | refine KG ?_ | fail)
    have hPw := hPBw (N (kidE t 0) q s)
    generalize withP q (N (kidE t 0) q s) = q2 at hs' hr2 hlb2 hlo2 hmi2 hPw ⊢
    refine gcs ?_
    repeat' (first | refine KK ?_ | refine NB fun b => ?_ | ((refine KB ?_ ?_ <;> intro hp)) | refine KG ?_ | fail)
    refine gc_draw 6 _ (by kernel_rfl) rfl (List.Sublist.cons_cons _ (List.Sublist.cons_cons _ (List.nil_sublist _))) ?_
    all_goals refine DD 0 ?_
    all_goals (first | refine D1 1 ?_ | (refine DV (k := 1) (b := by first | ((with_reducible apply v_slice_lo 1); exact rfl; exact rfl; exact rfl; exact rfl; omega; omega)) (c := ?_)) | refine DD 1 ?_ | fail)
    all_goals (first | refine D1 2 ?_ | (refine DV (k := 2) (b := by first | ((with_reducible apply v_slice_lo 1); exact rfl; exact rfl; exact rfl; exact rfl; omega; omega)) (c := ?_)) | (refine D3 2 (DW (b := by first | ((with_reducible apply v_slice_lo 1); exact rfl; exact rfl; exact rfl; exact rfl; omega; omega)) (c := ?_))) | refine DD 2 ?_ | fail)
    all_goals (first | refine D1 3 ?_ | (refine DV (k := 3) (b := by first | ((with_reducible apply v_slice_lo 1); exact rfl; exact rfl; exact rfl; exact rfl; omega; omega)) (c := ?_)) | refine DD 3 ?_ | fail)
    all_goals (first | refine D1 4 ?_ | (refine DV (k := 4) (b := by first | ((with_reducible apply v_slice_lo 1); exact rfl; exact rfl; exact rfl; exact rfl; omega; omega)) (c := ?_)) | (refine D3 4 (DW (b := by first | ((with_reducible apply v_slice_lo 1); exact rfl; exact rfl; exact rfl; exact rfl; omega; omega)) (c := ?_))) | refine DD 4 ?_ | fail)
    all_goals (first | (refine D3 5 ?_; refine D5 ?_; refine CF 13 ?_; (with_reducible apply g_ce 2); exact rfl; exact rfl; exact rfl; ((with_reducible apply e_call3); kernel_rfl; exact rfl; exact rfl; exact rfl); exact rfl; (exact hR); (exact eall_spec N (t.kids.drop 1) _ _ { q2 with choice := true } _ _ xb mb (fun y hy => hN y (hdr y hy)) hdp ⟨_, _, _, _, rfl, hr2, hlb2, hlo2, hmi2⟩ (fun y hy => ⟨(hPw _ (hlek y (hdr y hy))).ne, (hPw _ (hlek y (hdr y hy))).regs, (hPw _ (hlek y (hdr y hy))).labels, (hPw _ (hlek y (hdr y hy))).loops⟩) hsbA (by omega) hm); (intro v1 μ1 i1 hle1 hR); (dsimp only [List.cons_append, List.nil_append]); refine D9 ?_))
    all_goals refine D8 ?_
    all_goals repeat' (first | refine KK ?_ | refine NB fun b => ?_ | ((refine KB ?_ ?_ <;> intro hp)) | refine KG ?_ | fail)
    all_goals exact ret_ce 2 i1 (by first | exact .inr rfl | exact .inl rfl) hcnt rfl rfl hs' hR
  rw [if_neg h21] at hs'
  by_cases h9 : t.op = 9
  · rw [if_pos h9] at hs'
    have hk1 := hq.here.1.one (by omega)
    have hz := hsz
    rw [kids1 hk1, szs_cons] at hz
    obtain ⟨ad, x0, rfl, hm0, hox0, hk0⟩ := hget 0 _ (kidE_get (by omega))
    obtain ⟨hn0, hg0⟩ := hN _ (kidE_mem (t := t) (i := 0) (by omega))
    have hdr : ∀ y ∈ t.kids.drop 1, y ∈ t.kids := fun y hy => List.mem_of_mem_drop hy
    have hdp := hk.drop1 (by omega)
    have hld := len_szs (t.kids.drop 1)
    have hdl : (t.kids.drop 1).length = t.kids.length - 1 := List.length_drop
    have hlb : (t.kids.drop 1).length ≤ 100000 := by omega
    have hsbA := SB.gr (s' := N (kidE t 0) q s) (n := (kidE t 0).size) (m := szs (t.kids.drop 1)) (hS.mono (by omega)) (hg0 q s)
    repeat' (first | refine KK ?_ | refine NB fun b => ?_ | ((refine KB ?_ ?_ <;> intro hp)) | refine KG ?_ | fail)
    all_goals try (exfalso; first | omega | contradiction)
    refine gc_draw 7 _ (by kernel_rfl) rfl (List.Sublist.cons_cons _ (List.Sublist.cons_cons _ (List.nil_sublist _))) ?_
    all_goals refine DD 0 ?_
    all_goals (first | refine D1 1 ?_ | (refine DV (k := 1) (b := by first | exact U1 0 | exact U4 hm0) (c := ?_)) | refine DD 1 ?_ | fail)
    all_goals (first | refine D1 2 ?_ | (refine DV (k := 2) (b := by first | exact U1 0 | exact U4 hm0) (c := ?_)) | (refine D3 2 (DW (b := by first | exact U1 0 | exact U4 hm0) (c := ?_))) | refine DD 2 ?_ | fail)
    all_goals (first | refine D1 3 ?_ | (refine DV (k := 3) (b := by first | exact U1 0 | exact U4 hm0) (c := ?_)) | refine DD 3 ?_ | fail)
    all_goals (first | refine D1 4 ?_ | (refine DV (k := 4) (b := by first | exact U1 0 | exact U4 hm0) (c := ?_)) | (refine D3 4 (DW (b := by first | exact U1 0 | exact U4 hm0) (c := ?_))) | refine DD 4 ?_ | fail)
    all_goals (first | refine D1 5 ?_ | (refine DV (k := 5) (b := by first | exact U1 0 | exact U4 hm0) (c := ?_)) | (refine D3 5 (DW (b := by first | exact U1 0 | exact U4 hm0) (c := ?_))) | refine DD 5 ?_ | fail)
    all_goals (first | (refine D3 6 ?_; refine D5 ?_; refine CF 18 ?_; (with_reducible apply g_ce 2); exact rfl; exact rfl; exact rfl; ((with_reducible apply e_call3); kernel_rfl; exact rfl; exact rfl; exact rfl); exact rfl; (exact hR); (exact hn0 xb mb _ _ q s _ hk0 hpq (hPBq _ (by omega)) (hS.mono (by omega)) hm); (intro v1 μ1 i1 hle1 hR); (dsimp only [List.cons_append, List.nil_append]); (have hdp := hdp.mono hle1); (have hpq := hpq.mono hle1); (have hm := hm.mono hle1); refine D9 ?_))
    all_goals refine D8 ?_
    all_goals repeat' (first | refine KO ?_ | (refine KV (b := by first | ((with_reducible apply v_slice_lo 1); exact rfl; exact rfl; exact rfl; exact rfl; omega; omega)) (c := ?_)) | refine KI ?_ | refine NB fun b => ?_ | ((refine KB ?_ ?_ <;> intro hp)) | refine KG ?_ | fail)
    rw [← hdl] at hdp ⊢
    obtain ⟨A3, c3, e3, hcap3, hget3⟩ := hdp.form
    rw [e3]
    generalize hs0 : N (kidE t 0) q s = s0 at hR hs' hsbA ⊢
    generalize hl3 : t.kids.drop 1 = l3 at hs' hdr hld hlb hsbA hget3 ⊢
    refine gc_loop (ι := Nat × Mem × List FR) (fun y => y.1 ≤ l3.length ∧ MLe μ1 y.2.1 ∧ ER y.2.1 y.2.2 ((l3.take y.1).foldl (fun s k => aloneE N k q s) s0)) (fun y => l3.length - y.1) (fun y => y.2.1) (fun y => [(121, .int .i64 (y.1 : Int)), (120, .int .i64 (l3.length : Int)), (119, .slice A3 l3.length c3), (5, .pointer (some ⟨bp, 0, none⟩)), (0, .pointer (some ⟨xb, 0, none⟩))]) (fun y => .inl ⟨bp, 47, 12, idx 0 (encPl q (.slice Ar p.regs.length cr) (.slice Al p.labels.length cl) (.slice Ao p.loops.length co) (.slice none 0 0))⟩ :: EB xb mb ((l3.take y.1).foldl (fun s k => aloneE N k q s) s0) y.2.2) (0, μ1, i1) ⟨Nat.zero_le _, MLe.refl _, hR⟩ (fun a w hs => hs.sel PU (sel_0 (.refl _) (sel_drop _ (sel_all _)))) ?_
    clear hR
    rintro ⟨i, μ0, fs0⟩ ⟨hi, hle0, hR⟩
    dsimp only at hi hle0 hR ⊢
    by_cases hlt : i < l3.length
    · obtain ⟨k, hkk⟩ : ∃ k, l3[i]? = some k := ⟨_, List.getElem?_eq_getElem hlt⟩
      obtain ⟨ad3, x3, rfl, hm3, hox3, hkx3⟩ := hget3 i k hkk
      have hmem := hdr k (List.mem_of_getElem? hkk)
      have hmm := hm3.mono hle0
      obtain ⟨hn1, -⟩ := hN k hmem
      have hz3 := szs_take hkk
      have hgr : Gr FF (2 * szs (l3.take i)) s0 ((l3.take i).foldl (fun s k => aloneE N k q s) s0) := by
        have h9 := gr_fold (F := FF) (g := (fun s k => aloneE N k q s)) (c := fun k => 2 * T.size k) (l3.take i) s0 (fun k hk s => gr_alone k (fun p s => (hN k (hdr k (List.mem_of_mem_take hk))).2 p s) q s)
        rwa [sum_two] at h9
      have hsb := SB.gr (n := szs (l3.take i)) (m := k.size) (hsbA.mono (by omega)) hgr
      have hnext : (fun s k => aloneE N k q s) ((l3.take i).foldl (fun s k => aloneE N k q s) s0) k = ((l3.take (i + 1)).foldl (fun s k => aloneE N k q s) s0) := (fold_take (fun s k => aloneE N k q s) l3 s0 hkk).symm
      dsimp only at hnext
      repeat' (first | refine KO ?_ | (refine CF 37 ?_; (with_reducible apply g_ce 2); exact rfl; exact rfl; exact rfl; ((with_reducible apply e_call3); kernel_rfl; exact rfl; exact rfl; exact rfl); exact rfl; (exact hR); (exact ealone_spec N k hn1 _ _ q _ _ xb mb (hkx3.mono hle0) (hpq.mono hle0) (hPBq _ (Nat.le_of_lt (hlek k hmem))) hsb (hm.mono hle0)); (intro v1 μ1 i1 hle1 hR); (dsimp only [List.cons_append, List.nil_append])) | (refine KV (b := by first | exact U1 i | exact U4 hmm) (c := ?_)) | refine KI ?_ | refine NB fun b => ?_ | ((refine KB ?_ ?_ <;> intro hp)) | refine KG ?_ | fail)
      all_goals try (exfalso; first | omega | contradiction)
      rw [hnext] at hR ⊢
      exact gq_backS (i + 1, μ1, i1) ⟨by dsimp only; omega, hle0.trans hle1, hR⟩ (by dsimp only; omega) rfl PU (sel_1 (.refl _) (sel_drop _ (sel_all _)))
    · have hil : i = l3.length := by omega
      subst hil
      rw [List.take_of_length_le (Nat.le_refl _)] at hR ⊢
      repeat' (first | refine KK ?_ | refine NB fun b => ?_ | ((refine KB ?_ ?_ <;> intro hp)) | refine KG ?_ | fail)
      all_goals try (exfalso; first | omega | contradiction)
      all_goals exact ret_ce 1 fs0 (by first | exact .inr rfl | exact .inl rfl) hcnt rfl rfl hs' hR
  rw [if_neg h9] at hs'
  by_cases h23 : t.op = 23
  rotate_left
  · rw [if_neg h23] at hs'
    repeat' (first | refine KO ?_ | (refine CF 42 ?_; (with_reducible apply g_ce 2); exact rfl; exact rfl; exact rfl; ((with_reducible apply e_call3); kernel_rfl; exact rfl; exact rfl; exact rfl); exact rfl; (exact hR); (exact epart_spec N t hq hts hNN xb mb _ _ q s _ hk hpq (hPBq _ (Nat.le_refl _)) hS hm); (intro v1 μ1 i1 hle1 hR); (dsimp only [List.cons_append, List.nil_append])) | refine KI ?_ | refine NB fun b => ?_ | ((refine KB ?_ ?_ <;> intro hp)) | refine KG ?_ | fail)
    all_goals try (exfalso; first | omega | contradiction)
    all_goals exact ret_ce 2 i1 (by first | exact .inr rfl | exact .inl rfl) hcnt rfl rfl hs' hR
  rw [if_pos h23] at hs'
  have hk1 := hq.here.1.one (by omega)
  have hz := hsz
  rw [kids1 hk1, szs_cons] at hz
  obtain ⟨ad, x0, rfl, hm0, hox0, hk0⟩ := hget 0 _ (kidE_get (by omega))
  obtain ⟨hn0, hg0⟩ := hN _ (kidE_mem (t := t) (i := 0) (by omega))
  obtain ⟨cl1, hcl1⟩ : ∃ b, q.labels.contains t.s = b := ⟨_, rfl⟩
  rw [hcl1] at hs'
  have hgb := (gr_name (F := FF) wdF t t.s q s).trans (gr_bad cl1 t.at' 31 _) (Nat.le_refl _)
  have hsbA := SB.gr (n := 0) (m := (kidE t 0).size) (hS.mono (by omega)) hgb
  have hqb : SsV μ (.slice Al p.labels.length cl) q.labels := by rw [hql]; exact hplb
  repeat' (first | refine KO ?_ | (refine CF 38 ?_; (with_reducible apply g_ce 2); exact rfl; exact rfl; exact rfl; ((with_reducible apply e_call4); kernel_rfl; exact rfl; exact rfl; exact rfl; exact rfl); exact rfl; (exact hR); (exact ename_spec xb mb t _ ou _ (by omega) q _ s _ hpq hm); (intro v1 μ1 i1 hle1 hR); (dsimp only [List.cons_append, List.nil_append]); (have hlq := hqb.mono hle1); (have hleA := hle1); (have hm0 := hm0.mono hle1); (have hk0 := hk0.mono hle1); (have hpq := hpq.mono hle1); (have hmi := hmi.mono hle1); (have hm := hm.mono hle1)) | refine KI ?_ | refine NB fun b => ?_ | ((refine KB ?_ ?_ <;> intro hp)) | refine KG ?_ | fail)
  all_goals try (exfalso; first | omega | contradiction)
  refine gc_draw 9 _ (by kernel_rfl) rfl (List.Sublist.cons_cons _ (List.Sublist.cons_cons _ (List.nil_sublist _))) ?_
  all_goals refine DD 0 ?_
  all_goals refine DD 1 ?_
  all_goals refine DD 2 ?_
  all_goals refine DD 3 ?_
  all_goals refine DD 4 ?_
  all_goals refine DD 5 ?_
  all_goals refine DD 6 ?_
  all_goals (first | (refine D3 7 ?_; refine D5 ?_; (first | ((with_reducible apply F1 40); exact rfl; exact EN; (exact fun w μc hw hse => contains_is t.s q.labels _ hcl1 _ w μc hw (hlq.mono hse.le) (by rw [hql]; omega))) | (refine CF 39 ?_; (with_reducible apply g_ce 2); exact rfl; exact rfl; exact rfl; ((with_reducible apply e_call4); kernel_rfl; exact rfl; exact rfl; exact rfl; exact rfl); exact rfl; (exact hR); (exact bad_spec xb mb t _ ou _ _ _ _); (intro v1 μ1 i1 hle1 hR); (dsimp only [List.cons_append, List.nil_append]); (have hlq := hlq.mono hle1); (have hleA := hleA.trans hle1); (have hm0 := hm0.mono hle1); (have hk0 := hk0.mono hle1); (have hpq := hpq.mono hle1); (have hmi := hmi.mono hle1); (have hm := hm.mono hle1))); refine D9 ?_))
  all_goals (first | (refine D3 8 ?_; refine D5 ?_; (first | ((with_reducible apply F1 40); exact rfl; exact EN; (exact fun w μc hw hse => contains_is t.s q.labels _ hcl1 _ w μc hw (hlq.mono hse.le) (by rw [hql]; omega))) | (refine CF 39 ?_; (with_reducible apply g_ce 2); exact rfl; exact rfl; exact rfl; ((with_reducible apply e_call4); kernel_rfl; exact rfl; exact rfl; exact rfl; exact rfl); exact rfl; (exact hR); (exact bad_spec xb mb t _ ou _ _ _ _); (intro v1 μ1 i1 hle1 hR); (dsimp only [List.cons_append, List.nil_append]); (have hlq := hlq.mono hle1); (have hleA := hleA.trans hle1); (have hm0 := hm0.mono hle1); (have hk0 := hk0.mono hle1); (have hpq := hpq.mono hle1); (have hmi := hmi.mono hle1); (have hm := hm.mono hle1))); refine D9 ?_))
  all_goals refine D8 ?_
  repeat' (first | ((with_reducible show GC _ _ (Code.seq (Code.region 37 _ _) _) _ _ _ _); (apply gc_stop)) | refine KK ?_ | refine NB fun b => ?_ | ((refine KB ?_ ?_ <;> intro hp)) | refine KG ?_ | fail)
  have hlp := hplb.mono hleA
  have e1 : (p.labels.flatMap encStr).length = p.labels.length := flatS p.labels
  have e2 := ones_S p.labels
  refine gcs (gc_join (ι := Mem × Value) (fun y => MLe μ1 y.1 ∧ SsV y.1 y.2 (p.labels ++ [t.s])) (fun y => y.1) (fun _ => [(0, .pointer (some ⟨xb, 0, none⟩)), (4, .pointer (some ⟨bn, 0, none⟩)), (5, .pointer (some ⟨bp, 0, none⟩)), (6, (.slice Am p.mine.length cm))]) (fun y => .inl ⟨bp, 47, 12, idx 0 (encPl { q with labels := p.labels ++ [t.s] } (.slice Ar p.regs.length cr) y.2 (.slice Ao p.loops.length co) (.slice none 0 0))⟩ :: .inl ⟨bn, 27, 6, idx 0 (encT t (.slice (some ad) t.kids.length c))⟩ :: EB xb mb (badE cl1 t.at' 31 (nameE wdF t t.s q s)) i1) ?_ ?_)
  · refine gc_draw 11 _ (by kernel_rfl) rfl (List.Sublist.cons _ (List.Sublist.cons_cons _ (List.nil_sublist _))) ?_
    all_goals refine DD 0 ?_
    all_goals refine DD 1 ?_
    all_goals refine DD 4 ?_
    all_goals refine DD 5 ?_
    refine ga_all2 2 6 (by kernel_rfl) ?dr1_2 ?dr1_6
    case' dr1_2 =>
      (first | ((with_reducible apply gaop_val); exact rfl; exact rfl; exact rfl; exact rfl; (first | ((with_reducible apply pv_sound); exact rfl) | ((with_reducible apply v_ld); exact rfl; (repeat first | with_reducible exact inb_hd | with_reducible apply inb_tl); exact rfl))))
      refine ga_all2 3 6 (by kernel_rfl) ?dr2_3 ?dr2_6
      case' dr2_3 =>
        (first | (refine D5 ?_; (with_reducible apply F3 41); exact rfl; exact EN; (exact fun w μc hw hse => clone_S w μc hw p.labels _ (hlp.mono hse.le) (by omega)); intro vr; refine D9 ?_))
        all_goals (first | (refine D3 6 ?_; refine D5 ?_; refine NB fun b => ?_; refine D9 ?_))
        all_goals (first | (refine D3 7 ?_; refine D5 ?_; refine AI (k := fun g cap hcap => ?_); refine D9 ?_))
        all_goals refine DD 8 ?_
        all_goals refine DD 9 ?_
        all_goals (first | (refine D3 10 ?_; refine D5 ?_; refine Y0 ?_; refine D9 ?_))
        all_goals refine D8 ?_
      case' dr2_6 =>
        (first | (refine D5 ?_; refine NB fun b => ?_; refine D9 ?_))
        all_goals (first | (refine D3 3 ?_; refine D5 ?_; (with_reducible apply F3 41); exact rfl; exact EN; (exact fun w μc hw hse => clone_S w μc hw p.labels _ (hlp.mono hse.le) (by omega)); intro vr; refine D9 ?_))
        all_goals (first | (refine D3 7 ?_; refine D5 ?_; refine AI (k := fun g cap hcap => ?_); refine D9 ?_))
        all_goals refine DD 8 ?_
        all_goals refine DD 9 ?_
        all_goals (first | (refine D3 10 ?_; refine D5 ?_; refine Y0 ?_; refine D9 ?_))
        all_goals refine D8 ?_
    case' dr1_6 =>
      (first | (refine D5 ?_; refine NB fun b => ?_; refine D9 ?_))
      all_goals (first | (refine D3 2 ?_; (with_reducible apply gaop_val); exact rfl; exact rfl; exact rfl; exact rfl; (first | ((with_reducible apply pv_sound); exact rfl) | ((with_reducible apply v_ld); exact rfl; (repeat first | with_reducible exact inb_hd | with_reducible apply inb_tl); exact rfl))))
      all_goals (first | (refine D3 3 ?_; refine D5 ?_; (with_reducible apply F3 41); exact rfl; exact EN; (exact fun w μc hw hse => clone_S w μc hw p.labels _ (hlp.mono hse.le) (by omega)); intro vr; refine D9 ?_))
      all_goals (first | (refine D3 7 ?_; refine D5 ?_; refine AI (k := fun g cap hcap => ?_); refine D9 ?_))
      all_goals refine DD 8 ?_
      all_goals refine DD 9 ?_
      all_goals (first | (refine D3 10 ?_; refine D5 ?_; refine Y0 ?_; refine D9 ?_))
      all_goals refine D8 ?_
    all_goals repeat' (first | refine KK ?_ | refine NB fun b => ?_ | ((refine KB ?_ ?_ <;> intro hp)) | refine KG ?_ | fail)
    all_goals first
      | (refine gq_share_0 rfl ?_; intro μ4 hle4 hsh4; have hv := SsV.of_row (xs := p.labels ++ [t.s]) hsh4 (by simp) (by rw [List.flatMap_append]; rfl))
      | (refine gq_share_1 rfl ?_; intro μ4 hle4 hsh4; have hv := SsV.of_row (xs := p.labels ++ [t.s]) hsh4 (by simp) (by rw [List.flatMap_append]; rfl))
    all_goals exact gq_joinS (μ4, _) ⟨hle4, hv⟩ rfl PU (sel_1 (.cells PU) (sel_1 (.cells PU) (sel_drop _ (sel_all _))))
  rintro ⟨μ2, lv⟩ ⟨hle2, hlv⟩
  dsimp only at hle2 hlv ⊢
  have olv := hlv.one
  have hm0 := hm0.mono hle2
  have hk0 := hk0.mono hle2
  have hpr := hpr.mono (hleA.trans hle2)
  have hplo := hplo.mono (hleA.trans hle2)
  have hmi := hmi.mono hle2
  have hm := hm.mono hle2
  have hR := hR.mono hle2
  have e1 : (p.mine.flatMap encStr).length = p.mine.length := flatS p.mine
  have e2 := ones_S p.mine
  refine gc_join (ι := Mem × Value) (fun y => MLe μ2 y.1 ∧ SsV y.1 y.2 (p.mine ++ [t.s])) (fun y => y.1) (fun _ => [(0, .pointer (some ⟨xb, 0, none⟩)), (4, .pointer (some ⟨bn, 0, none⟩)), (5, .pointer (some ⟨bp, 0, none⟩))]) (fun y => .inl ⟨bp, 47, 12, idx 0 (encPl { q with labels := p.labels ++ [t.s], mine := p.mine ++ [t.s] } (.slice Ar p.regs.length cr) lv (.slice Ao p.loops.length co) y.2)⟩ :: .inl ⟨bn, 27, 6, idx 0 (encT t (.slice (some ad) t.kids.length c))⟩ :: EB xb mb (badE cl1 t.at' 31 (nameE wdF t t.s q s)) i1) ?_ ?_
  · refine gc_draw 8 _ (by kernel_rfl) rfl (List.Sublist.cons _ (List.Sublist.cons_cons _ (List.nil_sublist _))) ?_
    all_goals refine DD 0 ?_
    all_goals refine DD 2 ?_
    all_goals refine DD 3 ?_
    refine ga_all2 1 4 (by kernel_rfl) ?dr3_1 ?dr3_4
    case' dr3_1 =>
      (first | (refine D5 ?_; (with_reducible apply F3 41); exact rfl; exact EN; (exact fun w μc hw hse => clone_S w μc hw p.mine _ (hmi.mono hse.le) (by omega)); intro vr; refine D9 ?_))
      all_goals (first | (refine D3 4 ?_; refine D5 ?_; refine NB fun b => ?_; refine D9 ?_))
      all_goals (first | (refine D3 5 ?_; refine D5 ?_; refine AI (k := fun g cap hcap => ?_); refine D9 ?_))
      all_goals refine DD 6 ?_
      all_goals (first | (refine D3 7 ?_; refine D5 ?_; refine Y0 ?_; refine D9 ?_))
      all_goals refine D8 ?_
    case' dr3_4 =>
      (first | (refine D5 ?_; refine NB fun b => ?_; refine D9 ?_))
      all_goals (first | (refine D3 1 ?_; refine D5 ?_; (with_reducible apply F3 41); exact rfl; exact EN; (exact fun w μc hw hse => clone_S w μc hw p.mine _ (hmi.mono hse.le) (by omega)); intro vr; refine D9 ?_))
      all_goals (first | (refine D3 5 ?_; refine D5 ?_; refine AI (k := fun g cap hcap => ?_); refine D9 ?_))
      all_goals refine DD 6 ?_
      all_goals (first | (refine D3 7 ?_; refine D5 ?_; refine Y0 ?_; refine D9 ?_))
      all_goals refine D8 ?_
    all_goals repeat' (first | refine KK ?_ | refine NB fun b => ?_ | ((refine KB ?_ ?_ <;> intro hp)) | refine KG ?_ | fail)
    all_goals first
      | (refine gq_share_0 rfl ?_; intro μ4 hle4 hsh4; have hv := SsV.of_row (xs := p.mine ++ [t.s]) hsh4 (by simp) (by rw [List.flatMap_append]; rfl))
      | (refine gq_share_1 rfl ?_; intro μ4 hle4 hsh4; have hv := SsV.of_row (xs := p.mine ++ [t.s]) hsh4 (by simp) (by rw [List.flatMap_append]; rfl))
    all_goals exact gq_joinS (μ4, _) ⟨hle4, hv⟩ rfl PU (sel_1 (.cells PU) (sel_1 (.cells PU) (sel_drop _ (sel_all _))))
  rintro ⟨μ3, mv⟩ ⟨hle3, hmv⟩
  dsimp only at hle3 hmv ⊢
  have omv := hmv.one
  have hm0 := hm0.mono hle3
  have hp3 : PV μ3 { q with labels := p.labels ++ [t.s], mine := p.mine ++ [t.s] } (.agg (encPl { q with labels := p.labels ++ [t.s], mine := p.mine ++ [t.s] } (.slice Ar p.regs.length cr) lv (.slice Ao p.loops.length co) mv).toArray) := ⟨_, _, _, _, rfl, by show IsV _ _ q.regs; rw [hqg]; exact hpr.mono hle3, hlv.mono hle3, by show SsV _ _ q.loops; rw [hqo]; exact hplo.mono hle3, hmv⟩
  have hR := hR.mono hle3
  repeat' (first | refine KK ?_ | refine NB fun b => ?_ | ((refine KB ?_ ?_ <;> intro hp)) | refine KG ?_ | fail)
  refine gc_draw 7 _ (by kernel_rfl) rfl (List.Sublist.cons_cons _ (List.Sublist.cons_cons _ (List.nil_sublist _))) ?_
  all_goals refine DD 0 ?_
  all_goals (first | refine D1 1 ?_ | (refine DV (k := 1) (b := by first | exact U1 0 | exact U4 hm0) (c := ?_)) | refine DD 1 ?_ | fail)
  all_goals (first | refine D1 2 ?_ | (refine DV (k := 2) (b := by first | exact U1 0 | exact U4 hm0) (c := ?_)) | (refine D3 2 (DW (b := by first | exact U1 0 | exact U4 hm0) (c := ?_))) | refine DD 2 ?_ | fail)
  all_goals (first | refine D1 3 ?_ | (refine DV (k := 3) (b := by first | exact U1 0 | exact U4 hm0) (c := ?_)) | refine DD 3 ?_ | fail)
  all_goals (first | refine D1 4 ?_ | (refine DV (k := 4) (b := by first | exact U1 0 | exact U4 hm0) (c := ?_)) | (refine D3 4 (DW (b := by first | exact U1 0 | exact U4 hm0) (c := ?_))) | refine DD 4 ?_ | fail)
  all_goals (first | refine D1 5 ?_ | (refine DV (k := 5) (b := by first | exact U1 0 | exact U4 hm0) (c := ?_)) | (refine D3 5 (DW (b := by first | exact U1 0 | exact U4 hm0) (c := ?_))) | refine DD 5 ?_ | fail)
  all_goals (first | (refine D3 6 ?_; refine D5 ?_; refine CF 37 ?_; (with_reducible apply g_ce 2); exact rfl; exact rfl; exact rfl; ((with_reducible apply e_call3); kernel_rfl; exact rfl; exact rfl; exact rfl); exact rfl; (exact hR); (exact ealone_spec N (kidE t 0) hn0 _ _ { q with labels := p.labels ++ [t.s], mine := p.mine ++ [t.s] } _ _ xb mb (hk0.mono hle3) hp3 (hPBl t.s _ (by omega)) hsbA (hm.mono hle3)); (intro v1 μ1 i1 hle1 hR); (dsimp only [List.cons_append, List.nil_append]); refine D9 ?_))
  all_goals refine D8 ?_
  all_goals repeat' (first | refine KK ?_ | refine NB fun b => ?_ | ((refine KB ?_ ?_ <;> intro hp)) | refine KG ?_ | fail)
  all_goals exact ret_ce 2 i1 (by first | exact .inr rfl | exact .inl rfl) hcnt rfl rfl (by rw [← hs', hql]) hR
end Go.Proofs.YtfabmichdhbiaaaGreatDoor
namespace Go.Proofs.YtfabmichdhbiaaaGreatDoor
open Go.RowKit Go.Vcg
def bitT (t : T) (m : Int) : Bool := decide (t.op = 4) && decide (0 ≤ t.n) && decide ((IntKind.i64.wrap (t.n.tdiv m)).tmod 2 = 1)
def rStmtT (t : T) : Bool := decide (t.op = 2) || bitT t 1 || decide (6 ≤ t.op) && decide (t.op ≤ 19) || decide (t.op = 21) || decide (t.op = 23)
def rExprT (t : T) : Bool := if t.op = 4 then !bitT t 1 && !bitT t 8 && !bitT t 16 && !bitT t 32 else decide (30 ≤ t.op) && decide (t.op ≤ 38) || decide (42 ≤ t.op) && decide (t.op ≤ 54)
def loneT (t : T) : Bool := decide (t.op = 2) && decide (t.kids.length = 1) && len0 t 1
attribute [local irreducible] formB G GC GQ GA GAop Calls IntKind.wrap Int.decLt Int.decLe
end Go.Proofs.YtfabmichdhbiaaaGreatDoor
namespace Go.Proofs.YtfabmichdhbiaaaGreatDoor
open Go.RowKit Go.Vcg
def opsL : List (Int × Int) := [(68, 3), (80, 5), (66, 6), (75, 22), (82, 39), (81, 62), (90, 64)]
noncomputable def restT (c : Int) (t : T) : Bool :=
  if c = 70 then targetT t || decide (t.op = 63)
  else if c = 72 then targetT t || decide (t.op = 63) || decide (t.op = 40)
  else if c = 107 then decide (t.op = 31) || decide (t.op = 30)
  else if c = 119 then namedT t
  else if c = 103 then bitT t 16 && len0 t 0
  else if c = 115 then bitT t 32 && set0 t
  else if c = 109 then bitT t 8
  else match opsL.find? (fun x => decide (x.1 = c)) with | some x => decide (t.op = x.2) | none => false
noncomputable def isT (c : Int) (t : T) : Bool :=
  if c = 83 then rStmtT t
  else if c = 69 then rExprT t
  else if c = 84 then targetT t
  else if c = 116 then simpleT t
  else if c = 99 then linkT t
  else if c = 73 then decide (t.op = 2) || decide (t.op = 8) || decide (t.op = 7)
  else if c = 77 then rExprT t || decide (t.op = 7)
  else if c = 76 then targetT t || loneT t
  else if c = 89 then decide (t.op = 6) || decide (t.op = 7)
  else if c = 67 then decide (t.op = 20) || decide (t.op = 7)
  else if c = 71 then targetT t || decide (t.op = 7)
  else if c = 65 then rExprT t || decide (t.op = 40) || decide (t.op = 41)
  else if c = 97 then rExprT t || decide (t.op = 41)
  else restT c t
attribute [local irreducible] rStmtT rExprT targetT simpleT linkT loneT namedT bitT restT formB G GC GQ GA GAop Calls IntKind.wrap Int.decLt Int.decLe
end Go.Proofs.YtfabmichdhbiaaaGreatDoor
namespace Go.Proofs.YtfabmichdhbiaaaGreatDoor
open Go.RowKit Go.Vcg
attribute [local irreducible] targetT namedT bitT formB G GC GQ GA GAop Calls IntKind.wrap Int.decLt Int.decLe
end Go.Proofs.YtfabmichdhbiaaaGreatDoor
namespace Go.Proofs.YtfabmichdhbiaaaGreatDoor
open Go.RowKit Go.Vcg
noncomputable def rowP : List UInt8 → List T → Bool
  | [], l => decide (l.length = 0)
  | [c], l => match l with
    | k :: r => if isT (c.toNat : Int) k = true then decide (r.length = 0) else false
    | [] => false
  | c :: d :: rr, l =>
    if d = 42 then rowP rr (l.dropWhile (isT (c.toNat : Int)))
    else match l with
      | k :: r => if isT (c.toNat : Int) k = true then (if d = 63 then rowP rr r else rowP (d :: rr) r) else (if d = 63 then rowP rr (k :: r) else false)
      | [] => if d = 63 then rowP rr [] else false
attribute [local irreducible] isT G GC GQ GA GAop Calls IntKind.wrap Int.decLt Int.decLe
end Go.Proofs.YtfabmichdhbiaaaGreatDoor
namespace Go.Proofs.YtfabmichdhbiaaaGreatDoor
open Go.RowKit Go.Vcg
attribute [local irreducible] templB chB rExprT linkT G GC GQ GA GAop Calls IntKind.wrap Int.decLt Int.decLe
end Go.Proofs.YtfabmichdhbiaaaGreatDoor
namespace Go.Proofs.YtfabmichdhbiaaaGreatDoor
open Go.RowKit Go.Vcg
def bitL : List Int := [1, 2, 8, 16, 32]
def whatT (h : Int → Bool) (k : Nat) : Nat := ((bitL.take k).filter h).length
theorem whatT_0 (h : Int → Bool) : whatT h 0 = 0 := rfl
theorem whatT_s {h : Int → Bool} {k : Nat} {m : Int} (hk : bitL[k]? = some m) : whatT h (k + 1) = whatT h k + (if h m = true then 1 else 0) := by
  unfold whatT
  rw [List.take_add_one, hk, List.filter_append, List.length_append]
  cases hm : h m <;> simp [List.filter_cons, hm]
theorem whatT_le (h : Int → Bool) (k : Nat) : whatT h k ≤ 5 := by
  unfold whatT
  have h1 := List.length_filter_le h (bitL.take k)
  have h2 : (bitL.take k).length ≤ 5 := by rw [List.length_take]; exact Nat.min_le_right _ _
  omega
noncomputable def bitsT (t : T) : Bool :=
  if t.n < 0 ∨ 255 < t.n ∨ t.s ≠ ⟨#[]⟩ ∧ formB t.s = false then false
  else if 1 < whatT (hasT t) 5 ∨ hasT t 4 = true ∧ hasT t 50 = true ∨ hasT t 128 = true ∧ hasT t 2 = false then false
  else if hasT t 1 = true then decide (t.s ≠ ⟨#[]⟩)
  else decide (whatT (hasT t) 5 = 0) || decide (t.s = ⟨#[]⟩)
attribute [local irreducible] formB hasT whatT G GC GQ GA GAop Calls IntKind.wrap Int.decLt Int.decLe
theorem bits_spec (t : T) (u : Value) (w : World) (μ : Mem) (hμ : MOk μ w) (hk : KR μ t.kids u) (hs : t.size ≤ 100000) (hss : t.s.size ≤ 65536) :
    Calls Tryz.prog 49 #[.agg (encT t u).toArray] w fun e w' => e = .returned (.bool (bitsT t)) ∧ Below w.heap.size w w' := by
  have ho := hk.one
  refine call_intro (args := [.agg (encT t u).toArray]) Tryz.func49 rfl Tryz.ntmps49 (by simp) hμ ?_
  have hform := fun (w : World) (μc : Mem) (hw : MOk μc w) => form_spec t.s hss w μc hw
  have hhas := fun (m : Int) (w : World) (μc : Mem) (hw : MOk μc w) (hle : MLe μ μc) => tHas_spec m t u w μc hw (hk.mono hle) hs
  by_cases h1 : t.n < 0 ∨ 255 < t.n ∨ t.s ≠ ⟨#[]⟩ ∧ formB t.s = false
  · have hg : bitsT t = false := by unfold bitsT; rw [if_pos h1]
    rw [hg]
    repeat' (first | ((with_reducible show GC _ _ (Code.seq (Code.region 3 _ _) _) _ _ _ _); (apply gc_stop)) | refine KO ?_ | ((with_reducible apply F1 86); exact rfl; exact EN; (exact fun w μc hw hse => hform w μc hw)) | refine KI ?_ | refine NB fun b => ?_ | ((refine KB ?_ ?_ <;> intro hp)) | refine KG ?_ | fail)
    all_goals first | exact ret_s rfl rfl rfl | (exfalso; omega) | (exfalso; simp_all; try omega)
  · repeat' (first | ((with_reducible show GC _ _ (Code.seq (Code.region 3 _ _) _) _ _ _ _); (apply gc_stop)) | refine KO ?_ | ((with_reducible apply F1 86); exact rfl; exact EN; (exact fun w μc hw hse => hform w μc hw)) | refine KI ?_ | refine NB fun b => ?_ | ((refine KB ?_ ?_ <;> intro hp)) | refine KG ?_ | fail)
    rotate_left
    · exfalso
      simp_all
    rotate_left
    all_goals
      refine gcs ?_
      rename Nat => ba
      have hg : bitsT t = (if 1 < whatT (hasT t) 5 ∨ hasT t 4 = true ∧ hasT t 50 = true ∨ hasT t 128 = true ∧ hasT t 2 = false then false else if hasT t 1 = true then decide (t.s ≠ ⟨#[]⟩) else decide (whatT (hasT t) 5 = 0) || decide (t.s = ⟨#[]⟩)) := by unfold bitsT; rw [if_neg h1]
      have hw5 := whatT_le (hasT t) 5
      repeat' (first | refine KK ?_ | refine NB fun b => ?_ | ((refine KB ?_ ?_ <;> intro hp)) | refine KG ?_ | fail)
      refine gc_loop (ι := Nat) (fun i => i ≤ 5) (fun i => 5 - i) (fun _ => μ) (fun i => [(27, .int .i64 i), (26, .int .i64 5), (25, .slice (some ⟨b, 0, none⟩) 5 5), (3, .int .i64 (whatT (hasT t) i)), (1, .pointer (some ⟨ba, 0, none⟩))]) (fun _ => [.inl ⟨b, 3, 5, idx 0 [.int .i64 1, .int .i64 2, .int .i64 8, .int .i64 16, .int .i64 32]⟩, .inl ⟨ba, 27, 6, idx 0 (encT t u)⟩]) 0 (by decide) (fun a w hs => by rw [whatT_0]; exact J5 hs) ?_
      intro i hi
      have hwi := whatT_le (hasT t) i
      rcases (by omega : i = 5 ∨ i = 0 ∨ i = 1 ∨ i = 2 ∨ i = 3 ∨ i = 4) with rfl | rfl | rfl | rfl | rfl | rfl
      · rw [hg]
        clear hg h1
        repeat' (first | refine KO ?_ | ((with_reducible apply F1 87); exact rfl; exact EN; (exact fun w μc hw hse => hhas _ w μc hw hse.le)) | refine KI ?_ | refine NB fun b => ?_ | ((refine KB ?_ ?_ <;> intro hp)) | refine KG ?_ | fail)
        all_goals clear hform hhas hk ho
        all_goals first | (refine ret_s rfl rfl ?_; simp_all; done) | (refine ret_s rfl rfl ?_; simp_all; omega) | (exfalso; simp_all; done)
      · have hn : whatT (hasT t) 1 = whatT (hasT t) 0 + (if hasT t 1 = true then 1 else 0) := whatT_s (k := 0) rfl
        cases hh : hasT t 1
        · rw [hh, if_neg (by simp), Nat.add_zero] at hn
          repeat' (first | refine KO ?_ | ((with_reducible apply F1 87); exact rfl; exact EN; (exact fun w μc hw hse => hh ▸ hhas 1 w μc hw hse.le)) | refine KI ?_ | refine NB fun b => ?_ | ((refine KB ?_ ?_ <;> intro hp)) | refine KG ?_ | fail)
          all_goals (rw [← hn]; exact J2 1 (by decide) (by decide))
        · rw [hh, if_pos rfl] at hn
          repeat' (first | refine KO ?_ | ((with_reducible apply F1 87); exact rfl; exact EN; (exact fun w μc hw hse => hh ▸ hhas 1 w μc hw hse.le)) | refine KI ?_ | refine NB fun b => ?_ | ((refine KB ?_ ?_ <;> intro hp)) | refine KG ?_ | fail)
          all_goals (rw [show ((whatT (hasT t) 0 : Nat) : Int) + 1 = ((whatT (hasT t) 1 : Nat) : Int) from by omega]; exact J2 1 (by decide) (by decide))
      · have hn : whatT (hasT t) 2 = whatT (hasT t) 1 + (if hasT t 2 = true then 1 else 0) := whatT_s (k := 1) rfl
        cases hh : hasT t 2
        · rw [hh, if_neg (by simp), Nat.add_zero] at hn
          repeat' (first | refine KO ?_ | ((with_reducible apply F1 87); exact rfl; exact EN; (exact fun w μc hw hse => hh ▸ hhas 2 w μc hw hse.le)) | refine KI ?_ | refine NB fun b => ?_ | ((refine KB ?_ ?_ <;> intro hp)) | refine KG ?_ | fail)
          all_goals (rw [← hn]; exact J2 2 (by decide) (by decide))
        · rw [hh, if_pos rfl] at hn
          repeat' (first | refine KO ?_ | ((with_reducible apply F1 87); exact rfl; exact EN; (exact fun w μc hw hse => hh ▸ hhas 2 w μc hw hse.le)) | refine KI ?_ | refine NB fun b => ?_ | ((refine KB ?_ ?_ <;> intro hp)) | refine KG ?_ | fail)
          all_goals (rw [show ((whatT (hasT t) 1 : Nat) : Int) + 1 = ((whatT (hasT t) 2 : Nat) : Int) from by omega]; exact J2 2 (by decide) (by decide))
      · have hn : whatT (hasT t) 3 = whatT (hasT t) 2 + (if hasT t 8 = true then 1 else 0) := whatT_s (k := 2) rfl
        cases hh : hasT t 8
        · rw [hh, if_neg (by simp), Nat.add_zero] at hn
          repeat' (first | refine KO ?_ | ((with_reducible apply F1 87); exact rfl; exact EN; (exact fun w μc hw hse => hh ▸ hhas 8 w μc hw hse.le)) | refine KI ?_ | refine NB fun b => ?_ | ((refine KB ?_ ?_ <;> intro hp)) | refine KG ?_ | fail)
          all_goals (rw [← hn]; exact J2 3 (by decide) (by decide))
        · rw [hh, if_pos rfl] at hn
          repeat' (first | refine KO ?_ | ((with_reducible apply F1 87); exact rfl; exact EN; (exact fun w μc hw hse => hh ▸ hhas 8 w μc hw hse.le)) | refine KI ?_ | refine NB fun b => ?_ | ((refine KB ?_ ?_ <;> intro hp)) | refine KG ?_ | fail)
          all_goals (rw [show ((whatT (hasT t) 2 : Nat) : Int) + 1 = ((whatT (hasT t) 3 : Nat) : Int) from by omega]; exact J2 3 (by decide) (by decide))
      · have hn : whatT (hasT t) 4 = whatT (hasT t) 3 + (if hasT t 16 = true then 1 else 0) := whatT_s (k := 3) rfl
        cases hh : hasT t 16
        · rw [hh, if_neg (by simp), Nat.add_zero] at hn
          repeat' (first | refine KO ?_ | ((with_reducible apply F1 87); exact rfl; exact EN; (exact fun w μc hw hse => hh ▸ hhas 16 w μc hw hse.le)) | refine KI ?_ | refine NB fun b => ?_ | ((refine KB ?_ ?_ <;> intro hp)) | refine KG ?_ | fail)
          all_goals (rw [← hn]; exact J2 4 (by decide) (by decide))
        · rw [hh, if_pos rfl] at hn
          repeat' (first | refine KO ?_ | ((with_reducible apply F1 87); exact rfl; exact EN; (exact fun w μc hw hse => hh ▸ hhas 16 w μc hw hse.le)) | refine KI ?_ | refine NB fun b => ?_ | ((refine KB ?_ ?_ <;> intro hp)) | refine KG ?_ | fail)
          all_goals (rw [show ((whatT (hasT t) 3 : Nat) : Int) + 1 = ((whatT (hasT t) 4 : Nat) : Int) from by omega]; exact J2 4 (by decide) (by decide))
      · have hn : whatT (hasT t) 5 = whatT (hasT t) 4 + (if hasT t 32 = true then 1 else 0) := whatT_s (k := 4) rfl
        cases hh : hasT t 32
        · rw [hh, if_neg (by simp), Nat.add_zero] at hn
          repeat' (first | refine KO ?_ | ((with_reducible apply F1 87); exact rfl; exact EN; (exact fun w μc hw hse => hh ▸ hhas 32 w μc hw hse.le)) | refine KI ?_ | refine NB fun b => ?_ | ((refine KB ?_ ?_ <;> intro hp)) | refine KG ?_ | fail)
          all_goals (rw [← hn]; exact J2 5 (by decide) (by decide))
        · rw [hh, if_pos rfl] at hn
          repeat' (first | refine KO ?_ | ((with_reducible apply F1 87); exact rfl; exact EN; (exact fun w μc hw hse => hh ▸ hhas 32 w μc hw hse.le)) | refine KI ?_ | refine NB fun b => ?_ | ((refine KB ?_ ?_ <;> intro hp)) | refine KG ?_ | fail)
          all_goals (rw [show ((whatT (hasT t) 4 : Nat) : Int) + 1 = ((whatT (hasT t) 5 : Nat) : Int) from by omega]; exact J2 5 (by decide) (by decide))
end Go.Proofs.YtfabmichdhbiaaaGreatDoor
namespace Go.Proofs.YtfabmichdhbiaaaGreatDoor
open Go.RowKit Go.Vcg
noncomputable def fnT (t : T) : Bool :=
  if t.n < 0 ∨ 255 < t.n ∨ t.s ≠ ⟨#[]⟩ ∧ formB t.s = false then false
  else (if 1 < whatT (bitT t) 5 ∨ bitT t 4 = true ∧ (bitT t 2 = true ∨ bitT t 16 = true ∨ bitT t 32 = true) ∨ bitT t 128 = true ∧ bitT t 2 = false then false else if bitT t 1 = true then decide (t.s ≠ ⟨#[]⟩) else decide (whatT (bitT t) 5 = 0) || decide (t.s = ⟨#[]⟩))
attribute [local irreducible] formB bitT whatT G GC GQ GA GAop Calls IntKind.wrap Int.decLt Int.decLe
end Go.Proofs.YtfabmichdhbiaaaGreatDoor
namespace Go.Proofs.YtfabmichdhbiaaaGreatDoor
open Go.RowKit Go.Vcg
attribute [local irreducible] formB oneT G GC GQ GA GAop Calls IntKind.wrap Int.decLt Int.decLe
end Go.Proofs.YtfabmichdhbiaaaGreatDoor
