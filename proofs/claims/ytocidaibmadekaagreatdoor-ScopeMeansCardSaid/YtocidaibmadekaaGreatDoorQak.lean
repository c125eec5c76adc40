/- Package early: loop, walked. No statement of the seat is proved here. -/
import Derived.Test.YtocidaibmadekaaGreatDoorQaj
set_option maxRecDepth 20000
set_option maxHeartbeats 2000000
namespace Go.Proofs.YtocidaibmadekaaGreatDoor
open Go.RowKit Go.Vcg Ou
theorem PY {t : T} (h1 : 1 ≤ t.kids.length) : szs t.kids = szs (t.kids.take (t.kids.length - 1)) + (aY t (t.kids.length - 1)).size := by
  have hlast : t.kids = t.kids.take (t.kids.length - 1) ++ [aY t (t.kids.length - 1)] := by
    unfold aY
    conv => lhs; rw [← List.take_append_drop (t.kids.length - 1) t.kids]
    congr 1
    rw [List.drop_eq_getElem_cons (by omega), List.getElem?_eq_getElem (by omega), List.drop_eq_nil_of_le (by omega)]
    rfl
  conv => lhs; rw [hlast]
  rw [CJ, aZ]
  rfl
attribute [local irreducible] wdL anI fV mkD G GC GQ GA bX Calls IntKind.wrap Int.decLt Int.decLe
theorem KW (N : T → EP → ES → ES) (t : T) (hq : dF qE t) (hop : t.op = 10 ∨ t.op = 11 ∨ t.op = 12 ∨ t.op = 13 ∨ t.op = 14) (hts : t.size ≤ 80000) (hN : ∀ k, dF qE k → k.size < t.size → NCk N k ∧ NG N k)
    (xb mb : Nat) (u pv mv : Value) (p : EP) (mine : List ByteArray) (s : ES) (μ : Mem) (hk : KR μ t.kids u) (hp : PV μ p pv) (hmv : SsV μ mv mine) (hB : PB p t.size) (hlm : p.loops.length + mine.length + p.mine.length ≤ p.labels.length) (hS : SB s t.size) (hm : mF μ) :
    CEs 86 [.pointer (some ⟨xb, 0, none⟩), .agg (aD t u).toArray, pv, mv] xb mb s (AT N t p mine s) μ := by
  intro w fs hμ hR hO
  have hcnt := bG hO.diff
  have hp0 := hp
  obtain ⟨r, lb, lo, mi, rfl, hpr, hplb, hplo, hpmi⟩ := hp
  have o1 := hpr.one
  have o2 := hplb.one
  have o3 := hplo.one
  have o4 := hpmi.one
  have ou := hk.one
  have hmv0 := hmv
  obtain ⟨Am, cm, rfl, -, -⟩ := hmv0
  have hrl := hB.regs
  have hll := hB.labels
  have hsz := aP t
  have hlen := dV t.kids
  have hle : ∀ {k l}, k ∈ l → T.size k ≤ szs l := fun {k l} hk => T.bN (List.mem_map.2 ⟨k, hk, rfl⟩)
  have hPB : ∀ n, n < t.size → PB { p with loops := p.loops ++ mine } n := fun n hn => ⟨hB.ne, by show p.regs.length + n ≤ 90000; omega, by show p.labels.length + n ≤ 90000; omega, by show (p.loops ++ mine).length + p.mine.length ≤ p.labels.length; rw [List.length_append]; exact hlm⟩
  have hregs : s.regs ≤ 1000000 := by
    unfold SB at hS
    omega
  obtain ⟨A, c, rfl, hcap, hget⟩ := hk.form
  generalize hs' : AT N t p mine s = s'
  unfold AT at hs'
  refine aS (args := [.pointer (some ⟨xb, 0, none⟩), .agg (aD t (.slice A t.kids.length c)).toArray, .agg (cY p r lb lo mi).toArray, .slice Am mine.length cm]) Tryz.func86 rfl Tryz.ntmps86 (by simp) hμ hO ?_
  by_cases h13 : t.op = 13
  · rw [if_pos h13] at hs'
    have h2 := hq.here.1.two (by simp [h13])
    obtain ⟨rr, hrr⟩ := oR h2
    have hz := hsz
    rw [hrr, aZ, aZ] at hz
    obtain ⟨ad, x0, rfl, hm0, hox0, hk0⟩ := hget 0 _ (dD (by omega))
    obtain ⟨ad', x1, e, hm1, hox1, hk1⟩ := hget 1 _ (dD (by omega))
    cases e
    obtain ⟨hn0, hg0⟩ := hN _ (hq.kid (bI (t := t) (i := 0) (by omega))) (by omega)
    obtain ⟨hn1, hg1⟩ := hN _ (hq.kid (bI (t := t) (i := 1) (by omega))) (by omega)
    have hsb := SB.gr (s' := N (aY t 0) p s) (n := (aY t 0).size) (m := (aY t 1).size) (hS.mono (by omega)) (hg0 p s)
    repeat' (first | refine KK ?_ | refine NB fun b => ?_ | fail)
    all_goals try (exfalso; first | fail)
    refine aC 7 _ (by kernel_rfl) rfl (List.Sublist.cons_cons _ (List.Sublist.cons_cons _ (List.nil_sublist _))) ?_
    all_goals refine DD 0 ?_
    all_goals (first | refine D1 1 ?_ | fail)
    all_goals (first | refine DD 2 ?_ | fail)
    all_goals (first | (refine DV (k := 3) (b := by exact U1 0) (c := ?_)) | fail)
    all_goals (first | (refine DV (k := 4) (b := by exact U4 hm0) (c := ?_)) | fail)
    all_goals (first | refine DD 5 ?_ | fail)
    all_goals ((refine D3 6 ?_; refine D5 ?_; refine CF 62 ?_; (with_reducible apply dJ 2); (iterate 3 exact rfl); ((with_reducible apply aU); kernel_rfl; (iterate 3 exact rfl)); exact rfl; (exact hR); (exact hn0 xb mb _ _ p s _ hk0 hp0 (hB.mono (by omega)) (hS.mono (by omega)) hm); (intro v1 μ1 i1 hle1 hR); (dsimp only [List.cons_append, List.nil_append]); (have hm0 := hm0.mono hle1); (have hm1 := hm1.mono hle1); (have hk0 := hk0.mono hle1); (have hk1 := hk1.mono hle1); (have hp0 := hp0.mono hle1); (have hmv := hmv.mono hle1); (have hm := hm.mono hle1); refine D9 ?_))
    all_goals refine D8 ?_
    all_goals repeat' (first | refine KK ?_ | fail)
    refine aC 8 _ (by kernel_rfl) rfl (List.Sublist.cons_cons _ (List.Sublist.cons_cons _ (List.nil_sublist _))) ?_
    all_goals refine DD 0 ?_
    all_goals (first | refine D1 1 ?_ | fail)
    all_goals (first | refine DD 2 ?_ | fail)
    all_goals (first | (refine DV (k := 3) (b := by exact U1 1) (c := ?_)) | fail)
    all_goals (first | (refine DV (k := 4) (b := by exact U4 hm1) (c := ?_)) | fail)
    all_goals (first | refine DD 5 ?_ | fail)
    all_goals refine DD 6 ?_
    all_goals ((refine D3 7 ?_; refine D5 ?_; refine CF 138 ?_; (with_reducible apply dJ 2); (iterate 3 exact rfl); ((with_reducible apply bZ); kernel_rfl; (iterate 4 exact rfl)); exact rfl; (exact hR); (exact pV N (aY t 1) hn1 _ _ _ p mine _ _ xb mb hk1 hp0 hmv (hPB _ (by omega)) hsb hm); (intro v1 μ1 i1 hle1 hR); (dsimp only [List.cons_append, List.nil_append]); (have hm0 := hm0.mono hle1); (have hm1 := hm1.mono hle1); (have hk0 := hk0.mono hle1); (have hk1 := hk1.mono hle1); (have hp0 := hp0.mono hle1); (have hmv := hmv.mono hle1); (have hm := hm.mono hle1); refine D9 ?_))
    all_goals refine D8 ?_
    all_goals repeat' (first | refine KK ?_ | fail)
    all_goals exact cN 2 i1 (by exact .inl rfl) hcnt rfl rfl hs' hR
  rw [if_neg h13] at hs'
  by_cases h14 : t.op = 14
  · rw [if_pos h14] at hs'
    have h2 := hq.here.1.two (by simp [h14])
    obtain ⟨rr, hrr⟩ := oR h2
    have hz := hsz
    rw [hrr, aZ, aZ] at hz
    obtain ⟨ad, x0, rfl, hm0, hox0, hk0⟩ := hget 0 _ (dD (by omega))
    obtain ⟨ad', x1, e, hm1, hox1, hk1⟩ := hget 1 _ (dD (by omega))
    cases e
    obtain ⟨hn0, hg0⟩ := hN _ (hq.kid (bI (t := t) (i := 0) (by omega))) (by omega)
    obtain ⟨hn1, hg1⟩ := hN _ (hq.kid (bI (t := t) (i := 1) (by omega))) (by omega)
    have hsb := SB.gr (s' := uB N (aY t 0) p mine s) (n := (aY t 0).size) (m := (aY t 1).size) (hS.mono (by omega)) (pQ (aY t 0) (fun p s => hg0 p s) _ s)
    repeat' (first | refine KK ?_ | refine NB fun b => ?_ | fail)
    all_goals try (exfalso; first | fail)
    refine aC 8 _ (by kernel_rfl) rfl (List.Sublist.cons_cons _ (List.Sublist.cons_cons _ (List.nil_sublist _))) ?_
    all_goals refine DD 0 ?_
    all_goals (first | refine D1 1 ?_ | fail)
    all_goals (first | refine DD 2 ?_ | fail)
    all_goals (first | (refine DV (k := 3) (b := by exact U1 0) (c := ?_)) | fail)
    all_goals (first | (refine DV (k := 4) (b := by exact U4 hm0) (c := ?_)) | fail)
    all_goals (first | refine DD 5 ?_ | fail)
    all_goals refine DD 6 ?_
    all_goals ((refine D3 7 ?_; refine D5 ?_; refine CF 138 ?_; (with_reducible apply dJ 2); (iterate 3 exact rfl); ((with_reducible apply bZ); kernel_rfl; (iterate 4 exact rfl)); exact rfl; (exact hR); (exact pV N (aY t 0) hn0 _ _ _ p mine _ _ xb mb hk0 hp0 hmv (hPB _ (by omega)) (hS.mono (by omega)) hm); (intro v1 μ1 i1 hle1 hR); (dsimp only [List.cons_append, List.nil_append]); (have hm0 := hm0.mono hle1); (have hm1 := hm1.mono hle1); (have hk0 := hk0.mono hle1); (have hk1 := hk1.mono hle1); (have hp0 := hp0.mono hle1); (have hmv := hmv.mono hle1); (have hm := hm.mono hle1); refine D9 ?_))
    all_goals refine D8 ?_
    all_goals repeat' (first | refine KK ?_ | fail)
    refine aC 7 _ (by kernel_rfl) rfl (List.Sublist.cons_cons _ (List.Sublist.cons_cons _ (List.nil_sublist _))) ?_
    all_goals refine DD 0 ?_
    all_goals (first | refine D1 1 ?_ | fail)
    all_goals (first | refine DD 2 ?_ | fail)
    all_goals (first | (refine DV (k := 3) (b := by exact U1 1) (c := ?_)) | fail)
    all_goals (first | (refine DV (k := 4) (b := by exact U4 hm1) (c := ?_)) | fail)
    all_goals (first | refine DD 5 ?_ | fail)
    all_goals ((refine D3 6 ?_; refine D5 ?_; refine CF 62 ?_; (with_reducible apply dJ 2); (iterate 3 exact rfl); ((with_reducible apply aU); kernel_rfl; (iterate 3 exact rfl)); exact rfl; (exact hR); (exact hn1 xb mb _ _ p _ _ hk1 hp0 (hB.mono (by omega)) hsb hm); (intro v1 μ1 i1 hle1 hR); (dsimp only [List.cons_append, List.nil_append]); (have hm0 := hm0.mono hle1); (have hm1 := hm1.mono hle1); (have hk0 := hk0.mono hle1); (have hk1 := hk1.mono hle1); (have hp0 := hp0.mono hle1); (have hmv := hmv.mono hle1); (have hm := hm.mono hle1); refine D9 ?_))
    all_goals refine D8 ?_
    all_goals repeat' (first | refine KK ?_ | fail)
    all_goals exact cN 2 i1 (by exact .inl rfl) hcnt rfl rfl hs' hR
  rw [if_neg h14] at hs'
  dsimp only at hs'
  have h1 := hq.here.1.one (by omega)
  have hkl := PY h1
  have hsbw : SB (cG s) (szs t.kids) := by
    have := (lG (F := FF) s).wt
    unfold SB at hS ⊢
    omega
  repeat' (first | ((with_reducible show GC _ _ (Code.seq (Code.region 9 _ _) _) _ _ _ _); (apply bF)) | refine KK ?_ | refine NB fun b => ?_ | fail)
  all_goals try (exfalso; first | fail)
  rename_i bn
  obtain ⟨bp, hbp⟩ : ∃ y, y = b := ⟨_, rfl⟩
  rw [← hbp]
  clear hbp
  refine gcs ?_
  have hPBq : ∀ n, n < t.size → PB (fX p s) n := fun n hn => ⟨by show 0 < (p.regs ++ _).length; simp, by show (p.regs ++ _).length + n ≤ 90000; rw [List.length_append, List.length_singleton]; omega, by show p.labels.length + n ≤ 90000; omega, hB.loops⟩
  have hPBr : ∀ n, n < t.size → PB { fX p s with loops := (fX p s).loops ++ mine } n := fun n hn => ⟨(hPBq n hn).ne, (hPBq n hn).regs, (hPBq n hn).labels, by show (p.loops ++ mine).length + p.mine.length ≤ p.labels.length; rw [List.length_append]; exact hlm⟩
  repeat' (first | ((with_reducible show GC _ _ (Code.seq (Code.seq (Code.region 10 _ _) _) _) _ _ _ _); (apply bF)) | refine KO ?_ | (refine CF 83 ?_; (with_reducible apply HD 2); (iterate 3 exact rfl); ((with_reducible apply fW); kernel_rfl; exact rfl; exact rfl); exact rfl; (exact hR); (exact nD xb mb p _ s _ hp0 (by omega) hregs); (intro v1 μ1 i1 hle1 hR hP1); (dsimp only [List.cons_append, List.nil_append]); (obtain ⟨r2, lb2, lo2, mi2, rfl, hr2, hlb2, hlo2, hmi2⟩ := hP1); (have q1 := hr2.one); (have q2 := hlb2.one); (have q3 := hlo2.one); (have q4 := hmi2.one)) | refine KI ?_ | fail)
  generalize fX p s = q at hs' hr2 hlb2 hlo2 hmi2 hPBq hPBr ⊢
  refine gcs ?_
  have hlast : ((t.kids.length : Int) - 1) = ((t.kids.length - 1 : Nat) : Int) := by omega
  have hmv1 := hmv.mono hle1
  have hm1 := hm.mono hle1
  have htl : (t.kids.take (t.kids.length - 1)).length = t.kids.length - 1 := by rw [List.length_take]; omega
  repeat' (first | refine KO ?_ | (refine KV (b := by ((with_reducible apply wR (t.kids.length - 1)); (iterate 4 exact rfl); (exact hlast); omega)) (c := ?_)) | refine KI ?_ | fail)
  refine aX (ι := Nat × Mem × List FR) (fun y => y.1 ≤ t.kids.length - 1 ∧ MLe μ1 y.2.1 ∧ ER y.2.1 y.2.2 (((t.kids.take (t.kids.length - 1)).take y.1).foldl (fun s k => N k { q with each := decide (t.op ≠ 10) } s) (cG s))) (fun y => t.kids.length - 1 - y.1) (fun y => y.2.1) (fun y => [(60, .int .i64 (y.1 : Int)), (59, .int .i64 ((t.kids.length - 1 : Nat) : Int)), (58, .slice A (t.kids.length - 1) c), (8, .int .i64 ((t.kids.length : Int) - 1)), (6, .pointer (some ⟨bp, 0, none⟩)), (5, .pointer (some ⟨bn, 0, none⟩)), (3, .slice Am mine.length cm), (0, .pointer (some ⟨xb, 0, none⟩))]) (fun y => .inl ⟨bp, 93, 12, idx 0 (cY q r2 lb2 lo2 mi2)⟩ :: .inl ⟨bn, 24, 6, idx 0 (aD t (.slice A t.kids.length c))⟩ :: EB xb mb (((t.kids.take (t.kids.length - 1)).take y.1).foldl (fun s k => N k { q with each := decide (t.op ≠ 10) } s) (cG s)) y.2.2) (0, μ1, i1) ⟨Nat.zero_le _, MLe.refl _, hR⟩ (fun a w hs => hs.sel (by first | (repeat first | exact cI | refine bR rfl ?_); done | fail) (bW (.cells PU) (bV _))) ?_
  clear hR
  rintro ⟨i, μ0, fs0⟩ ⟨hi, hle0, hR⟩
  dsimp only at hi hle0 hR ⊢
  have hmemT : ∀ k ∈ t.kids.take (t.kids.length - 1), dF qE k ∧ k.size < t.size := fun k hk => ⟨hq.kid (List.mem_of_mem_take hk), by have := hle (List.mem_of_mem_take hk); omega⟩
  have hgrT : ∀ n, Gr FF (2 * szs ((t.kids.take (t.kids.length - 1)).take n)) (cG s) (((t.kids.take (t.kids.length - 1)).take n).foldl (fun s k => N k { q with each := decide (t.op ≠ 10) } s) (cG s)) := fun n => by
    have h9 := gS (F := FF) (g := (fun s k => N k { q with each := decide (t.op ≠ 10) } s)) (c := fun k => 2 * T.size k) ((t.kids.take (t.kids.length - 1)).take n) (cG s) (fun k hk s => (hN k (hmemT k (List.mem_of_mem_take hk)).1 (hmemT k (List.mem_of_mem_take hk)).2).2 _ _)
    rwa [iX] at h9
  have hlec := hle1.trans hle0
  by_cases hlt : i < t.kids.length - 1
  · obtain ⟨k, hkk⟩ : ∃ k, t.kids[i]? = some k := ⟨_, List.getElem?_eq_getElem (by omega)⟩
    have hkt : (t.kids.take (t.kids.length - 1))[i]? = some k := by rw [List.getElem?_take_of_lt hlt]; exact hkk
    obtain ⟨ad, x, rfl, hm0, hox, hkx⟩ := hget i k hkk
    have hmm := hm0.mono hlec
    obtain ⟨ha, hk2⟩ := hmemT k (List.mem_of_getElem? hkt)
    obtain ⟨hn1, -⟩ := hN k ha hk2
    have hz := eP hkt
    have hsb := SB.gr (n := szs ((t.kids.take (t.kids.length - 1)).take i)) (m := k.size) (hsbw.mono (by omega)) (hgrT i)
    have hnext : (fun s k => N k { q with each := decide (t.op ≠ 10) } s) (((t.kids.take (t.kids.length - 1)).take i).foldl (fun s k => N k { q with each := decide (t.op ≠ 10) } s) (cG s)) k = (((t.kids.take (t.kids.length - 1)).take (i + 1)).foldl (fun s k => N k { q with each := decide (t.op ≠ 10) } s) (cG s)) := (lP (fun s k => N k { q with each := decide (t.op ≠ 10) } s) (t.kids.take (t.kids.length - 1)) (cG s) hkt).symm
    dsimp only at hnext
    repeat' (first | refine KO ?_ | (refine CF 62 ?_; (with_reducible apply dJ 4); (iterate 3 exact rfl); ((with_reducible apply aU); kernel_rfl; (iterate 3 exact rfl)); exact rfl; (exact hR); (exact hn1 xb mb _ _ { q with each := decide (t.op ≠ 10) } _ _ (hkx.mono hlec) ⟨_, _, _, _, rfl, hr2.mono hle0, hlb2.mono hle0, hlo2.mono hle0, hmi2.mono hle0⟩ ⟨(hPBq _ hk2).ne, (hPBq _ hk2).regs, (hPBq _ hk2).labels, (hPBq _ hk2).loops⟩ hsb (hm.mono hlec)); (intro v1 μ1 i1 hle1 hR); (dsimp only [List.cons_append, List.nil_append])) | (refine KV (b := by first | exact U1 i | exact U4 hmm) (c := ?_)) | refine KI ?_ | refine NB fun b => ?_ | fail)
    all_goals try (exfalso; first | fail)
    rw [hnext] at hR ⊢
    exact bD (i + 1, μ1, i1) ⟨by dsimp only; omega, hle0.trans hle1, hR⟩ (by dsimp only; omega) rfl PU (oN (.refl _) (oN (.refl _) (aO _ (aO _ (bV _)))))
  · have hil : i = t.kids.length - 1 := by omega
    have hgrA := hgrT i
    have htk : (t.kids.take (t.kids.length - 1)).take i = t.kids.take (t.kids.length - 1) := List.take_of_length_le (by omega)
    rw [htk] at hR hgrA ⊢
    generalize (t.kids.take (t.kids.length - 1)).foldl (fun s k => N k { q with each := decide (t.op ≠ 10) } s) (cG s) = S5 at hR hs' hgrA ⊢
    have hsb5 := SB.gr (n := szs (t.kids.take (t.kids.length - 1))) (m := (aY t (t.kids.length - 1)).size) (hsbw.mono (by omega)) hgrA
    obtain ⟨ad, x, rfl, hml, hox, hkl2⟩ := hget (t.kids.length - 1) _ (dD (by omega))
    have hmm := hml.mono hlec
    have hkk := hkl2.mono hlec
    have hmvv := hmv.mono hlec
    have hmq := hm.mono hlec
    obtain ⟨hn1, -⟩ := hN _ (hq.kid (bI (t := t) (i := t.kids.length - 1) (by omega))) (by omega)
    repeat' (first | refine KK ?_ | fail)
    all_goals try (exfalso; first | fail)
    refine aC 9 _ (by kernel_rfl) rfl (List.Sublist.cons_cons _ (List.Sublist.cons_cons _ (List.nil_sublist _))) ?_
    all_goals refine DD 0 ?_
    all_goals (first | refine D1 1 ?_ | fail)
    all_goals (first | refine DD 2 ?_ | fail)
    all_goals refine DD 3 ?_
    all_goals (first | (refine DV (k := 4) (b := by exact U1 (t.kids.length - 1)) (c := ?_)) | fail)
    all_goals (first | (refine DV (k := 5) (b := by exact U4 hmm) (c := ?_)) | fail)
    all_goals (first | refine DD 6 ?_ | fail)
    all_goals refine DD 7 ?_
    all_goals ((refine D3 8 ?_; refine D5 ?_; refine CF 138 ?_; (with_reducible apply dJ 2); (iterate 3 exact rfl); ((with_reducible apply bZ); kernel_rfl; (iterate 4 exact rfl)); exact rfl; (exact hR); (exact pV N (aY t (t.kids.length - 1)) hn1 _ _ _ q mine _ _ xb mb hkk ⟨_, _, _, _, rfl, hr2.mono hle0, hlb2.mono hle0, hlo2.mono hle0, hmi2.mono hle0⟩ hmvv (hPBr _ (by omega)) hsb5 hmq); (intro v1 μ1 i1 hle1 hR); (dsimp only [List.cons_append, List.nil_append]); refine D9 ?_))
    all_goals refine D8 ?_
    all_goals repeat' (first | fail)
    all_goals exact cN 2 i1 (by exact .inr rfl) hcnt rfl rfl hs' hR
end Go.Proofs.YtocidaibmadekaaGreatDoor
namespace Go.Proofs.YtocidaibmadekaaGreatDoor
open Go.RowKit Go.Vcg Ou
def aC5 (p : EP) : Bool := !p.fn || p.head
def aC4 (p : EP) : Bool := !p.gen || p.head
def aC6 (t : T) (p : EP) : Bool := p.strict && decide (t.s = "delete".toUTF8) && decide ((aY t 0).op = 34)
theorem II : ("delete".toUTF8 : ByteArray) = ⟨#[100, 101, 108, 101, 116, 101]⟩ := by decide +kernel
attribute [local irreducible] wdL anI fV mkD G GC GQ GA bX Calls IntKind.wrap Int.decLt Int.decLe
theorem KQ (N : T → EP → ES → ES) (t : T) (hq : dF qE t) (hts : t.size ≤ 80000) (hNN : ∀ k, dF qE k → k.size < t.size → NCk N k ∧ NG N k)
    (xb mb : Nat) (u pv : Value) (p : EP) (s : ES) (μ : Mem) (hk : KR μ t.kids u) (hp : PV μ p pv) (hB : PB p t.size) (hS : SB s t.size) (hm : mF μ) :
    CEs 92 [.pointer (some ⟨xb, 0, none⟩), .agg (aD t u).toArray, pv] xb mb s (AM wdF N t p s) μ := by
  intro w fs hμ hR hO
  have hcnt := bG hO.diff
  have hp0 := hp
  obtain ⟨r, lb, lo, mi, rfl, hpr, hplb, hplo, hpmi⟩ := hp
  have o1 := hpr.one
  have o2 := hplb.one
  have o3 := hplo.one
  have o4 := hpmi.one
  have ou := hk.one
  have hrl := hB.labels
  have hll := hB.loops
  have hts9 := hq.here.2
  have hsz := aP t
  have hlen0 := dV t.kids
  have hlen : t.kids.length ≤ 100000 := by omega
  have hN : ∀ k ∈ t.kids, NCk N k ∧ NG N k := fun k hk => hNN k (hq.kid hk) (by
    have : k.size ≤ szs t.kids := T.bN (List.mem_map.2 ⟨k, hk, rfl⟩)
    omega)
  have hBk : ∀ k ∈ t.kids, PB p k.size := fun k hk => hB.mono (by
    have : k.size ≤ szs t.kids := T.bN (List.mem_map.2 ⟨k, hk, rfl⟩)
    omega)
  have hsbA : ∀ s1, Gr FF 0 s s1 → SB s1 (szs t.kids) := fun s1 hg => SB.gr (n := 0) (m := szs t.kids) (hS.mono (by omega)) hg
  generalize hs' : AM wdF N t p s = s'
  unfold AM at hs'
  by_cases h15 : t.op = 15 ∨ t.op = 16
  · rw [if_pos h15] at hs'
    have hsb := hsbA _ (MV (wd := wdF) t p s)
    refine aS (args := [.pointer (some ⟨xb, 0, none⟩), .agg (aD t u).toArray, .agg (cY p r lb lo mi).toArray]) Tryz.func92 rfl Tryz.ntmps92 (by simp) hμ hO ?_
    rcases h15 with h15 | h15
    all_goals repeat' (first | refine KO ?_ | (refine CF 141 ?_; (with_reducible apply dJ 2); (iterate 3 exact rfl); ((with_reducible apply aU); kernel_rfl; (iterate 3 exact rfl)); exact rfl; (exact hR); (exact KX t hts9 _ _ p s _ xb mb ou hp0 (by omega) (by omega) hm); (intro v1 μ1 i1 hle1 hR); (dsimp only [List.cons_append, List.nil_append]); (have hk := hk.mono hle1); (have hp0 := hp0.mono hle1); (have hm := hm.mono hle1)) | (refine CF 39 ?_; (with_reducible apply dJ 2); (iterate 3 exact rfl); ((with_reducible apply aU); kernel_rfl; (iterate 3 exact rfl)); exact rfl; (exact hR); (exact eD N t.kids _ _ p _ _ xb mb hN hk hp0 hBk hsb hlen hm); (intro v1 μ1 i1 hle1 hR); (dsimp only [List.cons_append, List.nil_append])) | refine KI ?_ | refine NB fun b => ?_ | fail)
    all_goals try (exfalso; first | fail)
    all_goals exact cN 2 i1 (by exact .inr rfl) hcnt rfl rfl hs' hR
  rw [if_neg h15] at hs'
  by_cases h17 : t.op = 17
  · rw [if_pos h17] at hs'
    have hsb := hsbA _ (eT (aC5 p) t.at' 33 s)
    refine aS (args := [.pointer (some ⟨xb, 0, none⟩), .agg (aD t u).toArray, .agg (cY p r lb lo mi).toArray]) Tryz.func92 rfl Tryz.ntmps92 (by simp) hμ hO ?_
    repeat' (first | refine KO ?_ | (refine CF 89 ?_; (with_reducible apply dJ 2); (iterate 3 exact rfl); ((with_reducible apply bZ); kernel_rfl; (iterate 4 exact rfl)); exact rfl; (exact hR); (exact zG xb mb t _ ou _ (aC5 p) (by unfold aC5; simp_all) _ _ _); (intro v1 μ1 i1 hle1 hR); (dsimp only [List.cons_append, List.nil_append]); (have hk := hk.mono hle1); (have hp0 := hp0.mono hle1); (have hm := hm.mono hle1)) | (refine CF 39 ?_; (with_reducible apply dJ 2); (iterate 3 exact rfl); ((with_reducible apply aU); kernel_rfl; (iterate 3 exact rfl)); exact rfl; (exact hR); (exact eD N t.kids _ _ p _ _ xb mb hN hk hp0 hBk hsb hlen hm); (intro v1 μ1 i1 hle1 hR); (dsimp only [List.cons_append, List.nil_append])) | refine KI ?_ | refine NB fun b => ?_ | ((refine KB ?_ ?_ <;> intro hp)) | refine KG ?_ | fail)
    all_goals try (exfalso; first | fail)
    all_goals exact cN 2 i1 (by exact .inr rfl) hcnt rfl rfl hs' hR
  rw [if_neg h17] at hs'
  by_cases h34 : t.op = 34
  · rw [if_pos h34] at hs'
    have hsb := hsbA _ (kH wdF t t.s p s)
    refine aS (args := [.pointer (some ⟨xb, 0, none⟩), .agg (aD t u).toArray, .agg (cY p r lb lo mi).toArray]) Tryz.func92 rfl Tryz.ntmps92 (by simp) hμ hO ?_
    repeat' (first | refine KO ?_ | (refine CF 88 ?_; (with_reducible apply dJ 2); (iterate 3 exact rfl); ((with_reducible apply bZ); kernel_rfl; (iterate 4 exact rfl)); exact rfl; (exact hR); (exact kB xb mb t _ ou _ (by omega) p _ _ _ hp0 hm); (intro v1 μ1 i1 hle1 hR); (dsimp only [List.cons_append, List.nil_append]); (have hk := hk.mono hle1); (have hp0 := hp0.mono hle1); (have hm := hm.mono hle1)) | (refine CF 39 ?_; (with_reducible apply dJ 2); (iterate 3 exact rfl); ((with_reducible apply aU); kernel_rfl; (iterate 3 exact rfl)); exact rfl; (exact hR); (exact eD N t.kids _ _ p _ _ xb mb hN hk hp0 hBk hsb hlen hm); (intro v1 μ1 i1 hle1 hR); (dsimp only [List.cons_append, List.nil_append])) | refine KI ?_ | refine NB fun b => ?_ | fail)
    all_goals try (exfalso; first | fail)
    all_goals exact cN 2 i1 (by exact .inr rfl) hcnt rfl rfl hs' hR
  rw [if_neg h34] at hs'
  by_cases h39 : t.op = 39 ∧ t.n = 3
  · rw [if_pos h39] at hs'
    have h1 := hq.here.1.one (by omega)
    obtain ⟨A, c, rfl, hcap, hget⟩ := hk.form
    obtain ⟨ad, x0, rfl, hm0, hox0, hk0⟩ := hget 0 _ (dD (by omega))
    have hs0 := (hq.kid (bI (t := t) (i := 0) (by omega))).here.2
    obtain ⟨h39, h3⟩ := h39
    refine aS (args := [.pointer (some ⟨xb, 0, none⟩), .agg (aD t (.slice (some ad) t.kids.length c)).toArray, .agg (cY p r lb lo mi).toArray]) Tryz.func92 rfl Tryz.ntmps92 (by simp) hμ hO ?_
    repeat' (first | refine KK ?_ | refine NB fun b => ?_ | fail)
    all_goals try (exfalso; first | fail)
    refine aC 12 _ (by kernel_rfl) rfl (List.Sublist.cons_cons _ (List.Sublist.cons_cons _ (List.nil_sublist _))) ?_
    all_goals refine DD 0 ?_
    all_goals (first | refine D1 1 ?_ | fail)
    all_goals (first | refine DD 2 ?_ | fail)
    all_goals (first | (refine DV (k := 3) (b := by exact U1 0) (c := ?_)) | fail)
    all_goals (first | (refine DV (k := 4) (b := by exact U4 hm0) (c := ?_)) | fail)
    all_goals (first | refine D1 5 ?_ | fail)
    all_goals (first | refine DD 6 ?_ | fail)
    all_goals (first | (refine DV (k := 7) (b := by exact U1 0) (c := ?_)) | fail)
    all_goals (first | refine DD 8 ?_ | fail)
    all_goals (first | (refine DV (k := 9) (b := by exact U4 hm0) (c := ?_)) | fail)
    all_goals (first | refine DD 10 ?_ | fail)
    all_goals ((refine D3 11 ?_; refine D5 ?_; refine CF 88 ?_; (with_reducible apply dJ 2); (iterate 3 exact rfl); ((with_reducible apply bZ); kernel_rfl; (iterate 4 exact rfl)); exact rfl; (exact hR); (exact kB xb mb (aY t 0) _ hox0 _ (by omega) p _ _ _ hp0 hm); (intro v1 μ1 i1 hle1 hR); (dsimp only [List.cons_append, List.nil_append]); refine D9 ?_))
    all_goals refine D8 ?_
    all_goals repeat' (first | refine KK ?_ | fail)
    all_goals exact cN 2 i1 (by exact .inl rfl) hcnt rfl rfl hs' hR
  rw [if_neg h39] at hs'
  by_cases h54 : t.op = 54
  · rw [if_pos h54] at hs'
    have hsb := hsbA _ (eT (aC4 p) t.at' 34 s)
    refine aS (args := [.pointer (some ⟨xb, 0, none⟩), .agg (aD t u).toArray, .agg (cY p r lb lo mi).toArray]) Tryz.func92 rfl Tryz.ntmps92 (by simp) hμ hO ?_
    repeat' (first | refine KO ?_ | (refine CF 89 ?_; (with_reducible apply dJ 2); (iterate 3 exact rfl); ((with_reducible apply bZ); kernel_rfl; (iterate 4 exact rfl)); exact rfl; (exact hR); (exact zG xb mb t _ ou _ (aC4 p) (by unfold aC4; simp_all) _ _ _); (intro v1 μ1 i1 hle1 hR); (dsimp only [List.cons_append, List.nil_append]); (have hk := hk.mono hle1); (have hp0 := hp0.mono hle1); (have hm := hm.mono hle1)) | (refine CF 39 ?_; (with_reducible apply dJ 2); (iterate 3 exact rfl); ((with_reducible apply aU); kernel_rfl; (iterate 3 exact rfl)); exact rfl; (exact hR); (exact eD N t.kids _ _ p _ _ xb mb hN hk hp0 hBk hsb hlen hm); (intro v1 μ1 i1 hle1 hR); (dsimp only [List.cons_append, List.nil_append])) | refine KI ?_ | refine NB fun b => ?_ | ((refine KB ?_ ?_ <;> intro hp)) | refine KG ?_ | fail)
    all_goals try (exfalso; first | fail)
    all_goals exact cN 2 i1 (by exact .inr rfl) hcnt rfl rfl hs' hR
  rw [if_neg h54] at hs'
  by_cases h42 : t.op = 42
  · rw [if_pos h42] at hs'
    have h1 := hq.here.1.one (by omega)
    have hk9 := hk
    obtain ⟨A, c, rfl, hcap, hget⟩ := hk9.form
    obtain ⟨ad, x0, rfl, hm0, hox0, hk0⟩ := hget 0 _ (dD (by omega))
    have hsb := hsbA _ (eT (aC6 t p) t.at' 35 s)
    refine aS (args := [.pointer (some ⟨xb, 0, none⟩), .agg (aD t (.slice (some ad) t.kids.length c)).toArray, .agg (cY p r lb lo mi).toArray]) Tryz.func92 rfl Tryz.ntmps92 (by simp) hμ hO ?_
    repeat' (first | refine KK ?_ | refine NB fun b => ?_ | fail)
    all_goals try (exfalso; first | fail)
    refine aC 19 _ (by kernel_rfl) rfl (List.Sublist.cons_cons _ (List.Sublist.cons_cons _ (List.nil_sublist _))) ?_
    all_goals refine DD 0 ?_
    all_goals (first | refine DD 1 ?_ | fail)
    all_goals (first | refine D1 2 ?_ | fail)
    all_goals (first | refine D1 3 ?_ | fail)
    all_goals (first | refine DD 4 ?_ | fail)
    all_goals refine DD 5 ?_
    all_goals (try (refine D7 6 ?_; (repeat' (((refine KB ?_ ?_ <;> intro hp))))))
    all_goals (first | refine D1 6 ?_ | fail)
    all_goals (first | refine D1 7 ?_ | refine DD 7 ?_ | fail)
    all_goals (first | refine D1 8 ?_ | fail)
    all_goals refine DD 9 ?_
    all_goals refine DD 10 ?_
    all_goals (try (refine D7 11 ?_; (repeat' (((refine KB ?_ ?_ <;> intro hp))))))
    all_goals (first | refine D1 11 ?_ | fail)
    all_goals (first | refine D1 12 ?_ | refine DD 12 ?_ | fail)
    all_goals (first | refine D1 13 ?_ | (refine DV (k := 13) (b := by exact U1 0) (c := ?_)) | fail)
    all_goals (first | refine D1 14 ?_ | refine DD 14 ?_ | fail)
    all_goals (first | refine D1 15 ?_ | (refine DV (k := 15) (b := by exact U4 hm0) (c := ?_)) | fail)
    all_goals (first | refine D1 16 ?_ | fail)
    all_goals refine DD 17 ?_
    all_goals ((refine D3 18 ?_; refine D5 ?_; refine CF 89 ?_; (with_reducible apply dJ 2); (iterate 3 exact rfl); ((with_reducible apply bZ); kernel_rfl; (iterate 4 exact rfl)); exact rfl; (exact hR); (exact zG xb mb t _ ou _ (aC6 t p) (by unfold aC6; rw [II]; simp_all) _ _ _); (intro v1 μ1 i1 hle1 hR); (dsimp only [List.cons_append, List.nil_append]); (have hk := hk.mono hle1); (have hp0 := hp0.mono hle1); (have hm := hm.mono hle1); refine D9 ?_))
    all_goals refine D8 ?_
    all_goals repeat' (first | refine KO ?_ | (refine CF 39 ?_; (with_reducible apply dJ 2); (iterate 3 exact rfl); ((with_reducible apply aU); kernel_rfl; (iterate 3 exact rfl)); exact rfl; (exact hR); (exact eD N t.kids _ _ p _ _ xb mb hN hk hp0 hBk hsb hlen hm); (intro v1 μ1 i1 hle1 hR); (dsimp only [List.cons_append, List.nil_append])) | refine KI ?_ | fail)
    all_goals exact cN 2 i1 (by exact .inr rfl) hcnt rfl rfl hs' hR
  rw [if_neg h42] at hs'
  have hsb := hsbA _ (Gr.refl s)
  refine aS (args := [.pointer (some ⟨xb, 0, none⟩), .agg (aD t u).toArray, .agg (cY p r lb lo mi).toArray]) Tryz.func92 rfl Tryz.ntmps92 (by simp) hμ hO ?_
  by_cases h390 : t.op = 39
  · have h3 : ¬t.n = 3 := fun h => h39 ⟨h390, h⟩
    repeat' (first | refine KO ?_ | (refine CF 39 ?_; (with_reducible apply dJ 2); (iterate 3 exact rfl); ((with_reducible apply aU); kernel_rfl; (iterate 3 exact rfl)); exact rfl; (exact hR); (exact eD N t.kids _ _ p _ _ xb mb hN hk hp0 hBk hsb hlen hm); (intro v1 μ1 i1 hle1 hR); (dsimp only [List.cons_append, List.nil_append])) | refine KI ?_ | refine NB fun b => ?_ | fail)
    all_goals try (exfalso; first | fail)
    all_goals exact cN 2 i1 (by exact .inr rfl) hcnt rfl rfl hs' hR
  · repeat' (first | refine KO ?_ | (refine CF 39 ?_; (with_reducible apply dJ 2); (iterate 3 exact rfl); ((with_reducible apply aU); kernel_rfl; (iterate 3 exact rfl)); exact rfl; (exact hR); (exact eD N t.kids _ _ p _ _ xb mb hN hk hp0 hBk hsb hlen hm); (intro v1 μ1 i1 hle1 hR); (dsimp only [List.cons_append, List.nil_append])) | refine KI ?_ | refine NB fun b => ?_ | fail)
    all_goals try (exfalso; first | fail)
    all_goals exact cN 2 i1 (by exact .inr rfl) hcnt rfl rfl hs' hR
end Go.Proofs.YtocidaibmadekaaGreatDoor
namespace Go.Proofs.YtocidaibmadekaaGreatDoor
open Go.RowKit Go.Vcg Ou
attribute [local irreducible] wdL anI fV mkD G GC GQ GA bX Calls IntKind.wrap Int.decLt Int.decLe
theorem PV.form {μ : Mem} {p : EP} {v : Value} (h : PV μ p v) : ∃ Ar cr Al cl Ao co Am cm, v = .agg (cY p (.slice Ar p.regs.length cr) (.slice Al p.labels.length cl) (.slice Ao p.loops.length co) (.slice Am p.mine.length cm)).toArray ∧ IsV μ (.slice Ar p.regs.length cr) p.regs ∧ SsV μ (.slice Al p.labels.length cl) p.labels ∧ SsV μ (.slice Ao p.loops.length co) p.loops ∧ SsV μ (.slice Am p.mine.length cm) p.mine := by
  obtain ⟨r, lb, lo, mi, rfl, h1, h2, h3, h4⟩ := h
  have e1 := h1
  have e2 := h2
  have e3 := h3
  have e4 := h4
  obtain ⟨Ar, cr, rfl, -, -⟩ := e1
  obtain ⟨Al, cl, rfl, -, -⟩ := e2
  obtain ⟨Ao, co, rfl, -, -⟩ := e3
  obtain ⟨Am, cm, rfl, -, -⟩ := e4
  exact ⟨_, _, _, _, _, _, _, _, rfl, h1, h2, h3, h4⟩
theorem KS (N : T → EP → ES → ES) (B : T → EP → ED → ES → ES) (t : T) (hq : dF qE t) (hts : t.size ≤ 80000) (hNN : ∀ k, dF qE k → k.size < t.size → NCk N k ∧ NG N k) (hBB : ∀ k, dF qE k → k.size < t.size → BCk B k ∧ BG B k) : NCk (AO wdF N B) t := by
  intro xb mb u pv p s μ hk hp hB hS hm
  intro w fs hμ hR hO
  have hcnt := bG hO.diff
  have hp0 := hp
  obtain ⟨Ar, cr, Al, cl, Ao, co, Am, cm, rfl, hpr, hplb, hplo, hmi⟩ := hp.form
  have ou := hk.one
  have hrl := hB.regs
  have hbl := hB.labels
  have hll := hB.loops
  have hne := hB.ne
  have hts9 := hq.here.2
  have hsz := aP t
  have hlen0 := dV t.kids
  have hlen : t.kids.length ≤ 100000 := by omega
  have hlek : ∀ k ∈ t.kids, k.size < t.size := fun k hk => by
    have : k.size ≤ szs t.kids := T.bN (List.mem_map.2 ⟨k, hk, rfl⟩)
    omega
  have hN : ∀ k ∈ t.kids, NCk N k ∧ NG N k := fun k hk => hNN k (hq.kid hk) (hlek k hk)
  have hregs : s.regs ≤ 1000000 := by
    unfold SB at hS
    omega
  have hsbw : SB (cG s) (szs t.kids) := by
    have := (lG (F := FF) s).wt
    unfold SB at hS ⊢
    omega
  obtain ⟨A, c, rfl, hcap, hget⟩ := hk.form
  generalize hs' : AO wdF N B t p s = s'
  unfold AO at hs'
  dsimp only at hs'
  refine aS (args := [.pointer (some ⟨xb, 0, none⟩), .agg (aD t (.slice A t.kids.length c)).toArray, .agg (cY p (.slice Ar p.regs.length cr) (.slice Al p.labels.length cl) (.slice Ao p.loops.length co) (.slice Am p.mine.length cm)).toArray]) Tryz.func62 rfl Tryz.ntmps62 (by simp) hμ hO ?_
  refine eO (NY xb mb s fs) ?_
  by_cases he : s.e = 0
  rotate_left
  · rw [if_pos he] at hs'
    repeat' (first | refine KK ?_ | refine NB fun b => ?_ | fail)
    all_goals try (exfalso; first | fail)
    all_goals exact cN 2 fs (by exact .inl rfl) hcnt rfl rfl hs' hR
  rw [if_neg (fun h => h he)] at hs'
  repeat' (first | refine KK ?_ | refine NB fun b => ?_ | fail)
  all_goals try (exfalso; first | fail)
  rename_i bn
  obtain ⟨bp, hbp⟩ : ∃ y, y = b := ⟨_, rfl⟩
  rw [← hbp]
  clear hbp
  refine aC 9 _ (by kernel_rfl) rfl (List.Sublist.cons_cons _ (List.Sublist.cons_cons _ (List.nil_sublist _))) ?_
  all_goals refine DD 0 ?_
  all_goals refine DD 1 ?_
  all_goals refine DD 2 ?_
  all_goals refine DD 3 ?_
  all_goals refine DD 4 ?_
  all_goals refine DD 5 ?_
  all_goals refine DD 6 ?_
  all_goals refine DD 7 ?_
  all_goals refine DD 8 ?_
  all_goals refine D8 ?_
  repeat' (first | ((with_reducible show GC _ _ (Code.seq (Code.region 4 _ _) _) _ _ _ _); (apply bF)) | refine KK ?_ | fail)
  refine gcs (KC (l' := [(0, .pointer (some ⟨xb, 0, none⟩)), (4, .pointer (some ⟨bn, 0, none⟩)), (5, .pointer (some ⟨bp, 0, none⟩)), (6, (.slice Am p.mine.length cm)), (7, .bool p.own), (8, .bool p.each)]) (L' := .inl ⟨bp, 93, 12, idx 0 (cY (kS p) (.slice Ar p.regs.length cr) (.slice Al p.labels.length cl) (.slice Ao p.loops.length co) (.slice none 0 0))⟩ :: .inl ⟨bn, 24, 6, idx 0 (aD t (.slice A t.kids.length c))⟩ :: EB xb mb s fs) PU (bW (.cells PU) (bV _)) ?_)
  have hpq : PV μ (kS p) (.agg (cY (kS p) (.slice Ar p.regs.length cr) (.slice Al p.labels.length cl) (.slice Ao p.loops.length co) (.slice none 0 0)).toArray) := ⟨_, _, _, _, rfl, hpr, hplb, hplo, SsV.nil _⟩
  have hPBq : ∀ n, n ≤ t.size → PB (kS p) n := fun n hn => ⟨hne, by show p.regs.length + n ≤ 90000; omega, by show p.labels.length + n ≤ 90000; omega, by show p.loops.length + 0 ≤ p.labels.length; omega⟩
  have hPBw : ∀ s n, n < t.size → PB (fX (kS p) s) n := fun s n hn => ⟨by show 0 < (p.regs ++ _).length; simp, by show (p.regs ++ _).length + n ≤ 90000; rw [List.length_append, List.length_singleton]; omega, by show p.labels.length + n ≤ 90000; omega, by show p.loops.length + 0 ≤ p.labels.length; omega⟩
  have hPBl : ∀ x n, n < t.size → PB { kS p with labels := p.labels ++ [x], mine := p.mine ++ [x] } n := fun x n hn => ⟨hne, by show p.regs.length + n ≤ 90000; omega, by show (p.labels ++ [x]).length + n ≤ 90000; rw [List.length_append, List.length_singleton]; omega, by show p.loops.length + (p.mine ++ [x]).length ≤ (p.labels ++ [x]).length; rw [List.length_append, List.length_append, List.length_singleton]; omega⟩
  have hqm : (kS p).loops.length + p.mine.length + (kS p).mine.length ≤ (kS p).labels.length := by show p.loops.length + p.mine.length + 0 ≤ p.labels.length; omega
  have hqr : (kS p).regs.length ≤ 100000 := by show p.regs.length ≤ _; omega
  have hql : (kS p).labels = p.labels := rfl
  have hqo : (kS p).loops = p.loops := rfl
  have hqg : (kS p).regs = p.regs := rfl
  have hwl : ∀ s, (fX (kS p) s).regs.length ≤ 100000 := fun s => by show (p.regs ++ _).length ≤ _; rw [List.length_append, List.length_singleton]; omega
  have hwn : ∀ s, 0 < (fX (kS p) s).regs.length := fun s => by show 0 < (p.regs ++ _).length; simp
  generalize kS p = q at hs' hpq hPBq hPBw hPBl hqm hqr hql hqo hqg hwl hwn ⊢
  by_cases h2 : t.op = 2
  · rw [if_pos h2] at hs'
    repeat' (first | refine KO ?_ | (refine CF 81 ?_; (with_reducible apply dJ 2); (iterate 3 exact rfl); ((with_reducible apply bZ); kernel_rfl; (iterate 4 exact rfl)); exact rfl; (exact hR); (exact KP N B t hq h2 hts hNN hBB xb mb _ _ q p.each s _ hk hpq (hPBq _ (Nat.le_refl _)) hS hm); (intro v1 μ1 i1 hle1 hR); (dsimp only [List.cons_append, List.nil_append])) | refine KI ?_ | fail)
    all_goals try (exfalso; first | fail)
    all_goals exact cN 2 i1 (by exact .inr rfl) hcnt rfl rfl hs' hR
  rw [if_neg h2] at hs'
  by_cases h4 : t.op = 4
  · rw [if_pos h4] at hs'
    repeat' (first | refine KO ?_ | (refine CF 82 ?_; (with_reducible apply dJ 2); (iterate 3 exact rfl); ((with_reducible apply bZ); kernel_rfl; (iterate 4 exact rfl)); exact rfl; (exact hR); (exact QU N B t hq h4 hts hNN hBB xb mb _ _ q p.own s _ hk hpq (hPBq _ (Nat.le_refl _)) hS hm); (intro v1 μ1 i1 hle1 hR); (dsimp only [List.cons_append, List.nil_append])) | refine KI ?_ | fail)
    all_goals try (exfalso; first | fail)
    all_goals exact cN 2 i1 (by exact .inr rfl) hcnt rfl rfl hs' hR
  rw [if_neg h4] at hs'
  by_cases h6 : t.op = 6
  · rw [if_pos h6] at hs'
    repeat' (first | refine KK ?_ | fail)
    all_goals try (exfalso; first | fail)
    refine aC 7 _ (by kernel_rfl) rfl (List.Sublist.cons_cons _ (List.Sublist.cons_cons _ (List.nil_sublist _))) ?_
    all_goals refine DD 0 ?_
    all_goals refine DD 1 ?_
    all_goals refine DD 2 ?_
    all_goals refine DD 3 ?_
    all_goals refine DD 4 ?_
    all_goals ((refine D3 5 ?_; refine D5 ?_; ((refine CF 83 ?_; (with_reducible apply HD 2); (iterate 3 exact rfl); ((with_reducible apply fW); kernel_rfl; exact rfl; exact rfl); exact rfl; (exact hR); (exact nD xb mb q _ s _ hpq hqr hregs); (intro v1 μ1 i1 hle1 hR hP1); (dsimp only [List.cons_append, List.nil_append]); (have hk := hk.mono hle1); (have hm := hm.mono hle1))); refine D9 ?_))
    all_goals ((refine D3 6 ?_; refine D5 ?_; ((refine CF 39 ?_; (with_reducible apply dJ 2); (iterate 3 exact rfl); ((with_reducible apply aU); kernel_rfl; (iterate 3 exact rfl)); exact rfl; (exact hR); (exact eD N t.kids _ _ (fX q s) (cG s) _ xb mb hN hk hP1 (fun y hy => hPBw s _ (hlek y hy)) hsbw hlen hm); (intro v1 μ1 i1 hle1 hR); (dsimp only [List.cons_append, List.nil_append]))); refine D9 ?_))
    all_goals refine D8 ?_
    all_goals repeat' (first | refine KK ?_ | fail)
    all_goals exact cN 2 i1 (by exact .inr rfl) hcnt rfl rfl hs' hR
  rw [if_neg h6] at hs'
  by_cases h20 : t.op = 20
  · rw [if_pos h20] at hs'
    have hk2 := hq.here.1.two (by simp [h20])
    obtain ⟨rr, hrr⟩ := oR hk2
    have hz := hsz
    rw [hrr, aZ, aZ] at hz hsbw
    have hz1 := aP (aY t 1)
    obtain ⟨ad, x0, rfl, hm0, hox0, hk0⟩ := hget 0 _ (dD (by omega))
    obtain ⟨ad', x1, e, hm1, hox1, hk1⟩ := hget 1 _ (dD (by omega))
    cases e
    have ha1 := hq.kid (bI (t := t) (i := 1) (by omega))
    have hl1 := dV (aY t 1).kids
    obtain ⟨hb0, hg0⟩ := hBB _ (hq.kid (bI (t := t) (i := 0) (by omega))) (by omega)
    have hND : ∀ y ∈ (aY t 1).kids, (NCk N y ∧ NG N y) ∧ y.size < t.size := fun y hy => by
      have : y.size ≤ szs (aY t 1).kids := T.bN (List.mem_map.2 ⟨y, hy, rfl⟩)
      exact ⟨hNN y (ha1.kid hy) (by omega), by omega⟩
    repeat' (first | ((with_reducible show GC _ _ (Code.seq (Code.region 14 _ _) _) _ _ _ _); (apply bF)) | refine KO ?_ | (refine CF 83 ?_; (with_reducible apply HD 2); (iterate 3 exact rfl); ((with_reducible apply fW); kernel_rfl; exact rfl; exact rfl); exact rfl; (exact hR); (exact nD xb mb q _ s _ hpq hqr hregs); (intro v1 μ1 i1 hle1 hR hP1); (dsimp only [List.cons_append, List.nil_append]); (obtain ⟨r2, lb2, lo2, mi2, rfl, hr2, hlb2, hlo2, hmi2⟩ := hP1); (have q1 := hr2.one); (have q2 := hlb2.one); (have q3 := hlo2.one); (have q4 := hmi2.one); (have hr2f := hr2); (obtain ⟨A2, c2, rfl, -, -⟩ := hr2f)) | refine KI ?_ | fail)
    all_goals try (exfalso; first | fail)
    have hPw := hPBw s
    have hwl := hwl s
    have hwn := hwn s
    generalize fX q s = q2 at hs' hr2 hlb2 hlo2 hmi2 hPw hwl hwn ⊢
    refine gcs ?_
    have hp2 : PV μ1 q2 (.agg (cY q2 (.slice A2 q2.regs.length c2) lb2 lo2 mi2).toArray) := ⟨_, _, _, _, rfl, hr2, hlb2, hlo2, hmi2⟩
    obtain ⟨nv, hnv, hnear⟩ := uK μ1 q2 _ hp2 hwn (by omega)
    have hnv0 := hnv
    obtain ⟨An, cn, rfl, -, -⟩ := hnv0
    have hnl : (gW q2).length ≤ 100000 := by
      unfold gW
      rw [List.length_drop]
      omega
    have hm0 := hm0.mono hle1
    have hk0 := hk0.mono hle1
    have hm1 := hm1.mono hle1
    have hk1 := hk1.mono hle1
    have hm := hm.mono hle1
    have hsb1 := SB.gr (n := (aY t 0).size) (m := szs (aY t 1).kids) (hsbw.mono (by omega)) (hg0 q2 ⟨true, gW q2, 0, false⟩ (cG s))
    repeat' (first | refine KK ?_ | fail)
    refine aC 10 _ (by kernel_rfl) rfl (List.Sublist.cons_cons _ (List.Sublist.cons_cons _ (List.nil_sublist _))) ?_
    all_goals refine DD 0 ?_
    all_goals (first | refine D1 1 ?_ | fail)
    all_goals (first | refine DD 2 ?_ | fail)
    all_goals (first | (refine DV (k := 3) (b := by exact U1 0) (c := ?_)) | fail)
    all_goals (first | (refine DV (k := 4) (b := by exact U4 hm0) (c := ?_)) | fail)
    all_goals (first | refine DD 5 ?_ | fail)
    all_goals (first | refine DD 6 ?_ | fail)
    all_goals ((refine D3 7 ?_; refine D5 ?_; (((with_reducible apply F1 85); exact rfl; exact EN; (exact fun w μc hw hse => hnear w μc hw hse.le))); refine D9 ?_))
    all_goals refine DD 8 ?_
    all_goals ((refine D3 9 ?_; refine D5 ?_; ((refine CF 84 ?_; (with_reducible apply dJ 2); (iterate 3 exact rfl); ((with_reducible apply bZ); kernel_rfl; (iterate 4 exact rfl)); exact rfl; (exact hR); (exact hb0 xb mb _ _ _ q2 ⟨true, gW q2, 0, false⟩ _ _ hk0 hp2 hnv hnl (hPw _ (by omega)) (hsbw.mono (by omega)) hm); (intro v1 μ1 i1 hle1 hR); (dsimp only [List.cons_append, List.nil_append]); (have hm1 := hm1.mono hle1); (have hk1 := hk1.mono hle1); (have hp2 := hp2.mono hle1); (have hm := hm.mono hle1))); refine D9 ?_))
    all_goals refine D8 ?_
    all_goals repeat' (first | refine KK ?_ | fail)
    all_goals
      refine aC 8 _ (by kernel_rfl) rfl (List.Sublist.cons_cons _ (List.Sublist.cons_cons _ (List.nil_sublist _))) ?_
      all_goals refine DD 0 ?_
      all_goals (first | refine D1 1 ?_ | fail)
      all_goals (first | refine DD 2 ?_ | fail)
      all_goals (first | (refine DV (k := 3) (b := by exact U1 1) (c := ?_)) | fail)
      all_goals (first | refine DD 4 ?_ | fail)
      all_goals (first | (refine DV (k := 5) (b := by exact U4 hm1) (c := ?_)) | fail)
      all_goals (first | refine DD 6 ?_ | fail)
      all_goals ((refine D3 7 ?_; refine D5 ?_; refine CF 39 ?_; (with_reducible apply dJ 2); (iterate 3 exact rfl); ((with_reducible apply aU); kernel_rfl; (iterate 3 exact rfl)); exact rfl; (exact hR); (exact eD N (aY t 1).kids _ _ q2 _ _ xb mb (fun y hy => (hND y hy).1) hk1 hp2 (fun y hy => hPw _ (hND y hy).2) hsb1 (by omega) hm); (intro v1 μ1 i1 hle1 hR); (dsimp only [List.cons_append, List.nil_append]); refine D9 ?_))
      all_goals refine D8 ?_
    all_goals repeat' (first | refine KK ?_ | fail)
    all_goals exact cN 2 i1 (by exact .inr rfl) hcnt rfl rfl hs' hR
  rw [if_neg h20] at hs'
  by_cases h10 : t.op = 10 ∨ t.op = 11 ∨ t.op = 12 ∨ t.op = 13 ∨ t.op = 14
  · rw [if_pos h10] at hs'
    have h10' := h10
    rcases h10' with h | h | h | h | h
    all_goals repeat' (first | refine KO ?_ | (refine CF 86 ?_; (with_reducible apply dJ 2); (iterate 3 exact rfl); ((with_reducible apply bZ); kernel_rfl; (iterate 4 exact rfl)); exact rfl; (exact hR); (exact KW N t hq h10 hts hNN xb mb _ _ _ q p.mine s _ hk hpq hmi (hPBq _ (Nat.le_refl _)) hqm hS hm); (intro v1 μ1 i1 hle1 hR); (dsimp only [List.cons_append, List.nil_append])) | refine KI ?_ | fail)
    all_goals try (exfalso; first | fail)
    all_goals exact cN 2 i1 (by exact .inr rfl) hcnt rfl rfl hs' hR
  rw [if_neg h10] at hs'
  by_cases h21 : t.op = 21
  · rw [if_pos h21] at hs'
    have hk1 := hq.here.1.one (by omega)
    have hz := hsz
    rw [vL hk1, aZ] at hz
    obtain ⟨ad, x0, rfl, hm0, hox0, hk0⟩ := hget 0 _ (dD (by omega))
    obtain ⟨hn0, hg0⟩ := hN _ (bI (t := t) (i := 0) (by omega))
    have hdr : ∀ y ∈ t.kids.drop 1, y ∈ t.kids := fun y hy => List.mem_of_mem_drop hy
    have hdp := hk.rL (by omega)
    have hld := dV (t.kids.drop 1)
    have hgA := (hg0 q s).trans (lG (F := FF) (N (aY t 0) q s)) (Nat.le_refl _)
    have hsbA : SB (cG (N (aY t 0) q s)) (szs (t.kids.drop 1)) := by
      have := hgA.wt
      unfold SB at hS ⊢
      omega
    have hregA : (N (aY t 0) q s).regs ≤ 1000000 := by
      have := (hg0 q s).wt
      unfold SB at hS
      omega
    repeat' (first | refine KK ?_ | fail)
    all_goals try (exfalso; first | fail)
    refine aC 7 _ (by kernel_rfl) rfl (List.Sublist.cons_cons _ (List.Sublist.cons_cons _ (List.nil_sublist _))) ?_
    all_goals refine DD 0 ?_
    all_goals (first | refine D1 1 ?_ | fail)
    all_goals (first | refine DD 2 ?_ | fail)
    all_goals (first | (refine DV (k := 3) (b := by exact U1 0) (c := ?_)) | fail)
    all_goals (first | (refine DV (k := 4) (b := by exact U4 hm0) (c := ?_)) | fail)
    all_goals (first | refine DD 5 ?_ | fail)
    all_goals ((refine D3 6 ?_; refine D5 ?_; refine CF 62 ?_; (with_reducible apply dJ 2); (iterate 3 exact rfl); ((with_reducible apply aU); kernel_rfl; (iterate 3 exact rfl)); exact rfl; (exact hR); (exact hn0 xb mb _ _ q s _ hk0 hpq (hPBq _ (by omega)) (hS.mono (by omega)) hm); (intro v1 μ1 i1 hle1 hR); (dsimp only [List.cons_append, List.nil_append]); (have hdp := hdp.mono hle1); (have hpq := hpq.mono hle1); (have hm := hm.mono hle1); refine D9 ?_))
    all_goals refine D8 ?_
    all_goals repeat' (first | ((with_reducible show GC _ _ (Code.seq (Code.region 25 _ _) _) _ _ _ _); (apply bF)) | refine KO ?_ | (refine CF 83 ?_; (with_reducible apply HD 2); (iterate 3 exact rfl); ((with_reducible apply fW); kernel_rfl; exact rfl; exact rfl); exact rfl; (exact hR); (exact nD xb mb q _ (N (aY t 0) q s) _ hpq hqr hregA); (intro v1 μ1 i1 hle1 hR hP1); (dsimp only [List.cons_append, List.nil_append]); (have hdp := hdp.mono hle1); (have hm := hm.mono hle1); (obtain ⟨r2, lb2, lo2, mi2, rfl, hr2, hlb2, hlo2, hmi2⟩ := hP1); (have q1 := hr2.one); (have q2 := hlb2.one); (have q3 := hlo2.one); (have q4 := hmi2.one); (have hr2f := hr2); (obtain ⟨A2, c2, rfl, -, -⟩ := hr2f)) | refine KI ?_ | fail)
    have hPw := hPBw (N (aY t 0) q s)
    generalize fX q (N (aY t 0) q s) = q2 at hs' hr2 hlb2 hlo2 hmi2 hPw ⊢
    refine gcs ?_
    repeat' (first | refine KK ?_ | fail)
    refine aC 6 _ (by kernel_rfl) rfl (List.Sublist.cons_cons _ (List.Sublist.cons_cons _ (List.nil_sublist _))) ?_
    all_goals refine DD 0 ?_
    all_goals (first | refine D1 1 ?_ | fail)
    all_goals (first | refine DD 2 ?_ | fail)
    all_goals (first | (refine DV (k := 3) (b := by ((with_reducible apply eE 1); (iterate 4 exact rfl); omega; omega)) (c := ?_)) | fail)
    all_goals (first | refine DD 4 ?_ | fail)
    all_goals ((refine D3 5 ?_; refine D5 ?_; refine CF 39 ?_; (with_reducible apply dJ 2); (iterate 3 exact rfl); ((with_reducible apply aU); kernel_rfl; (iterate 3 exact rfl)); exact rfl; (exact hR); (exact eD N (t.kids.drop 1) _ _ { q2 with choice := true } _ _ xb mb (fun y hy => hN y (hdr y hy)) hdp ⟨_, _, _, _, rfl, hr2, hlb2, hlo2, hmi2⟩ (fun y hy => ⟨(hPw _ (hlek y (hdr y hy))).ne, (hPw _ (hlek y (hdr y hy))).regs, (hPw _ (hlek y (hdr y hy))).labels, (hPw _ (hlek y (hdr y hy))).loops⟩) hsbA (by omega) hm); (intro v1 μ1 i1 hle1 hR); (dsimp only [List.cons_append, List.nil_append]); refine D9 ?_))
    all_goals refine D8 ?_
    all_goals repeat' (first | refine KK ?_ | fail)
    all_goals exact cN 2 i1 (by exact .inr rfl) hcnt rfl rfl hs' hR
  rw [if_neg h21] at hs'
  by_cases h9 : t.op = 9
  · rw [if_pos h9] at hs'
    have hk1 := hq.here.1.one (by omega)
    have hz := hsz
    rw [vL hk1, aZ] at hz
    obtain ⟨ad, x0, rfl, hm0, hox0, hk0⟩ := hget 0 _ (dD (by omega))
    obtain ⟨hn0, hg0⟩ := hN _ (bI (t := t) (i := 0) (by omega))
    have hdr : ∀ y ∈ t.kids.drop 1, y ∈ t.kids := fun y hy => List.mem_of_mem_drop hy
    have hdp := hk.rL (by omega)
    have hld := dV (t.kids.drop 1)
    have hdl : (t.kids.drop 1).length = t.kids.length - 1 := List.length_drop
    have hlb : (t.kids.drop 1).length ≤ 100000 := by omega
    have hsbA := SB.gr (s' := N (aY t 0) q s) (n := (aY t 0).size) (m := szs (t.kids.drop 1)) (hS.mono (by omega)) (hg0 q s)
    repeat' (first | refine KK ?_ | fail)
    all_goals try (exfalso; first | fail)
    refine aC 7 _ (by kernel_rfl) rfl (List.Sublist.cons_cons _ (List.Sublist.cons_cons _ (List.nil_sublist _))) ?_
    all_goals refine DD 0 ?_
    all_goals (first | refine D1 1 ?_ | fail)
    all_goals (first | refine DD 2 ?_ | fail)
    all_goals (first | (refine DV (k := 3) (b := by exact U1 0) (c := ?_)) | fail)
    all_goals (first | (refine DV (k := 4) (b := by exact U4 hm0) (c := ?_)) | fail)
    all_goals (first | refine DD 5 ?_ | fail)
    all_goals ((refine D3 6 ?_; refine D5 ?_; refine CF 62 ?_; (with_reducible apply dJ 2); (iterate 3 exact rfl); ((with_reducible apply aU); kernel_rfl; (iterate 3 exact rfl)); exact rfl; (exact hR); (exact hn0 xb mb _ _ q s _ hk0 hpq (hPBq _ (by omega)) (hS.mono (by omega)) hm); (intro v1 μ1 i1 hle1 hR); (dsimp only [List.cons_append, List.nil_append]); (have hdp := hdp.mono hle1); (have hpq := hpq.mono hle1); (have hm := hm.mono hle1); refine D9 ?_))
    all_goals refine D8 ?_
    all_goals repeat' (first | refine KO ?_ | (refine KV (b := by ((with_reducible apply eE 1); (iterate 4 exact rfl); omega; omega)) (c := ?_)) | refine KI ?_ | fail)
    rw [← hdl] at hdp ⊢
    obtain ⟨A3, c3, e3, hcap3, hget3⟩ := hdp.form
    rw [e3]
    generalize hs0 : N (aY t 0) q s = s0 at hR hs' hsbA ⊢
    generalize hl3 : t.kids.drop 1 = l3 at hs' hdr hld hlb hsbA hget3 ⊢
    refine aX (ι := Nat × Mem × List FR) (fun y => y.1 ≤ l3.length ∧ MLe μ1 y.2.1 ∧ ER y.2.1 y.2.2 ((l3.take y.1).foldl (fun s k => gP N k q s) s0)) (fun y => l3.length - y.1) (fun y => y.2.1) (fun y => [(121, .int .i64 (y.1 : Int)), (120, .int .i64 (l3.length : Int)), (119, .slice A3 l3.length c3), (5, .pointer (some ⟨bp, 0, none⟩)), (0, .pointer (some ⟨xb, 0, none⟩))]) (fun y => .inl ⟨bp, 93, 12, idx 0 (cY q (.slice Ar p.regs.length cr) (.slice Al p.labels.length cl) (.slice Ao p.loops.length co) (.slice none 0 0))⟩ :: EB xb mb ((l3.take y.1).foldl (fun s k => gP N k q s) s0) y.2.2) (0, μ1, i1) ⟨Nat.zero_le _, MLe.refl _, hR⟩ (fun a w hs => hs.sel PU (bW (.refl _) (aO _ (bV _)))) ?_
    clear hR
    rintro ⟨i, μ0, fs0⟩ ⟨hi, hle0, hR⟩
    dsimp only at hi hle0 hR ⊢
    by_cases hlt : i < l3.length
    · obtain ⟨k, hkk⟩ : ∃ k, l3[i]? = some k := ⟨_, List.getElem?_eq_getElem hlt⟩
      obtain ⟨ad3, x3, rfl, hm3, hox3, hkx3⟩ := hget3 i k hkk
      have hmem := hdr k (List.mem_of_getElem? hkk)
      have hmm := hm3.mono hle0
      obtain ⟨hn1, -⟩ := hN k hmem
      have hz3 := eP hkk
      have hgr : Gr FF (2 * szs (l3.take i)) s0 ((l3.take i).foldl (fun s k => gP N k q s) s0) := by
        have h9 := gS (F := FF) (g := (fun s k => gP N k q s)) (c := fun k => 2 * T.size k) (l3.take i) s0 (fun k hk s => pQ k (fun p s => (hN k (hdr k (List.mem_of_mem_take hk))).2 p s) q s)
        rwa [iX] at h9
      have hsb := SB.gr (n := szs (l3.take i)) (m := k.size) (hsbA.mono (by omega)) hgr
      have hnext : (fun s k => gP N k q s) ((l3.take i).foldl (fun s k => gP N k q s) s0) k = ((l3.take (i + 1)).foldl (fun s k => gP N k q s) s0) := (lP (fun s k => gP N k q s) l3 s0 hkk).symm
      dsimp only at hnext
      repeat' (first | refine KO ?_ | (refine CF 87 ?_; (with_reducible apply dJ 2); (iterate 3 exact rfl); ((with_reducible apply aU); kernel_rfl; (iterate 3 exact rfl)); exact rfl; (exact hR); (exact pX N k hn1 _ _ q _ _ xb mb (hkx3.mono hle0) (hpq.mono hle0) (hPBq _ (Nat.le_of_lt (hlek k hmem))) hsb (hm.mono hle0)); (intro v1 μ1 i1 hle1 hR); (dsimp only [List.cons_append, List.nil_append])) | (refine KV (b := by first | exact U1 i | exact U4 hmm) (c := ?_)) | refine KI ?_ | refine NB fun b => ?_ | fail)
      all_goals try (exfalso; first | fail)
      rw [hnext] at hR ⊢
      exact bD (i + 1, μ1, i1) ⟨by dsimp only; omega, hle0.trans hle1, hR⟩ (by dsimp only; omega) rfl PU (bH (.refl _) (aO _ (bV _)))
    · have hil : i = l3.length := by omega
      subst hil
      rw [List.take_of_length_le (Nat.le_refl _)] at hR ⊢
      repeat' (first | refine KK ?_ | fail)
      all_goals try (exfalso; first | fail)
      all_goals exact cN 1 fs0 (by exact .inr rfl) hcnt rfl rfl hs' hR
  rw [if_neg h9] at hs'
  by_cases h23 : t.op = 23
  rotate_left
  · rw [if_neg h23] at hs'
    repeat' (first | refine KO ?_ | (refine CF 92 ?_; (with_reducible apply dJ 2); (iterate 3 exact rfl); ((with_reducible apply aU); kernel_rfl; (iterate 3 exact rfl)); exact rfl; (exact hR); (exact KQ N t hq hts hNN xb mb _ _ q s _ hk hpq (hPBq _ (Nat.le_refl _)) hS hm); (intro v1 μ1 i1 hle1 hR); (dsimp only [List.cons_append, List.nil_append])) | refine KI ?_ | fail)
    all_goals try (exfalso; first | fail)
    all_goals exact cN 2 i1 (by exact .inr rfl) hcnt rfl rfl hs' hR
  rw [if_pos h23] at hs'
  have hk1 := hq.here.1.one (by omega)
  have hz := hsz
  rw [vL hk1, aZ] at hz
  obtain ⟨ad, x0, rfl, hm0, hox0, hk0⟩ := hget 0 _ (dD (by omega))
  obtain ⟨hn0, hg0⟩ := hN _ (bI (t := t) (i := 0) (by omega))
  obtain ⟨cl1, hcl1⟩ : ∃ b, q.labels.contains t.s = b := ⟨_, rfl⟩
  rw [hcl1] at hs'
  have hgb := (kH (F := FF) wdF t t.s q s).trans (eT cl1 t.at' 31 _) (Nat.le_refl _)
  have hsbA := SB.gr (n := 0) (m := (aY t 0).size) (hS.mono (by omega)) hgb
  have hqb : SsV μ (.slice Al p.labels.length cl) q.labels := by rw [hql]; exact hplb
  repeat' (first | refine KO ?_ | (refine CF 88 ?_; (with_reducible apply dJ 2); (iterate 3 exact rfl); ((with_reducible apply bZ); kernel_rfl; (iterate 4 exact rfl)); exact rfl; (exact hR); (exact kB xb mb t _ ou _ (by omega) q _ s _ hpq hm); (intro v1 μ1 i1 hle1 hR); (dsimp only [List.cons_append, List.nil_append]); (have hlq := hqb.mono hle1); (have hleA := hle1); (have hm0 := hm0.mono hle1); (have hk0 := hk0.mono hle1); (have hpq := hpq.mono hle1); (have hmi := hmi.mono hle1); (have hm := hm.mono hle1)) | refine KI ?_ | fail)
  all_goals try (exfalso; first | fail)
  refine aC 9 _ (by kernel_rfl) rfl (List.Sublist.cons_cons _ (List.Sublist.cons_cons _ (List.nil_sublist _))) ?_
  all_goals refine DD 0 ?_
  all_goals refine DD 1 ?_
  all_goals refine DD 2 ?_
  all_goals refine DD 3 ?_
  all_goals refine DD 4 ?_
  all_goals refine DD 5 ?_
  all_goals refine DD 6 ?_
  all_goals ((refine D3 7 ?_; refine D5 ?_; (((with_reducible apply F1 90); exact rfl; exact EN; (exact fun w μc hw hse => qA t.s q.labels _ hcl1 _ w μc hw (hlq.mono hse.le) (by rw [hql]; omega)))); refine D9 ?_))
  all_goals ((refine D3 8 ?_; refine D5 ?_; ((refine CF 89 ?_; (with_reducible apply dJ 2); (iterate 3 exact rfl); ((with_reducible apply bZ); kernel_rfl; (iterate 4 exact rfl)); exact rfl; (exact hR); (exact jG xb mb t _ ou _ _ _ _); (intro v1 μ1 i1 hle1 hR); (dsimp only [List.cons_append, List.nil_append]); (have hlq := hlq.mono hle1); (have hleA := hleA.trans hle1); (have hm0 := hm0.mono hle1); (have hk0 := hk0.mono hle1); (have hpq := hpq.mono hle1); (have hmi := hmi.mono hle1); (have hm := hm.mono hle1))); refine D9 ?_))
  all_goals refine D8 ?_
  repeat' (first | ((with_reducible show GC _ _ (Code.seq (Code.region 37 _ _) _) _ _ _ _); (apply bF)) | refine KK ?_ | fail)
  have hlp := hplb.mono hleA
  have e1 : (p.labels.flatMap gA).length = p.labels.length := BJ p.labels
  have e2 := xR p.labels
  refine gcs (dY (ι := Mem × Value) (fun y => MLe μ1 y.1 ∧ SsV y.1 y.2 (p.labels ++ [t.s])) (fun y => y.1) (fun _ => [(0, .pointer (some ⟨xb, 0, none⟩)), (4, .pointer (some ⟨bn, 0, none⟩)), (5, .pointer (some ⟨bp, 0, none⟩)), (6, (.slice Am p.mine.length cm))]) (fun y => .inl ⟨bp, 93, 12, idx 0 (cY { q with labels := p.labels ++ [t.s] } (.slice Ar p.regs.length cr) y.2 (.slice Ao p.loops.length co) (.slice none 0 0))⟩ :: .inl ⟨bn, 24, 6, idx 0 (aD t (.slice (some ad) t.kids.length c))⟩ :: EB xb mb (dN cl1 t.at' 31 (iR wdF t t.s q s)) i1) ?_ ?_)
  · refine aC 11 _ (by kernel_rfl) rfl (List.Sublist.cons _ (List.Sublist.cons_cons _ (List.nil_sublist _))) ?_
    all_goals refine DD 0 ?_
    all_goals refine DD 1 ?_
    all_goals refine DD 4 ?_
    all_goals refine DD 5 ?_
    refine dW 2 6 (by kernel_rfl) ?dr13_2 ?dr13_6
    case' dr13_2 =>
      (((with_reducible apply dL); (iterate 4 exact rfl); (((with_reducible apply oX); exact rfl; (repeat with_reducible exact cU); exact rfl))))
      refine dW 3 6 (by kernel_rfl) ?dr14_3 ?dr14_6
      case' dr14_3 =>
        ((refine D5 ?_; (with_reducible apply F3 91); exact rfl; exact EN; (exact fun w μc hw hse => qV w μc hw p.labels _ (hlp.mono hse.le) (by omega)); intro vr; refine D9 ?_))
        all_goals ((refine D3 6 ?_; refine D5 ?_; refine NB fun b => ?_; refine D9 ?_))
        all_goals ((refine D3 7 ?_; refine D5 ?_; refine AI (k := fun g cap hcap => ?_); refine D9 ?_))
        all_goals refine DD 8 ?_
        all_goals refine DD 9 ?_
        all_goals ((refine D3 10 ?_; refine D5 ?_; refine Y0 ?_; refine D9 ?_))
        all_goals refine D8 ?_
      case' dr14_6 =>
        ((refine D5 ?_; refine NB fun b => ?_; refine D9 ?_))
        all_goals ((refine D3 3 ?_; refine D5 ?_; (with_reducible apply F3 91); exact rfl; exact EN; (exact fun w μc hw hse => qV w μc hw p.labels _ (hlp.mono hse.le) (by omega)); intro vr; refine D9 ?_))
        all_goals ((refine D3 7 ?_; refine D5 ?_; refine AI (k := fun g cap hcap => ?_); refine D9 ?_))
        all_goals refine DD 8 ?_
        all_goals refine DD 9 ?_
        all_goals ((refine D3 10 ?_; refine D5 ?_; refine Y0 ?_; refine D9 ?_))
        all_goals refine D8 ?_
    case' dr13_6 =>
      ((refine D5 ?_; refine NB fun b => ?_; refine D9 ?_))
      all_goals ((refine D3 2 ?_; (with_reducible apply dL); (iterate 4 exact rfl); (((with_reducible apply oX); exact rfl; (repeat first | with_reducible exact cU | with_reducible apply gJ); exact rfl))))
      all_goals ((refine D3 3 ?_; refine D5 ?_; (with_reducible apply F3 91); exact rfl; exact EN; (exact fun w μc hw hse => qV w μc hw p.labels _ (hlp.mono hse.le) (by omega)); intro vr; refine D9 ?_))
      all_goals ((refine D3 7 ?_; refine D5 ?_; refine AI (k := fun g cap hcap => ?_); refine D9 ?_))
      all_goals refine DD 8 ?_
      all_goals refine DD 9 ?_
      all_goals ((refine D3 10 ?_; refine D5 ?_; refine Y0 ?_; refine D9 ?_))
      all_goals refine D8 ?_
    all_goals repeat' (first | fail)
    all_goals first
      | (refine sC rfl ?_; intro μ4 hle4 hsh4; have hv := SsV.iY (xs := p.labels ++ [t.s]) hsh4 (by simp) (by rw [List.flatMap_append]; rfl))
      | (refine sB rfl ?_; intro μ4 hle4 hsh4; have hv := SsV.iY (xs := p.labels ++ [t.s]) hsh4 (by simp) (by rw [List.flatMap_append]; rfl))
    all_goals exact cD (μ4, _) ⟨hle4, hv⟩ rfl PU (bH (.cells PU) (bH (.cells PU) (aO _ (bV _))))
  rintro ⟨μ2, lv⟩ ⟨hle2, hlv⟩
  dsimp only at hle2 hlv ⊢
  have olv := hlv.one
  have hm0 := hm0.mono hle2
  have hk0 := hk0.mono hle2
  have hpr := hpr.mono (hleA.trans hle2)
  have hplo := hplo.mono (hleA.trans hle2)
  have hmi := hmi.mono hle2
  have hm := hm.mono hle2
  have hR := hR.mono hle2
  have e1 : (p.mine.flatMap gA).length = p.mine.length := BJ p.mine
  have e2 := xR p.mine
  refine dY (ι := Mem × Value) (fun y => MLe μ2 y.1 ∧ SsV y.1 y.2 (p.mine ++ [t.s])) (fun y => y.1) (fun _ => [(0, .pointer (some ⟨xb, 0, none⟩)), (4, .pointer (some ⟨bn, 0, none⟩)), (5, .pointer (some ⟨bp, 0, none⟩))]) (fun y => .inl ⟨bp, 93, 12, idx 0 (cY { q with labels := p.labels ++ [t.s], mine := p.mine ++ [t.s] } (.slice Ar p.regs.length cr) lv (.slice Ao p.loops.length co) y.2)⟩ :: .inl ⟨bn, 24, 6, idx 0 (aD t (.slice (some ad) t.kids.length c))⟩ :: EB xb mb (dN cl1 t.at' 31 (iR wdF t t.s q s)) i1) ?_ ?_
  · refine aC 8 _ (by kernel_rfl) rfl (List.Sublist.cons _ (List.Sublist.cons_cons _ (List.nil_sublist _))) ?_
    all_goals refine DD 0 ?_
    all_goals refine DD 2 ?_
    all_goals refine DD 3 ?_
    refine dW 1 4 (by kernel_rfl) ?dr15_1 ?dr15_4
    case' dr15_1 =>
      ((refine D5 ?_; (with_reducible apply F3 91); exact rfl; exact EN; (exact fun w μc hw hse => qV w μc hw p.mine _ (hmi.mono hse.le) (by omega)); intro vr; refine D9 ?_))
      all_goals ((refine D3 4 ?_; refine D5 ?_; refine NB fun b => ?_; refine D9 ?_))
      all_goals ((refine D3 5 ?_; refine D5 ?_; refine AI (k := fun g cap hcap => ?_); refine D9 ?_))
      all_goals refine DD 6 ?_
      all_goals ((refine D3 7 ?_; refine D5 ?_; refine Y0 ?_; refine D9 ?_))
      all_goals refine D8 ?_
    case' dr15_4 =>
      ((refine D5 ?_; refine NB fun b => ?_; refine D9 ?_))
      all_goals ((refine D3 1 ?_; refine D5 ?_; (with_reducible apply F3 91); exact rfl; exact EN; (exact fun w μc hw hse => qV w μc hw p.mine _ (hmi.mono hse.le) (by omega)); intro vr; refine D9 ?_))
      all_goals ((refine D3 5 ?_; refine D5 ?_; refine AI (k := fun g cap hcap => ?_); refine D9 ?_))
      all_goals refine DD 6 ?_
      all_goals ((refine D3 7 ?_; refine D5 ?_; refine Y0 ?_; refine D9 ?_))
      all_goals refine D8 ?_
    all_goals repeat' (first | fail)
    all_goals first
      | (refine sC rfl ?_; intro μ4 hle4 hsh4; have hv := SsV.iY (xs := p.mine ++ [t.s]) hsh4 (by simp) (by rw [List.flatMap_append]; rfl))
      | (refine sB rfl ?_; intro μ4 hle4 hsh4; have hv := SsV.iY (xs := p.mine ++ [t.s]) hsh4 (by simp) (by rw [List.flatMap_append]; rfl))
    all_goals exact cD (μ4, _) ⟨hle4, hv⟩ rfl PU (bH (.cells PU) (bH (.cells PU) (aO _ (bV _))))
  rintro ⟨μ3, mv⟩ ⟨hle3, hmv⟩
  dsimp only at hle3 hmv ⊢
  have omv := hmv.one
  have hm0 := hm0.mono hle3
  have hp3 : PV μ3 { q with labels := p.labels ++ [t.s], mine := p.mine ++ [t.s] } (.agg (cY { q with labels := p.labels ++ [t.s], mine := p.mine ++ [t.s] } (.slice Ar p.regs.length cr) lv (.slice Ao p.loops.length co) mv).toArray) := ⟨_, _, _, _, rfl, by show IsV _ _ q.regs; rw [hqg]; exact hpr.mono hle3, hlv.mono hle3, by show SsV _ _ q.loops; rw [hqo]; exact hplo.mono hle3, hmv⟩
  have hR := hR.mono hle3
  repeat' (first | fail)
  refine aC 7 _ (by kernel_rfl) rfl (List.Sublist.cons_cons _ (List.Sublist.cons_cons _ (List.nil_sublist _))) ?_
  all_goals refine DD 0 ?_
  all_goals (first | refine D1 1 ?_ | fail)
  all_goals (first | refine DD 2 ?_ | fail)
  all_goals (first | (refine DV (k := 3) (b := by exact U1 0) (c := ?_)) | fail)
  all_goals (first | (refine DV (k := 4) (b := by exact U4 hm0) (c := ?_)) | fail)
  all_goals (first | refine DD 5 ?_ | fail)
  all_goals ((refine D3 6 ?_; refine D5 ?_; refine CF 87 ?_; (with_reducible apply dJ 2); (iterate 3 exact rfl); ((with_reducible apply aU); kernel_rfl; (iterate 3 exact rfl)); exact rfl; (exact hR); (exact pX N (aY t 0) hn0 _ _ { q with labels := p.labels ++ [t.s], mine := p.mine ++ [t.s] } _ _ xb mb (hk0.mono hle3) hp3 (hPBl t.s _ (by omega)) hsbA (hm.mono hle3)); (intro v1 μ1 i1 hle1 hR); (dsimp only [List.cons_append, List.nil_append]); refine D9 ?_))
  all_goals refine D8 ?_
  all_goals repeat' (first | refine KK ?_ | fail)
  all_goals exact cN 2 i1 (by exact .inr rfl) hcnt rfl rfl (by rw [← hs', hql]) hR
end Go.Proofs.YtocidaibmadekaaGreatDoor
namespace Go.Proofs.YtocidaibmadekaaGreatDoor
open Go.RowKit Go.Vcg
def bT (t : T) (m : Int) : Bool := decide (t.op = 4) && decide (0 ≤ t.n) && decide ((IntKind.i64.wrap (t.n.tdiv m)).tmod 2 = 1)
def nW (t : T) : Bool := decide (t.op = 2) || bT t 1 || decide (6 ≤ t.op) && decide (t.op ≤ 19) || decide (t.op = 21) || decide (t.op = 23)
def eM (t : T) : Bool := if t.op = 4 then !bT t 1 && !bT t 8 && !bT t 16 && !bT t 32 else decide (30 ≤ t.op) && decide (t.op ≤ 38) || decide (42 ≤ t.op) && decide (t.op ≤ 54)
def tA (t : T) : Bool := decide (t.op = 2) && decide (t.kids.length = 1) && wA t 1
attribute [local irreducible] eK G GC GQ GA bX Calls IntKind.wrap Int.decLt Int.decLe
theorem lN (m : Int) (hm : m ≠ 0) : ∀ (t : T) (u : Value) (w : World) (μ : Mem), MOk μ w → KR μ t.kids u →
    Calls Tryz.prog 102 #[.agg (aD t u).toArray, .int .i64 m] w fun e w' => e = .returned (.bool (bT t m)) ∧ Below w.heap.size w w' := by
  intro t u w μ hμ hk
  have ho := hk.one
  refine aA (args := [.agg (aD t u).toArray, .int .i64 m]) Tryz.func102 rfl Tryz.ntmps102 (by simp) hμ ?_
  repeat' (first | refine KO ?_ | (refine KV (b := by ((with_reducible apply RI); exact rfl; exact rfl; exact hm)) (c := ?_)) | refine KI ?_ | refine NB fun b => ?_ | ((refine KB ?_ ?_ <;> intro hp)) | refine KG ?_ | fail)
  all_goals (refine aB rfl rfl ?_; simp_all [bT]; try omega)
theorem sX : kT 107 dS := by
  intro t u w μ hμ hk hs hss
  have ho := hk.one
  refine aA (args := [.agg (aD t u).toArray]) Tryz.func107 rfl Tryz.ntmps107 (by simp) hμ ?_
  repeat' (first | refine KK ?_ | refine NB fun b => ?_ | ((refine KB ?_ ?_ <;> intro hp)) | refine KG ?_ | fail)
  all_goals (refine aB rfl rfl ?_; simp_all [dS]; try omega)
theorem sW : kT 106 aV := by
  intro t u w μ hμ hk hs hss
  have ho := hk.one
  refine aA (args := [.agg (aD t u).toArray]) Tryz.func106 rfl Tryz.ntmps106 (by simp) hμ ?_
  repeat' (first | refine KO ?_ | ((with_reducible apply F1 107); exact rfl; exact EN; (exact fun w μc hw hse => sX t u w μc hw (hk.mono hse.le) hs hss)) | refine KI ?_ | refine NB fun b => ?_ | ((refine KB ?_ ?_ <;> intro hp)) | refine KG ?_ | fail)
  all_goals (refine aB rfl rfl ?_; simp_all [aV]; try omega)
theorem nX : kT 45 cW := by
  intro t u w μ hμ hk hs hss
  have ho := hk.one
  refine aA (args := [.agg (aD t u).toArray]) Tryz.func45 rfl Tryz.ntmps45 (by simp) hμ ?_
  repeat' (first | refine KK ?_ | refine NB fun b => ?_ | ((refine KB ?_ ?_ <;> intro hp)) | refine KG ?_ | fail)
  all_goals (refine aB rfl rfl ?_; simp_all [cW]; try omega)
theorem JA : kT 105 nW := by
  intro t u w μ hμ hk hs hss
  have ho := hk.one
  refine aA (args := [.agg (aD t u).toArray]) Tryz.func105 rfl Tryz.ntmps105 (by simp) hμ ?_
  repeat' (first | refine KO ?_ | ((with_reducible apply F1 102); exact rfl; exact EN; (exact fun w μc hw hse => lN 1 (by decide) t u w μc hw (hk.mono hse.le))) | refine KI ?_ | refine NB fun b => ?_ | ((refine KB ?_ ?_ <;> intro hp)) | refine KG ?_ | fail)
  all_goals (refine aB rfl rfl ?_; simp_all [nW]; try (intros; omega))
theorem xL : kT 70 eM := by
  intro t u w μ hμ hk hs hss
  have ho := hk.one
  refine aA (args := [.agg (aD t u).toArray]) Tryz.func70 rfl Tryz.ntmps70 (by simp) hμ ?_
  repeat' (first | refine KO ?_ | ((with_reducible apply F1 102); exact rfl; exact EN; (exact fun w μc hw hse => lN _ (by decide) t u w μc hw (hk.mono hse.le))) | refine KI ?_ | refine NB fun b => ?_ | ((refine KB ?_ ?_ <;> intro hp)) | refine KG ?_ | fail)
  all_goals (refine aB rfl rfl ?_; simp_all [eM]; try (intros; omega))
theorem JC : kT 108 tA := by
  intro t u w μ hμ hk hs hss
  have ho := hk.one
  obtain ⟨A, c, rfl, hlc, hkid⟩ := hk.form
  have hlen := bK t
  refine aA (args := [.agg (aD t (.slice A t.kids.length c)).toArray]) Tryz.func108 rfl Tryz.ntmps108 (by simp) hμ ?_
  by_cases h0 : t.kids.length = 1
  · obtain ⟨k, hkr⟩ := List.length_eq_one_iff.1 h0
    obtain ⟨ad, x, rfl, hm, hox, hkx⟩ := hkid 0 k (by rw [hkr]; rfl)
    obtain ⟨A2, c2, rfl, hlc2, -⟩ := hkx.form
    have hsz := T.dH (t := t) (i := 0) (k := k) (by rw [hkr]; rfl)
    have hlk := bK k
    have hg : tA t = (decide (t.op = 2) && decide (k.kids.length = 1)) := by
      unfold tA
      rw [qO hkr, h0]
      simp
    rw [hg]
    repeat' (first | refine KO ?_ | (refine KV (b := by first | exact U1 0 | exact U4 hm) (c := ?_)) | refine KI ?_ | refine NB fun b => ?_ | ((refine KB ?_ ?_ <;> intro hp)) | refine KG ?_ | fail)
    all_goals (refine aB rfl rfl ?_; simp_all; try omega)
  · have hg : tA t = false := by
      unfold tA
      rw [decide_eq_false h0]
      simp
    rw [hg]
    repeat' (first | refine KK ?_ | refine NB fun b => ?_ | ((refine KB ?_ ?_ <;> intro hp)) | refine KG ?_ | fail)
    all_goals (refine aB rfl rfl ?_; simp_all; try omega)
theorem rZ (s : ByteArray) (hs : s.size ≤ 65536) (w : World) (μ : Mem) (hμ : MOk μ w) :
    Calls Tryz.prog 101 #[.string s] w fun e w' => e = .returned (.bool (eK s)) ∧ Below w.heap.size w w' := by
  refine aA (args := [.string s]) Tryz.func101 rfl Tryz.ntmps101 (by simp) hμ ?_
  repeat' (first | refine KK ?_ | fail)
  refine aX (ι := Nat) (fun i => i ≤ s.size ∧ ∀ (j : Nat) (c : UInt8), j < i → (bl s)[j]? = some c → pH j c) (fun i => s.size - i) (fun _ => μ) (fun i => [(3, .int .i64 i), (0, .string s)]) (fun _ => []) 0 ⟨Nat.zero_le _, fun j _ h => absurd h (by omega)⟩ (fun a w hs => J6 hs) ?_
  rintro i ⟨hi, hok⟩
  by_cases hlt : i < s.size
  · obtain ⟨c, hc1, hc2⟩ := NR (s := s) (i := i) hlt
    have hcl := c.toNat_lt
    have hnext : pH i c → ∀ (j : Nat) (d : UInt8), j < i + 1 → (bl s)[j]? = some d → pH j d := fun h j d hj hd => by
      rcases Nat.lt_or_ge j i with h1 | h1
      · exact hok j d h1 hd
      · obtain rfl : j = i := by omega
        rw [hc1] at hd
        cases hd
        exact h
    have hbad : ¬pH i c → eK s = false := fun h => wN fun hf => h (hf.2 i c hc1)
    by_cases hk : pH i c
    · have hb := hnext hk
      unfold pH EG HY at hk
      repeat' (first | refine KO ?_ | (refine KV (b := by exact U2 i) (c := ?_)) | refine KI ?_ | ((refine KB ?_ ?_ <;> intro hp)) | refine KG ?_ | fail)
      all_goals first
        | exact J4 (i + 1) ⟨by omega, hb⟩ (by omega)
        | (exfalso; omega)
    · rw [hbad hk]
      unfold pH EG HY at hk
      repeat' (first | refine KO ?_ | (refine KV (b := by exact U2 i) (c := ?_)) | ((refine KB ?_ ?_ <;> intro hp)) | refine KG ?_ | fail)
      all_goals first
        | exact aB rfl rfl rfl
        | (exfalso; omega)
  · obtain rfl : i = s.size := by omega
    have hall : ∀ (j : Nat) (c : UInt8), (bl s)[j]? = some c → pH j c := fun j c hc => hok j c (by have := (List.getElem?_eq_some_iff.1 hc).1; rw [sK] at this; exact this) hc
    have hg : eK s = decide (s ≠ ⟨#[]⟩) := by
      by_cases h : s = ⟨#[]⟩
      · rw [wN fun hf => hf.1 (by rw [h]), h]
        simp
      · rw [DM ⟨fun e => h (LN e), hall⟩]
        simp [h]
    rw [hg]
    repeat' (first | refine KK ?_ | fail)
    exact aB rfl rfl rfl
end Go.Proofs.YtocidaibmadekaaGreatDoor
namespace Go.Proofs.YtocidaibmadekaaGreatDoor
open Go.RowKit Go.Vcg
def opsL : List (Int × Int) := [(68, 3), (80, 5), (66, 6), (75, 22), (82, 39), (81, 62), (90, 64)]
noncomputable def hI (c : Int) (t : T) : Bool :=
  if c = 70 then aV t || decide (t.op = 63)
  else if c = 72 then aV t || decide (t.op = 63) || decide (t.op = 40)
  else if c = 107 then decide (t.op = 31) || decide (t.op = 30)
  else if c = 119 then iJ t
  else if c = 103 then bT t 16 && wA t 0
  else if c = 115 then bT t 32 && vW t
  else if c = 109 then bT t 8
  else match opsL.find? (fun x => decide (x.1 = c)) with | some x => decide (t.op = x.2) | none => false
noncomputable def isT (c : Int) (t : T) : Bool :=
  if c = 83 then nW t
  else if c = 69 then eM t
  else if c = 84 then aV t
  else if c = 116 then dS t
  else if c = 99 then cW t
  else if c = 73 then decide (t.op = 2) || decide (t.op = 8) || decide (t.op = 7)
  else if c = 77 then eM t || decide (t.op = 7)
  else if c = 76 then aV t || tA t
  else if c = 89 then decide (t.op = 6) || decide (t.op = 7)
  else if c = 67 then decide (t.op = 20) || decide (t.op = 7)
  else if c = 71 then aV t || decide (t.op = 7)
  else if c = 65 then eM t || decide (t.op = 40) || decide (t.op = 41)
  else if c = 97 then eM t || decide (t.op = 41)
  else hI c t
attribute [local irreducible] nW eM aV dS cW tA iJ bT hI eK G GC GQ GA bX Calls IntKind.wrap Int.decLt Int.decLe
theorem YM (hrest : ∀ (c : Int) (t : T) (u : Value) (w : World) (μ : Mem), MOk μ w → KR μ t.kids u → t.size ≤ 100000 → t.s.size ≤ 65536 → Calls Tryz.prog 109 #[.int .u8 c, .agg (aD t u).toArray] w fun e w' => e = .returned (.bool (hI c t)) ∧ Below w.heap.size w w') (c : Int) (t : T) (u : Value) (w : World) (μ : Mem) (hμ : MOk μ w) (hk : KR μ t.kids u) (hs : t.size ≤ 100000) (hss : t.s.size ≤ 65536) :
    Calls Tryz.prog 72 #[.int .u8 c, .agg (aD t u).toArray] w fun e w' => e = .returned (.bool (isT c t)) ∧ Below w.heap.size w w' := by
  have ho := hk.one
  refine aA (args := [.int .u8 c, .agg (aD t u).toArray]) Tryz.func72 rfl Tryz.ntmps72 (by simp) hμ ?_
  repeat' (first | refine KO ?_ | ((with_reducible apply F1 105); exact rfl; exact EN; (exact fun w μc hw hse => JA t u w μc hw (hk.mono hse.le) hs hss)) | ((with_reducible apply F1 70); exact rfl; exact EN; (exact fun w μc hw hse => xL t u w μc hw (hk.mono hse.le) hs hss)) | ((with_reducible apply F1 106); exact rfl; exact EN; (exact fun w μc hw hse => sW t u w μc hw (hk.mono hse.le) hs hss)) | ((with_reducible apply F1 107); exact rfl; exact EN; (exact fun w μc hw hse => sX t u w μc hw (hk.mono hse.le) hs hss)) | ((with_reducible apply F1 45); exact rfl; exact EN; (exact fun w μc hw hse => nX t u w μc hw (hk.mono hse.le) hs hss)) | ((with_reducible apply F1 108); exact rfl; exact EN; (exact fun w μc hw hse => JC t u w μc hw (hk.mono hse.le) hs hss)) | ((with_reducible apply F1 109); exact rfl; exact EN; (exact fun w μc hw hse => hrest c t u w μc hw (hk.mono hse.le) hs hss)) | refine KI ?_ | refine NB fun b => ?_ | ((refine KB ?_ ?_ <;> intro hp)) | refine KG ?_ | fail)
  all_goals (clear hrest hk ho hμ; refine aB rfl rfl ?_; simp_all [isT])
end Go.Proofs.YtocidaibmadekaaGreatDoor
