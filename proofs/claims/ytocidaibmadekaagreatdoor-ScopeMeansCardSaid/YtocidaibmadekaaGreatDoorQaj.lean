/- Package early: jump, bind and variables, walked. No statement of the seat is proved here. -/
import Derived.Test.YtocidaibmadekaaGreatDoorQai
set_option maxRecDepth 20000
set_option maxHeartbeats 2000000
namespace Go.Proofs.YtocidaibmadekaaGreatDoor
open Go.RowKit Go.Vcg Ou
theorem zG (xb mb : Nat) (t : T) (u : Value) (hu : u.oneCell' = true) (c c' : Bool) (h : c = c') (e : Int) (s : ES) (μ : Mem) :
    CEs 89 [.pointer (some ⟨xb, 0, none⟩), .agg (aD t u).toArray, .int .i64 e, .bool c] xb mb s (dN c' t.at' e s) μ := by
  subst h
  exact jG xb mb t u hu c e s μ
theorem dD {t : T} {i : Nat} (h : i < t.kids.length) : t.kids[i]? = some (aY t i) := by
  unfold aY
  rw [List.getElem?_eq_getElem h]
  rfl
theorem qA (s : ByteArray) (l : List ByteArray) (b : Bool) (hb : l.contains s = b) (v : Value) (w : World) (μ : Mem) (hμ : MOk μ w) (hv : SsV μ v l) (hn : l.length ≤ 100000) :
    Calls Tryz.prog 90 #[v, .string s] w fun e w' => e = .returned (.bool b) ∧ Below w.heap.size w w' := by
  subst hb
  exact yQ s l v w μ hμ hv hn
attribute [local irreducible] wdL anI fV mkD G GC GQ GA bX Calls IntKind.wrap Int.decLt Int.decLe
theorem KX (t : T) (hs : t.s.size ≤ 100000) (u pv : Value) (p : EP) (s : ES) (μ : Mem) (xb mb : Nat) (ou : u.oneCell' = true) (hp : PV μ p pv) (hl : p.labels.length ≤ 100000) (hlo : p.loops.length ≤ 100000) (hm : mF μ) :
    CEs 141 [.pointer (some ⟨xb, 0, none⟩), .agg (aD t u).toArray, pv] xb mb s (AZ wdF t p s) μ := by
  intro w fs hμ hR hO
  have hcnt := bG hO.diff
  have hp0 := hp
  obtain ⟨r, lb, lo, mi, rfl, hpr, hplb, hplo, hpmi⟩ := hp
  have o1 := hpr.one
  have o2 := hplb.one
  have o3 := hplo.one
  have o4 := hpmi.one
  generalize hs' : AZ wdF t p s = s'
  unfold AZ at hs'
  refine aS (args := [.pointer (some ⟨xb, 0, none⟩), .agg (aD t u).toArray, .agg (cY p r lb lo mi).toArray]) Tryz.func141 rfl Tryz.ntmps141 (by simp) hμ hO ?_
  by_cases h0 : t.s = ⟨#[]⟩
  · rw [if_pos h0] at hs'
    repeat' (first | refine KO ?_ | (refine CF 89 ?_; (with_reducible apply dJ 2); (iterate 3 exact rfl); ((with_reducible apply bZ); kernel_rfl; (iterate 4 exact rfl)); exact rfl; (exact hR); (exact jG xb mb t _ ou _ _ _ _); (intro v1 μ1 i1 hle1 hR); (dsimp only [List.cons_append, List.nil_append])) | refine KI ?_ | refine NB fun b => ?_ | ((refine KB ?_ ?_ <;> intro hp)) | refine KG ?_ | fail)
    all_goals try (exfalso; first | fail)
    all_goals exact cN 2 i1 (by exact .inl rfl) hcnt rfl rfl (by rw [← hs']; simp_all) hR
  rw [if_neg h0] at hs'
  cases hA : p.labels.contains t.s
  all_goals cases hC : p.loops.contains t.s
  all_goals rw [hA, hC] at hs'
  all_goals repeat' (first | refine KO ?_ | (refine CF 88 ?_; (with_reducible apply dJ 2); (iterate 3 exact rfl); ((with_reducible apply bZ); kernel_rfl; (iterate 4 exact rfl)); exact rfl; (exact hR); (exact kB xb mb t _ ou _ (by omega) p _ _ _ (hp0) hm); (intro v1 μ1 i1 hle1 hR); (dsimp only [List.cons_append, List.nil_append]); (have hp0 := hp0.mono hle1); (have hplb := hplb.mono hle1); (have hplo := hplo.mono hle1); (have hm := hm.mono hle1)) | refine KI ?_ | refine NB fun b => ?_ | fail)
  all_goals try (exfalso; first | fail)
  all_goals
    refine aC 10 _ (by kernel_rfl) rfl (List.Sublist.cons_cons _ (List.Sublist.cons_cons _ (List.nil_sublist _))) ?_
    all_goals refine DD 0 ?_
    all_goals refine DD 1 ?_
    all_goals refine DD 2 ?_
    all_goals refine DD 3 ?_
    all_goals refine DD 4 ?_
    all_goals refine DD 5 ?_
    all_goals refine DD 6 ?_
    all_goals ((refine D3 7 ?_; refine D5 ?_; (((with_reducible apply C1); exact rfl; exact EN; (exact fun w μc hw hse => qA t.s p.labels _ hA lb w μc hw (hplb.mono hse.le) hl))); refine D9 ?_))
    all_goals refine DD 8 ?_
    all_goals ((refine D3 9 ?_; refine D5 ?_; ((refine CF 89 ?_; (with_reducible apply dJ 2); (iterate 3 exact rfl); ((with_reducible apply bZ); kernel_rfl; (iterate 4 exact rfl)); exact rfl; (exact hR); (exact jG xb mb t _ ou _ _ _ _); (intro v1 μ1 i1 hle1 hR); (dsimp only [List.cons_append, List.nil_append]); (have hplo := hplo.mono hle1))); refine D9 ?_))
    all_goals refine D8 ?_
  all_goals repeat' (first | refine KK ?_ | fail)
  all_goals
    refine aC 15 _ (by kernel_rfl) rfl (List.Sublist.cons_cons _ (List.Sublist.cons_cons _ (List.nil_sublist _))) ?_
    all_goals refine DD 0 ?_
    all_goals refine DD 1 ?_
    all_goals refine DD 2 ?_
    all_goals refine DD 3 ?_
    all_goals refine DD 4 ?_
    all_goals refine DD 5 ?_
    all_goals (try (refine D7 6 ?_; (repeat' (((refine KB ?_ ?_ <;> intro hp))))))
    all_goals refine DD 6 ?_
    all_goals refine DD 7 ?_
    all_goals refine DD 8 ?_
    all_goals refine DD 9 ?_
    all_goals refine DD 10 ?_
    all_goals (first | (refine D3 11 ?_; refine D5 ?_; (((with_reducible apply C1); exact rfl; exact EN; (exact fun w μc hw hse => qA t.s p.loops _ hC lo w μc hw (hplo.mono hse.le) hlo))); refine D9 ?_) | refine D3 11 (D6 ?_))
    all_goals refine DD 12 ?_
    all_goals refine DD 13 ?_
    all_goals ((refine D3 14 ?_; refine D5 ?_; ((refine CF 89 ?_; (with_reducible apply dJ 2); (iterate 3 exact rfl); ((with_reducible apply bZ); kernel_rfl; (iterate 4 exact rfl)); exact rfl; (exact hR); (exact jG xb mb t _ ou _ _ _ _); (intro v1 μ1 i1 hle1 hR); (dsimp only [List.cons_append, List.nil_append]))); refine D9 ?_))
    all_goals refine D8 ?_
  all_goals repeat' (first | fail)
  all_goals exact cN 2 i1 (by exact .inr rfl) hcnt rfl rfl (by rw [← hs']; simp_all) hR
theorem KZ (N : T → EP → ES → ES) (B : T → EP → ED → ES → ES) (t : T) (hq : Kc t) (hs : t.s.size ≤ 100000) (hts : t.size ≤ 90000) (hN : ∀ k ∈ t.kids, NCk N k ∧ NG N k) (hBC : ∀ k ∈ t.kids, BCk B k ∧ BG B k) : BCk (BW wdF N B) t := by
  intro xb mb u pv dv p d s μ hk hp hd hdl hB hS hm
  intro w fs hμ hR hO
  have hcnt := bG hO.diff
  have hp0 := hp
  obtain ⟨r, lb, lo, mi, rfl, hpr, hplb, hplo, hpmi⟩ := hp
  have o1 := hpr.one
  have o2 := hplb.one
  have o3 := hplo.one
  have o4 := hpmi.one
  have ou := hk.one
  have od := hd.one
  have hB0 := hB
  have hr1 := hB.regs
  have hr2 := hB.labels
  have hsz := aP t
  obtain ⟨A, c, rfl, hcap, hget⟩ := hk.form
  generalize hs' : BW wdF N B t p d s = s'
  unfold BW at hs'
  refine aS (args := [.pointer (some ⟨xb, 0, none⟩), .agg (aD t (.slice A t.kids.length c)).toArray, .agg (cY p r lb lo mi).toArray, .agg (jJ (d, dv)).toArray]) Tryz.func84 rfl Tryz.ntmps84 (by simp) hμ hO ?_
  by_cases h34 : t.op = 34
  · rw [if_pos h34] at hs'
    have hgn := kH (F := FF) wdF t t.s p s
    have htot : rR (iR wdF t t.s p s).names ≤ 1000000 := by
      have h9 := hgn.wt
      unfold SB at hS
      omega
    repeat' (first | refine KO ?_ | (refine CF 88 ?_; (with_reducible apply dJ 3); (iterate 3 exact rfl); ((with_reducible apply bZ); kernel_rfl; (iterate 4 exact rfl)); exact rfl; (exact hR); (exact kB xb mb t _ ou _ (by omega) p _ _ _ hp0 hm); (intro v1 μ1 i1 hle1 hR); (dsimp only [List.cons_append, List.nil_append]); (have hd := hd.mono hle1)) | (refine CF 136 ?_; (with_reducible apply dJ 3); (iterate 3 exact rfl); ((with_reducible apply bZ); kernel_rfl; (iterate 4 exact rfl)); exact rfl; (exact hR); (exact oI xb mb t _ ou t.s d _ _ _ hd hdl htot); (intro v1 μ1 i1 hle1 hR); (dsimp only [List.cons_append, List.nil_append])) | refine KI ?_ | refine NB fun b => ?_ | fail)
    all_goals try (exfalso; first | fail)
    all_goals exact cN 3 i1 (by exact .inr rfl) hcnt rfl rfl hs' hR
  rw [if_neg h34] at hs'
  by_cases h51 : t.op = 51 ∨ t.op = 52
  · rw [if_pos h51] at hs'
    rcases h51 with h51 | h51
    all_goals repeat' (first | refine KO ?_ | (refine CF 89 ?_; (with_reducible apply dJ 3); (iterate 3 exact rfl); ((with_reducible apply bZ); kernel_rfl; (iterate 4 exact rfl)); exact rfl; (exact hR); (exact jG xb mb t _ ou _ _ _ _); (intro v1 μ1 i1 hle1 hR); (dsimp only [List.cons_append, List.nil_append])) | refine KI ?_ | refine NB fun b => ?_ | fail)
    all_goals try (exfalso; first | fail)
    all_goals exact cN 3 i1 (by exact .inr rfl) hcnt rfl rfl hs' hR
  rw [if_neg h51] at hs'
  by_cases h63 : t.op = 63
  · rw [if_pos h63] at hs'
    have h2 := hq.two (by simp [h63])
    obtain ⟨r2, hr2⟩ := oR h2
    have hz := hsz
    rw [hr2, aZ, aZ] at hz
    obtain ⟨ad, x0, rfl, hm0, hox0, hk0⟩ := hget 0 _ (dD (by omega))
    obtain ⟨ad', x1, e, hm1, hox1, hk1⟩ := hget 1 _ (dD (by omega))
    cases e
    have hmem0 := bI (t := t) (i := 0) (by omega)
    have hmem1 := bI (t := t) (i := 1) (by omega)
    have hsb := SB.gr (s' := B (aY t 0) p d s) (n := (aY t 0).size) (m := (aY t 1).size) (hS.mono (by omega)) ((hBC _ hmem0).2 p d s)
    repeat' (first | refine KK ?_ | refine NB fun b => ?_ | fail)
    all_goals try (exfalso; first | fail)
    refine aC 8 _ (by kernel_rfl) rfl (List.Sublist.cons_cons _ (List.Sublist.cons_cons _ (List.Sublist.cons_cons _ (List.nil_sublist _)))) ?_
    all_goals refine DD 0 ?_
    all_goals (first | refine D1 1 ?_ | fail)
    all_goals (first | refine DD 2 ?_ | fail)
    all_goals (first | (refine DV (k := 3) (b := by exact U1 0) (c := ?_)) | fail)
    all_goals (first | (refine DV (k := 4) (b := by exact U4 hm0) (c := ?_)) | fail)
    all_goals (first | refine DD 5 ?_ | fail)
    all_goals (first | refine DD 6 ?_ | fail)
    all_goals ((refine D3 7 ?_; refine D5 ?_; refine CF 84 ?_; (with_reducible apply dJ 3); (iterate 3 exact rfl); ((with_reducible apply bZ); kernel_rfl; (iterate 4 exact rfl)); exact rfl; (exact hR); (exact (hBC _ hmem0).1 xb mb _ _ _ p d s _ hk0 hp0 hd hdl (hB0.mono (by omega)) (hS.mono (by omega)) hm); (intro v1 μ1 i1 hle1 hR); (dsimp only [List.cons_append, List.nil_append]); (have hm1 := hm1.mono hle1); (have hk1 := hk1.mono hle1); (have hp0 := hp0.mono hle1); (have hm := hm.mono hle1); refine D9 ?_))
    all_goals refine D8 ?_
    all_goals repeat' (first | refine KK ?_ | fail)
    refine aC 7 _ (by kernel_rfl) rfl (List.Sublist.cons_cons _ (List.Sublist.cons_cons _ (List.Sublist.cons_cons _ (List.nil_sublist _)))) ?_
    all_goals refine DD 0 ?_
    all_goals (first | refine D1 1 ?_ | fail)
    all_goals (first | refine DD 2 ?_ | fail)
    all_goals (first | (refine DV (k := 3) (b := by exact U1 1) (c := ?_)) | fail)
    all_goals (first | (refine DV (k := 4) (b := by exact U4 hm1) (c := ?_)) | fail)
    all_goals (first | refine DD 5 ?_ | fail)
    all_goals ((refine D3 6 ?_; refine D5 ?_; refine CF 62 ?_; (with_reducible apply dJ 3); (iterate 3 exact rfl); ((with_reducible apply aU); kernel_rfl; (iterate 3 exact rfl)); exact rfl; (exact hR); (exact (hN _ hmem1).1 xb mb _ _ p _ _ hk1 hp0 (hB0.mono (by omega)) hsb hm); (intro v1 μ1 i1 hle1 hR); (dsimp only [List.cons_append, List.nil_append]); refine D9 ?_))
    all_goals refine D8 ?_
    all_goals repeat' (first | refine KK ?_ | fail)
    all_goals exact cN 3 i1 (by exact .inr rfl) hcnt rfl rfl hs' hR
  rw [if_neg h63] at hs'
  by_cases h62 : t.op = 62
  · rw [if_pos h62] at hs'
    have h2 := hq.two (by simp [h62])
    obtain ⟨r2, hr2⟩ := oR h2
    have hz := hsz
    rw [hr2, aZ, aZ] at hz
    obtain ⟨ad, x0, rfl, hm0, hox0, hk0⟩ := hget 0 _ (dD (by omega))
    obtain ⟨ad', x1, e, hm1, hox1, hk1⟩ := hget 1 _ (dD (by omega))
    cases e
    have hmem0 := bI (t := t) (i := 0) (by omega)
    have hmem1 := bI (t := t) (i := 1) (by omega)
    have hsb := SB.gr (s' := N (aY t 0) p s) (n := (aY t 0).size) (m := (aY t 1).size) (hS.mono (by omega)) ((hN _ hmem0).2 p s)
    repeat' (first | refine KK ?_ | refine NB fun b => ?_ | fail)
    all_goals try (exfalso; first | fail)
    refine aC 7 _ (by kernel_rfl) rfl (List.Sublist.cons_cons _ (List.Sublist.cons_cons _ (List.Sublist.cons_cons _ (List.nil_sublist _)))) ?_
    all_goals refine DD 0 ?_
    all_goals (first | refine D1 1 ?_ | fail)
    all_goals (first | refine DD 2 ?_ | fail)
    all_goals (first | (refine DV (k := 3) (b := by exact U1 0) (c := ?_)) | fail)
    all_goals (first | (refine DV (k := 4) (b := by exact U4 hm0) (c := ?_)) | fail)
    all_goals (first | refine DD 5 ?_ | fail)
    all_goals ((refine D3 6 ?_; refine D5 ?_; refine CF 62 ?_; (with_reducible apply dJ 3); (iterate 3 exact rfl); ((with_reducible apply aU); kernel_rfl; (iterate 3 exact rfl)); exact rfl; (exact hR); (exact (hN _ hmem0).1 xb mb _ _ p s _ hk0 hp0 (hB0.mono (by omega)) (hS.mono (by omega)) hm); (intro v1 μ1 i1 hle1 hR); (dsimp only [List.cons_append, List.nil_append]); (have hm1 := hm1.mono hle1); (have hk1 := hk1.mono hle1); (have hp0 := hp0.mono hle1); (have hd := hd.mono hle1); (have hm := hm.mono hle1); refine D9 ?_))
    all_goals refine D8 ?_
    all_goals repeat' (first | refine KK ?_ | fail)
    refine aC 8 _ (by kernel_rfl) rfl (List.Sublist.cons_cons _ (List.Sublist.cons_cons _ (List.Sublist.cons_cons _ (List.nil_sublist _)))) ?_
    all_goals refine DD 0 ?_
    all_goals (first | refine D1 1 ?_ | fail)
    all_goals (first | refine DD 2 ?_ | fail)
    all_goals (first | (refine DV (k := 3) (b := by exact U1 1) (c := ?_)) | fail)
    all_goals (first | (refine DV (k := 4) (b := by exact U4 hm1) (c := ?_)) | fail)
    all_goals (first | refine DD 5 ?_ | fail)
    all_goals (first | refine DD 6 ?_ | fail)
    all_goals ((refine D3 7 ?_; refine D5 ?_; refine CF 84 ?_; (with_reducible apply dJ 3); (iterate 3 exact rfl); ((with_reducible apply bZ); kernel_rfl; (iterate 4 exact rfl)); exact rfl; (exact hR); (exact (hBC _ hmem1).1 xb mb _ _ _ p d _ _ hk1 hp0 hd hdl (hB0.mono (by omega)) hsb hm); (intro v1 μ1 i1 hle1 hR); (dsimp only [List.cons_append, List.nil_append]); refine D9 ?_))
    all_goals refine D8 ?_
    all_goals repeat' (first | refine KK ?_ | fail)
    all_goals exact cN 3 i1 (by exact .inr rfl) hcnt rfl rfl hs' hR
  rw [if_neg h62] at hs'
  by_cases h60 : t.op = 60 ∨ t.op = 61 ∨ t.op = 64
  rotate_left
  · rw [if_neg h60] at hs'
    repeat' (first | refine KK ?_ | refine NB fun b => ?_ | fail)
    all_goals try (exfalso; first | fail)
    all_goals exact cN 3 fs (by exact .inr rfl) hcnt rfl rfl hs' hR
  rw [if_pos h60] at hs'
  have hlen : t.kids.length ≤ 100000 := by
    have h9 : ∀ l : List T, l.length ≤ szs l := fun l => by
      induction l with
      | nil => exact Nat.zero_le _
      | cons k r ih =>
        rw [aZ, List.length_cons]
        have := aP k
        omega
    have := h9 t.kids
    omega
  repeat' (first | ((with_reducible show GC _ _ (Code.seq (Code.region 1 _ _) _) _ _ _ _); (apply bF)) | refine KK ?_ | refine NB fun b => ?_ | fail)
  rename_i bn bp
  obtain ⟨bd, hbd⟩ : ∃ y, y = b := ⟨_, rfl⟩
  rw [← hbd]
  clear hbd
  refine gcs ?_
  rcases h60 with h60 | h60 | h60
  all_goals repeat' (first | refine KK ?_ | fail)
  all_goals try (exfalso; omega)
  all_goals
    refine aX (ι := Nat × Mem × List FR) (fun q => q.1 ≤ t.kids.length ∧ MLe μ q.2.1 ∧ ER q.2.1 q.2.2 ((t.kids.take q.1).foldl (fun s k => B k p d s) s)) (fun q => t.kids.length - q.1) (fun q => q.2.1) (fun q => [(73, .int .i64 (q.1 : Int)), (72, .int .i64 (t.kids.length : Int)), (71, .slice A t.kids.length c), (6, .pointer (some ⟨bp, 0, none⟩)), (7, .pointer (some ⟨bd, 0, none⟩)), (0, .pointer (some ⟨xb, 0, none⟩))]) (fun q => .inl ⟨bd, 129, 4, idx 0 (jJ (d, dv))⟩ :: .inl ⟨bp, 93, 12, idx 0 (cY p r lb lo mi)⟩ :: EB xb mb ((t.kids.take q.1).foldl (fun s k => B k p d s) s) q.2.2) (0, μ, fs) ⟨Nat.zero_le _, MLe.refl _, hR⟩ (fun a w hs => hs.sel PU (bW (.cells PU) (bW (.cells PU) (aO _ (bV _))))) ?_
    rintro ⟨i, μ0, fs0⟩ ⟨hi, hle, hR⟩
    dsimp only at hi hle hR ⊢
    by_cases hlt : i < t.kids.length
    · obtain ⟨k, hkk⟩ : ∃ k, t.kids[i]? = some k := ⟨_, List.getElem?_eq_getElem hlt⟩
      obtain ⟨ad, x, rfl, hm0, hox, hkx⟩ := hget i k hkk
      have hmm := hm0.mono hle
      have hmem := List.mem_of_getElem? hkk
      obtain ⟨hn1, -⟩ := hBC k hmem
      have hz := eP hkk
      have hgr := gS (F := FF) (g := fun s k => B k p d s) (c := fun k => 2 * T.size k) (t.kids.take i) s (fun k hk s => (hBC k (List.mem_of_mem_take hk)).2 p d s)
      rw [iX] at hgr
      have hsb := SB.gr (n := szs (t.kids.take i)) (m := k.size) (hS.mono (by omega)) hgr
      have hnext : B k p d ((t.kids.take i).foldl (fun s k => B k p d s) s) = (t.kids.take (i + 1)).foldl (fun s k => B k p d s) s := (lP (fun s k => B k p d s) t.kids s hkk).symm
      repeat' (first | refine KO ?_ | (refine CF 84 ?_; (with_reducible apply dJ 3); (iterate 3 exact rfl); ((with_reducible apply bZ); kernel_rfl; (iterate 4 exact rfl)); exact rfl; (exact hR); (exact hn1 xb mb _ _ _ p d _ _ (hkx.mono hle) (hp0.mono hle) (hd.mono hle) hdl (hB0.mono (by omega)) hsb (hm.mono hle)); (intro v1 μ1 i1 hle1 hR); (dsimp only [List.cons_append, List.nil_append])) | (refine KV (b := by first | exact U1 i | exact U4 hmm) (c := ?_)) | refine KI ?_ | refine NB fun b => ?_ | fail)
      all_goals try (exfalso; first | fail)
      rw [hnext] at hR ⊢
      exact bD (i + 1, μ1, i1) ⟨by dsimp only; omega, hle.trans hle1, hR⟩ (by dsimp only; omega) rfl PU (bH (.refl _) (bH (.refl _) (aO _ (bV _))))
    · have hil : i = t.kids.length := by omega
      subst hil
      rw [List.take_of_length_le (Nat.le_refl _)] at hR ⊢
      repeat' (first | refine KK ?_ | fail)
      all_goals try (exfalso; first | fail)
      all_goals exact cN 2 fs0 (by exact .inr rfl) hcnt rfl rfl hs' hR
end Go.Proofs.YtocidaibmadekaaGreatDoor
namespace Go.Proofs.YtocidaibmadekaaGreatDoor
open Go.RowKit Go.Vcg Ou
theorem dV : ∀ l : List T, l.length ≤ szs l
  | [] => Nat.zero_le _
  | k :: r => by
    have := dV r
    have := aP k
    rw [aZ, List.length_cons]
    omega
theorem AA {k : T} (h : 1 ≤ k.kids.length) : (aY k 0).size + szs (k.kids.drop 1) + 1 = k.size := by
  have h2 := aP k
  have h3 := vL h
  rw [h3, aZ] at h2
  omega
def wC (t k : T) (each : Bool) : Bool := decide (k.kids.length = 1) && !each && (decide (t.n = 2) || decide ((aY k 0).op ≠ 34))
def qE (t : T) : Prop := Kc t ∧ t.s.size ≤ 100000
attribute [local irreducible] wdL anI fV mkD G GC GQ GA bX Calls IntKind.wrap Int.decLt Int.decLe
theorem KP (N : T → EP → ES → ES) (B : T → EP → ED → ES → ES) (t : T) (hq : dF qE t) (h2 : t.op = 2) (hts : t.size ≤ 80000) (hN : ∀ k, dF qE k → k.size < t.size → NCk N k ∧ NG N k) (hBC : ∀ k, dF qE k → k.size < t.size → BCk B k ∧ BG B k)
    (xb mb : Nat) (u pv : Value) (p : EP) (each : Bool) (s : ES) (μ : Mem) (hk : KR μ t.kids u) (hp : PV μ p pv) (hB : PB p t.size) (hS : SB s t.size) (hm : mF μ) :
    CEs 81 [.pointer (some ⟨xb, 0, none⟩), .agg (aD t u).toArray, pv, .bool each] xb mb s (zY N B t p each s) μ := by
  intro w fs hμ hR hO
  have hcnt := bG hO.diff
  have hp0 := hp
  obtain ⟨r, lb, lo, mi, rfl, hpr, hplb, hplo, hpmi⟩ := hp
  have o1 := hpr.one
  have o2 := hplb.one
  have o3 := hplo.one
  have o4 := hpmi.one
  have hpr0 := hpr
  obtain ⟨Ar, cr, rfl, -, -⟩ := hpr0
  have ou := hk.one
  have hne := hB.ne
  have hr1 := hB.regs
  have hsz := aP t
  have hlen := dV t.kids
  have hsub := hq.here.1.sub h2
  obtain ⟨nv, hnv, hnear⟩ := uK μ p _ hp0 hne (by omega)
  have hnv0 := hnv
  obtain ⟨An, cn, rfl, -, -⟩ := hnv0
  obtain ⟨A, c, rfl, hcap, hget⟩ := hk.form
  generalize hs' : zY N B t p each s = s'
  unfold zY at hs'
  dsimp only at hs'
  have hddl : (if t.n ≠ 0 then (⟨true, gW p, 0, false⟩ : ED) else ⟨false, p.regs, 0, false⟩).ins.length ≤ 100000 := by
    split
    · show (gW p).length ≤ 100000
      unfold gW
      rw [List.length_drop]
      omega
    · show p.regs.length ≤ 100000
      omega
  generalize hdd : (if t.n ≠ 0 then (⟨true, gW p, 0, false⟩ : ED) else ⟨false, p.regs, 0, false⟩) = dd at hs' hddl
  refine aS (args := [.pointer (some ⟨xb, 0, none⟩), .agg (aD t (.slice A t.kids.length c)).toArray, .agg (cY p (.slice Ar p.regs.length cr) lb lo mi).toArray, .bool each]) Tryz.func81 rfl Tryz.ntmps81 (by simp) hμ hO ?_
  repeat' (first | ((with_reducible show GC _ _ (Code.seq (Code.seq (Code.region 2 _ _) _) _) _ _ _ _); (apply bF)) | refine KK ?_ | refine NB fun b => ?_ | fail)
  rename_i bn bp
  obtain ⟨bd, hbd⟩ : ∃ y, y = b := ⟨_, rfl⟩
  rw [← hbd]
  clear hbd
  refine gcs (dY (ι := Value) (fun dv => IsV μ dv dd.ins) (fun _ => μ) (fun _ => [(8, .pointer (some ⟨bd, 0, none⟩)), (6, .pointer (some ⟨bp, 0, none⟩)), (5, .pointer (some ⟨bn, 0, none⟩)), (3, .bool each), (0, .pointer (some ⟨xb, 0, none⟩))]) (fun dv => .inl ⟨bd, 129, 4, idx 0 (jJ (dd, dv))⟩ :: .inl ⟨bp, 93, 12, idx 0 (cY p (.slice Ar p.regs.length cr) lb lo mi)⟩ :: .inl ⟨bn, 24, 6, idx 0 (aD t (.slice A t.kids.length c))⟩ :: EB xb mb s fs) ?_ ?_)
  · by_cases hn : t.n = 0
    · rw [if_neg (fun h => h hn)] at hdd
      subst hdd
      repeat' (first | refine KK ?_ | fail)
      all_goals try (exfalso; first | fail)
      all_goals exact cD _ hpr rfl PU (bW (.cells PU) (bW (.cells PU) (bW (.cells PU) (bV _))))
    · rw [if_pos hn] at hdd
      subst hdd
      repeat' (first | refine KO ?_ | ((with_reducible apply F1 85); exact rfl; exact EN; (exact fun w μc hw hse => hnear w μc hw hse.le)) | refine KI ?_ | fail)
      all_goals try (exfalso; first | fail)
      all_goals exact cD _ hnv rfl PU (bW (.cells PU) (bW (.cells PU) (bW (.cells PU) (bV _))))
  intro dv hdv
  have odv := hdv.one
  repeat' (first | refine KK ?_ | fail)
  refine aX (ι := Nat × Mem × List FR) (fun q => q.1 ≤ t.kids.length ∧ MLe μ q.2.1 ∧ ER q.2.1 q.2.2 ((t.kids.take q.1).foldl (fun s k => iD N (k.kids.drop 1) p (B (aY k 0) p dd (dN (wC t k each) k.at' 36 s))) s)) (fun q => t.kids.length - q.1) (fun q => q.2.1) (fun q => [(24, .int .i64 (q.1 : Int)), (23, .int .i64 (t.kids.length : Int)), (22, .slice A t.kids.length c), (8, .pointer (some ⟨bd, 0, none⟩)), (6, .pointer (some ⟨bp, 0, none⟩)), (5, .pointer (some ⟨bn, 0, none⟩)), (3, .bool each), (0, .pointer (some ⟨xb, 0, none⟩))]) (fun q => .inl ⟨bd, 129, 4, idx 0 (jJ (dd, dv))⟩ :: .inl ⟨bp, 93, 12, idx 0 (cY p (.slice Ar p.regs.length cr) lb lo mi)⟩ :: .inl ⟨bn, 24, 6, idx 0 (aD t (.slice A t.kids.length c))⟩ :: EB xb mb ((t.kids.take q.1).foldl (fun s k => iD N (k.kids.drop 1) p (B (aY k 0) p dd (dN (wC t k each) k.at' 36 s))) s) q.2.2) (0, μ, fs) ⟨Nat.zero_le _, MLe.refl _, hR⟩ (fun a w hs => hs.sel PU (bV _)) ?_
  rintro ⟨i, μ0, fs0⟩ ⟨hi, hle, hR⟩
  dsimp only at hi hle hR ⊢
  by_cases hlt : i < t.kids.length
  · obtain ⟨k, hkk⟩ : ∃ k, t.kids[i]? = some k := ⟨_, List.getElem?_eq_getElem hlt⟩
    obtain ⟨ad, x, rfl, hm0, hox, hkx⟩ := hget i k hkk
    have hmm := hm0.mono hle
    have hmem := List.mem_of_getElem? hkk
    have hak := hq.kid hmem
    have hk1 := hsub k hmem
    have hzk := AA hk1
    have hz := eP hkk
    have ha0 := hak.kid (bI (t := k) (i := 0) (by omega))
    obtain ⟨hb1, hb2⟩ := hBC _ ha0 (by omega)
    have hdr : ∀ y ∈ k.kids.drop 1, dF qE y ∧ y.size ≤ szs (k.kids.drop 1) := fun y hy => ⟨hak.kid (List.mem_of_mem_drop hy), T.bN (List.mem_map.2 ⟨y, hy, rfl⟩)⟩
    have hND := fun y hy => hN y (hdr y hy).1 (by have := (hdr y hy).2; omega)
    have hgr : Gr FF (2 * szs (t.kids.take i)) s ((t.kids.take i).foldl (fun s k => iD N (k.kids.drop 1) p (B (aY k 0) p dd (dN (wC t k each) k.at' 36 s))) s) := by
      have h9 := gS (F := FF) (g := (fun s k => iD N (k.kids.drop 1) p (B (aY k 0) p dd (dN (wC t k each) k.at' 36 s)))) (c := fun k => 2 * T.size k) (t.kids.take i) s (fun k hk s => by
        have hmk := List.mem_of_mem_take hk
        have hak := hq.kid hmk
        have hk1 := hsub k hmk
        have hzk := AA hk1
        have hsk : k.size ≤ szs t.kids := T.bN (List.mem_map.2 ⟨k, hmk, rfl⟩)
        have ha0 := hak.kid (bI (t := k) (i := 0) (by omega))
        exact ((eT _ _ _ _).trans ((hBC _ ha0 (by omega)).2 _ _ _) (Nat.le_refl _)).trans (pR _ (fun x hx => (hN x (hak.kid (List.mem_of_mem_drop hx)) (by
          have : x.size ≤ szs (k.kids.drop 1) := T.bN (List.mem_map.2 ⟨x, hx, rfl⟩)
          omega)).2) _ _) (by omega))
      rwa [iX] at h9
    have hsb := SB.gr (n := szs (t.kids.take i)) (m := k.size) (hS.mono (by omega)) hgr
    have hnext : (fun s k => iD N (k.kids.drop 1) p (B (aY k 0) p dd (dN (wC t k each) k.at' 36 s))) ((t.kids.take i).foldl (fun s k => iD N (k.kids.drop 1) p (B (aY k 0) p dd (dN (wC t k each) k.at' 36 s))) s) k = ((t.kids.take (i + 1)).foldl (fun s k => iD N (k.kids.drop 1) p (B (aY k 0) p dd (dN (wC t k each) k.at' 36 s))) s) := (lP (fun s k => iD N (k.kids.drop 1) p (B (aY k 0) p dd (dN (wC t k each) k.at' 36 s))) t.kids s hkk).symm
    generalize hsi : ((t.kids.take i).foldl (fun s k => iD N (k.kids.drop 1) p (B (aY k 0) p dd (dN (wC t k each) k.at' 36 s))) s) = si at hR hsb hnext ⊢
    dsimp only at hnext
    have hsb1 := (hsb.mono (m := (aY k 0).size + szs (k.kids.drop 1)) (by omega)).bad (wC t k each) k.at' 36
    have hsb2 := SB.gr hsb1 (hb2 p dd _)
    obtain ⟨A2, c2, rfl, hcap2, hget2⟩ := hkx.form
    obtain ⟨ad2, x2, rfl, hmk0, hox2, hkx2⟩ := hget2 0 _ (dD (by omega))
    have hmk0 := hmk0.mono hle
    have hkx2 := hkx2.mono hle
    have hdrp := (hkx.mono hle).rL (by omega)
    have hp1 := hp0.mono hle
    have hdv1 := hdv.mono hle
    have hm1 := hm.mono hle
    have hq1 : ((k.kids.length : Int) = 1) = (k.kids.length = 1) := propext (by omega)
    repeat' (first | refine KO ?_ | (refine KV (b := by first | exact U1 i | exact U4 hmm) (c := ?_)) | refine KI ?_ | refine NB fun b => ?_ | fail)
    all_goals try (exfalso; first | fail)
    refine aC 24 _ (by kernel_rfl) rfl (List.Sublist.cons_cons _ (List.Sublist.cons_cons _ (List.Sublist.cons_cons _ (List.Sublist.cons_cons _ (List.nil_sublist _))))) ?_
    all_goals refine DD 0 ?_
    all_goals (first | refine DD 1 ?_ | fail)
    all_goals (first | refine D1 2 ?_ | fail)
    all_goals (first | refine DD 3 ?_ | fail)
    all_goals (first | refine D1 4 ?_ | fail)
    all_goals (first | refine D1 5 ?_ | fail)
    all_goals refine DD 6 ?_
    all_goals (try (refine D7 7 ?_; (repeat' (((refine KB ?_ ?_ <;> intro hp))))))
    all_goals refine DD 7 ?_
    all_goals refine DD 8 ?_
    all_goals refine DD 9 ?_
    all_goals refine DD 10 ?_
    all_goals (try (refine D7 11 ?_; (repeat' (first | refine KO ?_ | (refine KB ?_ ?_ <;> intro hp)))))
    all_goals (first | refine D1 11 ?_ | fail)
    all_goals (first | refine D1 12 ?_ | refine DD 12 ?_ | fail)
    all_goals (first | refine D1 13 ?_ | fail)
    all_goals refine DD 14 ?_
    all_goals (try (refine D7 15 ?_; (repeat' (((refine KB ?_ ?_ <;> intro hp))))))
    all_goals (first | refine D1 15 ?_ | fail)
    all_goals (first | refine D1 16 ?_ | refine DD 16 ?_ | fail)
    all_goals (first | refine D1 17 ?_ | (refine DV (k := 17) (b := by exact U1 0) (c := ?_)) | fail)
    all_goals (first | refine D1 18 ?_ | refine DD 18 ?_ | fail)
    all_goals (first | refine D1 19 ?_ | (refine DV (k := 19) (b := by exact U4 hmk0) (c := ?_)) | fail)
    all_goals (first | refine D1 20 ?_ | fail)
    all_goals refine DD 21 ?_
    all_goals refine DD 22 ?_
    all_goals ((refine D3 23 ?_; refine D5 ?_; refine CF 89 ?_; (with_reducible apply dJ 4); (iterate 3 exact rfl); ((with_reducible apply bZ); kernel_rfl; (iterate 4 exact rfl)); exact rfl; (exact hR); (exact zG xb mb k _ hox _ (wC t k each) (by unfold wC; simp_all) _ _ _); (intro v1 μ1 i1 hle1 hR); (dsimp only [List.cons_append, List.nil_append]); (have hmk0 := hmk0.mono hle1); (have hkx2 := hkx2.mono hle1); (have hdrp := hdrp.mono hle1); (have hp1 := hp1.mono hle1); (have hdv1 := hdv1.mono hle1); (have hm1 := hm1.mono hle1); (have hle := hle.trans hle1); refine D9 ?_))
    all_goals refine D8 ?_
    all_goals repeat' (first | refine KK ?_ | fail)
    all_goals
      refine aC 8 _ (by kernel_rfl) rfl (List.Sublist.cons_cons _ (List.Sublist.cons_cons _ (List.Sublist.cons_cons _ (List.Sublist.cons_cons _ (List.nil_sublist _))))) ?_
      all_goals refine DD 0 ?_
      all_goals (first | refine D1 1 ?_ | fail)
      all_goals (first | refine DD 2 ?_ | fail)
      all_goals (first | (refine DV (k := 3) (b := by exact U1 0) (c := ?_)) | fail)
      all_goals (first | (refine DV (k := 4) (b := by exact U4 hmk0) (c := ?_)) | fail)
      all_goals (first | refine DD 5 ?_ | fail)
      all_goals (first | refine DD 6 ?_ | fail)
      all_goals ((refine D3 7 ?_; refine D5 ?_; refine CF 84 ?_; (with_reducible apply dJ 4); (iterate 3 exact rfl); ((with_reducible apply bZ); kernel_rfl; (iterate 4 exact rfl)); exact rfl; (exact hR); (exact hb1 xb mb _ _ _ p dd _ _ hkx2 hp1 hdv1 hddl (hB.mono (by omega)) (hsb1.mono (by omega)) hm1); (intro v1 μ1 i1 hle1 hR); (dsimp only [List.cons_append, List.nil_append]); (have hdrp := hdrp.mono hle1); (have hp1 := hp1.mono hle1); (have hm1 := hm1.mono hle1); (have hle := hle.trans hle1); refine D9 ?_))
      all_goals refine D8 ?_
    all_goals repeat' (first | refine KK ?_ | fail)
    all_goals
      refine aC 6 _ (by kernel_rfl) rfl (List.Sublist.cons_cons _ (List.Sublist.cons_cons _ (List.Sublist.cons_cons _ (List.Sublist.cons_cons _ (List.nil_sublist _))))) ?_
      all_goals refine DD 0 ?_
      all_goals (first | refine D1 1 ?_ | fail)
      all_goals (first | refine DD 2 ?_ | fail)
      all_goals (first | (refine DV (k := 3) (b := by ((with_reducible apply eE 1); (iterate 4 exact rfl); omega; omega)) (c := ?_)) | fail)
      all_goals (first | refine DD 4 ?_ | fail)
      all_goals ((refine D3 5 ?_; refine D5 ?_; refine CF 39 ?_; (with_reducible apply dJ 4); (iterate 3 exact rfl); ((with_reducible apply aU); kernel_rfl; (iterate 3 exact rfl)); exact rfl; (exact hR); (exact eD N (k.kids.drop 1) _ _ p _ _ xb mb hND hdrp hp1 (fun y hy => hB.mono (by have := (hdr y hy).2; omega)) hsb2 (by have := dV (k.kids.drop 1); omega) hm1); (intro v1 μ1 i1 hle1 hR); (dsimp only [List.cons_append, List.nil_append]); (have hle := hle.trans hle1); refine D9 ?_))
      all_goals refine D8 ?_
    all_goals repeat' (first | refine KK ?_ | fail)
    all_goals rw [hnext] at hR ⊢
    all_goals exact bD (i + 1, μ1, i1) ⟨by dsimp only; omega, hle, hR⟩ (by dsimp only; omega) rfl PU (bH (.refl _) (bH (.refl _) (bH (.refl _) (aO _ (bV _)))))
  · have hil : i = t.kids.length := by omega
    subst hil
    rw [List.take_of_length_le (Nat.le_refl _)] at hR ⊢
    repeat' (first | refine KK ?_ | fail)
    all_goals try (exfalso; first | fail)
    all_goals exact cN 3 fs0 (by exact .inr rfl) hcnt rfl rfl hs' hR
end Go.Proofs.YtocidaibmadekaaGreatDoor
namespace Go.Proofs.YtocidaibmadekaaGreatDoor
open Go.RowKit Go.Vcg Ou
theorem CK (s : T) (r : List T) : nR (s :: r) = if s.op = 8 ∧ s.kids.length = 1 ∧ (aY s 0).op = 31 then (if (aY s 0).s = tV then true else nR r) else false := rfl
theorem IH : tV = ⟨#[117, 115, 101, 32, 115, 116, 114, 105, 99, 116]⟩ := by decide +kernel
theorem IP (t : T) : lB t = (decide (t.op = 5) && !(t.kids.any fun k => decide (k.op ≠ 34))) := by
  unfold lB
  congr 1
  induction t.kids with
  | nil => rfl
  | cons k r ih =>
    rw [List.all_cons, List.any_cons, ih]
    by_cases h : k.op = 34 <;> simp [h]
attribute [local irreducible] wdL anI fV mkD G GC GQ GA bX Calls IntKind.wrap Int.decLt Int.decLe
theorem KY (t : T) (u : Value) (μ : Mem) (hk : KR μ t.kids u) (hl : t.kids.length ≤ 100000) : ∃ v, KR μ (zD t) v ∧ ∀ (w : World) (μ' : Mem), MOk μ' w → MLe μ μ' → Calls Tryz.prog 63 #[.agg (aD t u).toArray] w fun e w' => e = .returned v ∧ Below w.heap.size w w' := by
  obtain ⟨A, c, rfl, hcap, hget⟩ := hk.form
  unfold zD
  by_cases h1 : t.op = 1
  · rw [if_pos h1]
    refine ⟨_, hk, fun w μ' hw hle => ?_⟩
    refine aA (args := [.agg (aD t (.slice A t.kids.length c)).toArray]) Tryz.func63 rfl Tryz.ntmps63 (by simp) hw ?_
    repeat' (first | refine KK ?_ | refine NB fun b => ?_ | fail)
    all_goals exact aB rfl rfl rfl
  rw [if_neg h1]
  by_cases h4 : t.op = 4 ∧ 1 < t.kids.length ∧ (aY t 1).op = 6
  · rw [if_pos h4]
    obtain ⟨h4, h2, h6⟩ := h4
    obtain ⟨ad, x1, rfl, hm1, hox1, hk1⟩ := hget 1 _ (dD (by omega))
    refine ⟨x1, hk1, fun w μ' hw hle => ?_⟩
    have hm1 := hm1.mono hle
    refine aA (args := [.agg (aD t (.slice (some ad) t.kids.length c)).toArray]) Tryz.func63 rfl Tryz.ntmps63 (by simp) hw ?_
    repeat' (first | refine KO ?_ | (refine KV (b := by first | exact U1 1 | exact U4 hm1) (c := ?_)) | refine KI ?_ | refine NB fun b => ?_ | refine KG ?_ | fail)
    all_goals exact aB rfl rfl rfl
  rw [if_neg h4]
  refine ⟨.slice none 0 0, KR.nil _ _ _, fun w μ' hw hle => ?_⟩
  by_cases h40 : t.op = 4
  rotate_left
  · refine aA (args := [.agg (aD t (.slice A t.kids.length c)).toArray]) Tryz.func63 rfl Tryz.ntmps63 (by simp) hw ?_
    repeat' (first | refine KK ?_ | refine NB fun b => ?_ | refine KG ?_ | fail)
    all_goals exact aB rfl rfl rfl
  by_cases h2 : 1 < t.kids.length
  rotate_left
  · refine aA (args := [.agg (aD t (.slice A t.kids.length c)).toArray]) Tryz.func63 rfl Tryz.ntmps63 (by simp) hw ?_
    repeat' (first | refine KK ?_ | refine NB fun b => ?_ | refine KG ?_ | fail)
    all_goals exact aB rfl rfl rfl
  have h6 : ¬(aY t 1).op = 6 := fun h => h4 ⟨h40, h2, h⟩
  obtain ⟨ad, x1, rfl, hm1, hox1, hk1⟩ := hget 1 _ (dD (by omega))
  have hm1 := hm1.mono hle
  refine aA (args := [.agg (aD t (.slice (some ad) t.kids.length c)).toArray]) Tryz.func63 rfl Tryz.ntmps63 (by simp) hw ?_
  repeat' (first | refine KO ?_ | (refine KV (b := by first | exact U1 1 | exact U4 hm1) (c := ?_)) | refine KI ?_ | refine NB fun b => ?_ | refine KG ?_ | fail)
  all_goals exact aB rfl rfl rfl
theorem tP (t : T) (u : Value) (w : World) (μ : Mem) (hw : MOk μ w) (hk : KR μ t.kids u) (hts : t.size ≤ 100000) : Calls Tryz.prog 40 #[.agg (aD t u).toArray] w fun e w' => e = .returned (.bool (kE t)) ∧ Below w.heap.size w w' := by
  have hsz := aP t
  have hln := dV t.kids
  obtain ⟨v, hkv, hbody⟩ := KY t u μ hk (by omega)
  have hbl : (zD t).length ≤ 100000 := by
    unfold zD
    split
    · omega
    split
    · rename_i h
      obtain ⟨-, h2, -⟩ := h
      have h9 := dV (aY t 1).kids
      have h8 := aP (aY t 1)
      have h7 : (aY t 1).size ≤ szs t.kids := T.bN (List.mem_map.2 ⟨_, bI h2, rfl⟩)
      omega
    · exact Nat.zero_le _
  have hst : kE t = nR (zD t) := rfl
  rw [hst]
  have ou := hk.one
  generalize zD t = l at hkv hbody hbl
  obtain ⟨A, c, rfl, hcap, hget⟩ := hkv.form
  generalize hR : nR l = R
  refine aA (args := [.agg (aD t u).toArray]) Tryz.func40 rfl Tryz.ntmps40 (by simp) hw ?_
  repeat' (first | refine KO ?_ | ((with_reducible apply F1 63); exact rfl; exact EN; (exact fun w μc hw hse => hbody w μc hw hse.le)) | refine KI ?_ | refine NB fun b => ?_ | fail)
  refine aX (ι := Nat) (fun i => i ≤ l.length ∧ nR (l.drop i) = R) (fun i => l.length - i) (fun _ => μ) (fun i => [(8, .int .i64 (i : Int)), (7, .int .i64 (l.length : Int)), (6, .slice A l.length c)]) (fun _ => []) 0 ⟨Nat.zero_le _, hR⟩ (fun a w hs => J5 hs) ?_
  rintro i ⟨hi, hJ⟩
  by_cases hlt : i < l.length
  · obtain ⟨k, hkk⟩ : ∃ k, l[i]? = some k := ⟨_, List.getElem?_eq_getElem hlt⟩
    obtain ⟨ad, x, rfl, hm0, hox, hkx⟩ := hget i k hkk
    have hdr : l.drop i = k :: l.drop (i + 1) := by
      rw [List.drop_eq_getElem_cons hlt]
      congr 1
      exact (List.getElem?_eq_some_iff.1 hkk).2
    rw [hdr, CK] at hJ
    obtain ⟨A2, c2, rfl, hcap2, hget2⟩ := hkx.form
    by_cases h8 : k.op = 8
    rotate_left
    · rw [if_neg (fun h => h8 h.1)] at hJ
      subst hJ
      repeat' (first | refine KO ?_ | (refine KV (b := by first | exact U1 i | exact U4 hm0) (c := ?_)) | refine KI ?_ | refine NB fun b => ?_ | refine KG ?_ | fail)
      all_goals exact aB rfl rfl rfl
    by_cases hl1 : k.kids.length = 1
    rotate_left
    · rw [if_neg (fun h => hl1 h.2.1)] at hJ
      subst hJ
      repeat' (first | refine KO ?_ | (refine KV (b := by first | exact U1 i | exact U4 hm0) (c := ?_)) | refine KI ?_ | refine NB fun b => ?_ | refine KG ?_ | fail)
      all_goals exact aB rfl rfl rfl
    obtain ⟨ad2, x2, rfl, hmk0, hox2, hkx2⟩ := hget2 0 _ (dD (by omega))
    by_cases h31 : (aY k 0).op = 31
    rotate_left
    · rw [if_neg (fun h => h31 h.2.2)] at hJ
      subst hJ
      repeat' (first | refine KO ?_ | (refine KV (b := by first | exact U1 i | exact U1 0 | exact U4 hm0 | exact U4 hmk0) (c := ?_)) | refine KI ?_ | refine NB fun b => ?_ | refine KG ?_ | fail)
      all_goals exact aB rfl rfl rfl
    rw [if_pos ⟨h8, hl1, h31⟩, IH] at hJ
    by_cases hu : (aY k 0).s = ⟨#[117, 115, 101, 32, 115, 116, 114, 105, 99, 116]⟩
    · rw [if_pos hu] at hJ
      subst hJ
      repeat' (first | refine KO ?_ | (refine KV (b := by first | exact U1 i | exact U1 0 | exact U4 hm0 | exact U4 hmk0) (c := ?_)) | refine KI ?_ | refine NB fun b => ?_ | refine KG ?_ | fail)
      all_goals exact aB rfl rfl rfl
    · rw [if_neg hu] at hJ
      repeat' (first | refine KO ?_ | (refine KV (b := by first | exact U1 i | exact U1 0 | exact U4 hm0 | exact U4 hmk0) (c := ?_)) | refine KI ?_ | refine NB fun b => ?_ | refine KG ?_ | fail)
      all_goals try (exfalso; first | fail)
      all_goals exact J2 (i + 1) ⟨by omega, hJ⟩ (by omega)
  · rw [List.drop_of_length_le (by omega)] at hJ
    subst hJ
    repeat' (first | refine KK ?_ | fail)
    all_goals exact aB rfl rfl rfl
theorem zU (t : T) (u : Value) (w : World) (μ : Mem) (hw : MOk μ w) (ou : u.oneCell' = true) : Calls Tryz.prog 161 ([Value.agg (aD t u).toArray] ++ []).toArray w fun e w' => e = .returned (.bool (decide (t.op ≠ 34))) ∧ Below w.heap.size w w' := by
  refine aA (args := [.agg (aD t u).toArray]) Tryz.func161 rfl Tryz.ntmps161 (by simp) hw ?_
  repeat' (first | refine KK ?_ | refine NB fun b => ?_ | fail)
  all_goals exact aB rfl rfl rfl
theorem DS (t : T) (u : Value) (w : World) (μ : Mem) (hw : MOk μ w) (hk : KR μ t.kids u) (hts : t.size ≤ 100000) : Calls Tryz.prog 135 #[.agg (aD t u).toArray] w fun e w' => e = .returned (.bool (lB t)) ∧ Below w.heap.size w w' := by
  have hsz := aP t
  have hln := dV t.kids
  have hk0 := hk
  obtain ⟨A, c, rfl, hcap, hget⟩ := hk.form
  rw [IP]
  have hcon := fun (w : World) (μc : Mem) (hw : MOk μc w) (hle : MLe μ μc) => qC 161 [] (fun k => decide (k.op ≠ 34)) t.kids A t.kids.length c w μc hw (by kernel_rfl) (hk0.mono hle) rfl (fun k x w μ' _ hw' hle' hkx => zU k x w μ' hw' hkx.one) (by omega)
  generalize (t.kids.any fun k => decide (k.op ≠ 34)) = q at hcon ⊢
  refine aA (args := [.agg (aD t (.slice A t.kids.length c)).toArray]) Tryz.func135 rfl Tryz.ntmps135 (by simp) hw ?_
  repeat' (first | refine KO ?_ | ((with_reducible apply C1); exact rfl; exact EN; (exact fun w μc hw hse => hcon w μc hw hse.le)) | refine KI ?_ | refine NB fun b => ?_ | ((refine KB ?_ ?_ <;> intro hp)) | refine KG ?_ | fail)
  all_goals refine aB rfl rfl ?_
  all_goals simp_all
end Go.Proofs.YtocidaibmadekaaGreatDoor
namespace Go.Proofs.YtocidaibmadekaaGreatDoor
open Go.RowKit Go.Vcg Ou
def UM (wd : ByteArray → Int) (t : T) (p : EP) (s : ES) : ES := if t.s ≠ ⟨#[]⟩ then iR wd t t.s { p with strict := (inP t p).strict } s else s
def UL (t : T) (p : EP) (own : Bool) (s : ES) : ES := if jK t.n 1 then nO t.at' t.s ⟨!own, if own then p.regs else gW p, 0, false⟩ s else s
def ZI (t : T) (p : EP) : Bool := (inP t p).strict || jK t.n 2 || jK t.n 8 || !lB (aY t 0)
theorem ZJ (wd : ByteArray → Int) (N : T → EP → ES → ES) (B : T → EP → ED → ES → ES) (t : T) (p : EP) (own : Bool) (s : ES) : QJ wd N B t p own s =
  (let s3 := UL t p own (dN (kE t && !lB (aY t 0)) t.at' 35 (UM wd t p s))
  let i := fX (inP t p) s3
  let s5 := (aY t 0).kids.foldl (fun s k => B k { i with head := true } ⟨false, i.regs, ((cG s3).regs : Int), ZI t p⟩ s) (cG s3)
  if (aY t 1).op ≠ 6 then N (aY t 1) i s5 else iD N (aY t 1).kids { i with own := true } s5) := rfl
def inE (ist g : Bool) : EP := ⟨ist, g, true, false, [], [], [], false, false, [], false, false⟩
theorem YV (wd : ByteArray → Int) (t : T) (p : EP) (s : ES) : Gr FF 0 s (UM wd t p s) := by
  unfold UM
  split
  · exact kH _ _ _ _ _
  · exact Gr.refl s
theorem YU (t : T) (p : EP) (own : Bool) (s : ES) : Gr FF 1 s (UL t p own s) := by
  unfold UL
  split
  · exact DC _ _ _ _ (fun h => h)
  · exact Gr.refl s
theorem hG (n k : Int) (b : Bool) (h : jK n k = b) (w : World) (μ : Mem) (hμ : MOk μ w) : Calls Tryz.prog 134 #[.int .i64 n, .int .i64 k] w fun e w' => e = .returned (.bool b) ∧ Below w.heap.size w w' := by
  subst h
  exact HV n k w μ hμ
attribute [local irreducible] wdL anI fV mkD G GC GQ GA bX Calls IntKind.wrap Int.decLt Int.decLe
theorem QU (N : T → EP → ES → ES) (B : T → EP → ED → ES → ES) (t : T) (hq : dF qE t) (h4 : t.op = 4) (hts : t.size ≤ 80000) (hN : ∀ k, dF qE k → k.size < t.size → NCk N k ∧ NG N k) (hBC : ∀ k, dF qE k → k.size < t.size → BCk B k ∧ BG B k)
    (xb mb : Nat) (u pv : Value) (p : EP) (own : Bool) (s : ES) (μ : Mem) (hk : KR μ t.kids u) (hp : PV μ p pv) (hB : PB p t.size) (hS : SB s t.size) (hm : mF μ) :
    CEs 82 [.pointer (some ⟨xb, 0, none⟩), .agg (aD t u).toArray, pv, .bool own] xb mb s (QJ wdF N B t p own s) μ := by
  intro w fs hμ hR hO
  have hcnt := bG hO.diff
  have hp0 := hp
  obtain ⟨r, lb, lo, mi, rfl, hpr, hplb, hplo, hpmi⟩ := hp
  have o1 := hpr.one
  have o2 := hplb.one
  have o3 := hplo.one
  have o4 := hpmi.one
  have hpr0 := hpr
  obtain ⟨Ar, cr, rfl, -, -⟩ := hpr0
  have ou := hk.one
  have hts9 := hq.here.2
  have hne := hB.ne
  have hrl := hB.regs
  have h2 := hq.here.1.two (by simp [h4])
  have hsz := aP t
  obtain ⟨rr, hrr⟩ := oR h2
  rw [hrr, aZ, aZ] at hsz
  have hz0 := aP (aY t 0)
  have hz1 := aP (aY t 1)
  have ha0 := hq.kid (bI (t := t) (i := 0) (by omega))
  have ha1 := hq.kid (bI (t := t) (i := 1) (by omega))
  have hln0 := dV (aY t 0).kids
  have hln1 := dV (aY t 1).kids
  obtain ⟨nv, hnv, hnear⟩ := uK μ p _ hp0 hne (by omega)
  have hnv0 := hnv
  obtain ⟨An, cn, rfl, -, -⟩ := hnv0
  have hnl : (gW p).length ≤ 100000 := by
    unfold gW
    rw [List.length_drop]
    omega
  have hpl : p.regs.length ≤ 100000 := by omega
  have hk00 := hk
  obtain ⟨A, c, rfl, hcap, hget⟩ := hk.form
  obtain ⟨ad, x0, rfl, hm0, hox0, hk0⟩ := hget 0 _ (dD (by omega))
  obtain ⟨ad', x1, e, hm1, hox1, hk1⟩ := hget 1 _ (dD (by omega))
  cases e
  generalize hs' : QJ wdF N B t p own s = s'
  rw [ZJ] at hs'
  dsimp only at hs'
  have g1 := YV wdF t p s
  obtain ⟨S1, hS1⟩ : ∃ S, UM wdF t p s = S := ⟨_, rfl⟩
  rw [hS1] at hs' g1
  have hstr := fun (w : World) (μc : Mem) (hw : MOk μc w) (hle : MLe μ μc) => tP t _ w μc hw (hk00.mono hle) (by omega)
  have hsim := fun (w : World) (μc : Mem) (hw : MOk μc w) (hle : MLe μ μc) => DS (aY t 0) _ w μc hw (hk0.mono hle) (by omega)
  obtain ⟨says, hsays⟩ : ∃ b, kE t = b := ⟨_, rfl⟩
  obtain ⟨ist, hist⟩ : ∃ b, (p.strict || says) = b := ⟨_, rfl⟩
  have hin : inP t p = inE ist (jK t.n 4) := by
    unfold inP inE
    rw [hsays, hist]
  obtain ⟨sm, hsm⟩ : ∃ b, lB (aY t 0) = b := ⟨_, rfl⟩
  rw [hsays] at hs' hstr
  rw [hin] at hs'
  rw [hsm] at hs' hsim
  have g2 := eT (F := FF) (says && !sm) t.at' 35 S1
  obtain ⟨S2, hS2⟩ : ∃ S, dN (says && !sm) t.at' 35 S1 = S := ⟨_, rfl⟩
  rw [hS2] at hs' g2
  have g3 := YU t p own S2
  obtain ⟨S3, hS3⟩ : ∃ S, UL t p own S2 = S := ⟨_, rfl⟩
  rw [hS3] at hs' g3
  have htot2 : rR S2.names ≤ 1000000 := by
    have := (g1.trans g2 (Nat.le_refl _)).wt
    unfold SB at hS
    omega
  have hreg3 : S3.regs ≤ 1000000 := by
    have := ((g1.trans g2 (Nat.le_refl _)).trans g3 (Nat.le_refl _)).wt
    unfold SB at hS
    omega
  have hsb4 : SB (cG S3) (szs (aY t 0).kids + (aY t 1).size) := by
    have := (((g1.trans g2 (Nat.le_refl _)).trans g3 (Nat.le_refl _)).trans (lG S3) (Nat.le_refl _)).wt
    unfold SB at hS ⊢
    omega
  have hT : ZI t p = (ist || jK t.n 2 || jK t.n 8 || !sm) := by
    unfold ZI
    rw [hin, hsm]
    rfl
  refine aS (args := [.pointer (some ⟨xb, 0, none⟩), .agg (aD t (.slice (some ad) t.kids.length c)).toArray, .agg (cY p (.slice Ar p.regs.length cr) lb lo mi).toArray, .bool own]) Tryz.func82 rfl Tryz.ntmps82 (by simp) hμ hO ?_
  repeat' (first | ((with_reducible show GC _ _ (Code.seq (Code.region 2 _ _) _) _ _ _ _); (apply bF)) | refine KO ?_ | ((with_reducible apply F1 40); exact rfl; exact EN; (exact fun w μc hw hse => hstr w μc hw hse.le)) | refine KI ?_ | refine NB fun b => ?_ | fail)
  rename_i bn
  obtain ⟨bp, hbp⟩ : ∃ y, y = b := ⟨_, rfl⟩
  rw [← hbp]
  clear hbp
  refine gcs (dY (ι := Nat) (fun _ => True) (fun _ => μ) (fun bi => [(0, .pointer (some ⟨xb, 0, none⟩)), (3, .bool own), (5, .pointer (some ⟨bn, 0, none⟩)), (6, .pointer (some ⟨bp, 0, none⟩)), (8, .bool says), (9, .pointer (some ⟨bi, 0, none⟩))]) (fun bi => .inl ⟨bi, 93, 12, idx 0 (cY (inE ist (jK t.n 4)) (.slice none 0 0) (.slice none 0 0) (.slice none 0 0) (.slice none 0 0))⟩ :: .inl ⟨bp, 93, 12, idx 0 (cY p (.slice Ar p.regs.length cr) lb lo mi)⟩ :: .inl ⟨bn, 24, 6, idx 0 (aD t (.slice (some ad) t.kids.length c))⟩ :: EB xb mb s fs) ?_ ?_)
  · repeat' (first | refine KO ?_ | ((with_reducible apply F1 134); exact rfl; exact EN; (exact fun w μc hw hse => hG t.n 4 _ rfl w μc hw)) | refine KI ?_ | refine NB fun b => ?_ | ((refine KB ?_ ?_ <;> intro hp)) | refine KG ?_ | fail)
    · obtain rfl : true = ist := by rw [← hist, hp]; rfl
      exact cD b trivial rfl PU (bW (.cells PU) (bW (.cells PU) (bW (.cells PU) (bV _))))
    obtain rfl : says = ist := by rw [← hist, hp]; rfl
    exact cD b trivial rfl PU (bW (.cells PU) (bW (.cells PU) (bW (.cells PU) (bV _))))
  rintro bi -
  refine dY (ι := Mem × List FR) (fun q => MLe μ q.1 ∧ ER q.1 q.2 S1) (fun q => q.1) (fun _ => [(0, .pointer (some ⟨xb, 0, none⟩)), (3, .bool own), (5, .pointer (some ⟨bn, 0, none⟩)), (6, .pointer (some ⟨bp, 0, none⟩)), (8, .bool says), (9, .pointer (some ⟨bi, 0, none⟩))]) (fun q => .inl ⟨bi, 93, 12, idx 0 (cY (inE ist (jK t.n 4)) (.slice none 0 0) (.slice none 0 0) (.slice none 0 0) (.slice none 0 0))⟩ :: .inl ⟨bp, 93, 12, idx 0 (cY p (.slice Ar p.regs.length cr) lb lo mi)⟩ :: .inl ⟨bn, 24, 6, idx 0 (aD t (.slice (some ad) t.kids.length c))⟩ :: EB xb mb S1 q.2) ?_ ?_
  · unfold UM at hS1
    by_cases hnil : t.s = ⟨#[]⟩
    · rw [if_neg (fun h => h hnil)] at hS1
      subst hS1
      repeat' (first | refine KK ?_ | refine NB fun b => ?_ | ((refine KB ?_ ?_ <;> intro hp)) | fail)
      all_goals try (exfalso; contradiction)
      all_goals exact cD (μ, fs) ⟨MLe.refl _, hR⟩ rfl PU (bW (.cells PU) (bW (.cells PU) (bW (.cells PU) (bV _))))
    · rw [if_pos hnil, hin] at hS1
      repeat' (first | refine KO ?_ | (refine CF 88 ?_; (with_reducible apply dJ 4); (iterate 3 exact rfl); ((with_reducible apply bZ); kernel_rfl; (iterate 4 exact rfl)); exact rfl; (exact hR); (exact kB xb mb t _ ou _ (by omega) { p with strict := ist } _ _ _ ⟨_, _, _, _, rfl, hpr, hplb, hplo, hpmi⟩ hm); (intro v1 μ1 i1 hle1 hR); (dsimp only [List.cons_append, List.nil_append])) | refine KI ?_ | refine NB fun b => ?_ | fail)
      all_goals try (exfalso; first | fail)
      have hS1 : iR wdF t t.s { p with strict := ist } s = S1 := hS1
      rw [hS1] at hR ⊢
      exact cD (μ1, i1) ⟨hle1, hR⟩ rfl PU (bH (.cells PU) (bH (.cells PU) (bH (.cells PU) (aO _ (bV _)))))
  rintro ⟨μ2, i2⟩ ⟨hle2, hR⟩
  dsimp only at hle2 hR ⊢
  have hmm0 := hm0.mono hle2
  repeat' (first | ((with_reducible show GC _ _ (Code.seq (Code.region 8 _ _) _) _ _ _ _); (apply bF)) | refine KO ?_ | ((with_reducible apply F1 135); exact rfl; exact EN; (exact fun w μc hw hse => hsim w μc hw (hle2.trans hse.le))) | (refine KV (b := by first | exact U1 0 | exact U4 hmm0) (c := ?_)) | refine KI ?_ | fail)
  refine gcs (dY (ι := Mem × List FR) (fun q => MLe μ q.1 ∧ ER q.1 q.2 S2) (fun q => q.1) (fun _ => [(0, .pointer (some ⟨xb, 0, none⟩)), (3, .bool own), (5, .pointer (some ⟨bn, 0, none⟩)), (6, .pointer (some ⟨bp, 0, none⟩)), (9, .pointer (some ⟨bi, 0, none⟩)), (11, .bool sm)]) (fun q => .inl ⟨bi, 93, 12, idx 0 (cY (inE ist (jK t.n 4)) (.slice none 0 0) (.slice none 0 0) (.slice none 0 0) (.slice none 0 0))⟩ :: .inl ⟨bp, 93, 12, idx 0 (cY p (.slice Ar p.regs.length cr) lb lo mi)⟩ :: .inl ⟨bn, 24, 6, idx 0 (aD t (.slice (some ad) t.kids.length c))⟩ :: EB xb mb S2 q.2) ?_ ?_)
  · repeat' (first | refine KO ?_ | (refine CF 89 ?_; (with_reducible apply dJ 3); (iterate 3 exact rfl); ((with_reducible apply bZ); kernel_rfl; (iterate 4 exact rfl)); exact rfl; (exact hR); (exact zG xb mb t _ ou _ (says && !sm) (by simp_all) _ _ _); (intro v1 μ1 i1 hle1 hR); (dsimp only [List.cons_append, List.nil_append])) | refine KI ?_ | ((refine KB ?_ ?_ <;> intro hp)) | refine KG ?_ | fail)
    all_goals try (exfalso; first | fail)
    all_goals rw [hS2] at hR ⊢
    all_goals exact cD (μ1, i1) ⟨hle2.trans hle1, hR⟩ rfl PU (bW (.cells PU) (bW (.cells PU) (bW (.cells PU) (bV _))))
  clear hle2 hR hmm0
  rintro ⟨μ2, i2⟩ ⟨hle2, hR⟩
  dsimp only at hle2 hR ⊢
  refine dY (ι := Mem × List FR) (fun q => MLe μ q.1 ∧ ER q.1 q.2 S3) (fun q => q.1) (fun _ => [(0, .pointer (some ⟨xb, 0, none⟩)), (5, .pointer (some ⟨bn, 0, none⟩)), (9, .pointer (some ⟨bi, 0, none⟩)), (11, .bool sm)]) (fun q => .inl ⟨bi, 93, 12, idx 0 (cY (inE ist (jK t.n 4)) (.slice none 0 0) (.slice none 0 0) (.slice none 0 0) (.slice none 0 0))⟩ :: .inl ⟨bn, 24, 6, idx 0 (aD t (.slice (some ad) t.kids.length c))⟩ :: EB xb mb S3 q.2) ?_ ?_
  · unfold UL at hS3
    obtain ⟨b1, hb1⟩ : ∃ b, jK t.n 1 = b := ⟨_, rfl⟩
    rw [hb1] at hS3
    have hpr2 := hpr.mono hle2
    have hnv2 := hnv.mono hle2
    cases b1
    · rw [if_neg (by simp)] at hS3
      subst hS3
      repeat' (first | refine KO ?_ | ((with_reducible apply F1 134); exact rfl; exact EN; (exact fun w μc hw hse => hG t.n 1 _ hb1 w μc hw)) | refine KI ?_ | fail)
      all_goals exact cD (μ2, i2) ⟨hle2, hR⟩ rfl PU (bW (.cells PU) (bH (.cells PU) (aO _ (bV _))))
    · rw [if_pos rfl] at hS3
      cases own
      · repeat' (first | refine KO ?_ | ((with_reducible apply F1 134); exact rfl; exact EN; (exact fun w μc hw hse => hG t.n 1 _ hb1 w μc hw)) | ((with_reducible apply F1 85); exact rfl; exact EN; (exact fun w μc hw hse => hnear w μc hw (hle2.trans hse.le))) | (refine CF 136 ?_; (with_reducible apply dJ 4); (iterate 3 exact rfl); ((with_reducible apply bZ); kernel_rfl; (iterate 4 exact rfl)); exact rfl; (exact hR); (exact oI xb mb t _ ou t.s ⟨true, gW p, 0, false⟩ _ _ _ hnv2 (by simp only []; omega) htot2); (intro v1 μ1 i1 hle1 hR); (dsimp only [List.cons_append, List.nil_append])) | refine KI ?_ | refine NB fun b => ?_ | fail)
        all_goals try (exfalso; first | fail)
        have hS3 : nO t.at' t.s ⟨true, gW p, 0, false⟩ S2 = S3 := hS3
        rw [hS3] at hR ⊢
        exact cD (μ1, i1) ⟨hle2.trans hle1, hR⟩ rfl PU (bH (.cells PU) (oN (.cells PU) (aO _ (aO _ (bV _)))))
      · repeat' (first | refine KO ?_ | ((with_reducible apply F1 134); exact rfl; exact EN; (exact fun w μc hw hse => hG t.n 1 _ hb1 w μc hw)) | ((with_reducible apply F1 85); exact rfl; exact EN; (exact fun w μc hw hse => hnear w μc hw (hle2.trans hse.le))) | (refine CF 136 ?_; (with_reducible apply dJ 4); (iterate 3 exact rfl); ((with_reducible apply bZ); kernel_rfl; (iterate 4 exact rfl)); exact rfl; (exact hR); (exact oI xb mb t _ ou t.s ⟨false, p.regs, 0, false⟩ _ _ _ hpr2 (by simp only []; omega) htot2); (intro v1 μ1 i1 hle1 hR); (dsimp only [List.cons_append, List.nil_append])) | refine KI ?_ | refine NB fun b => ?_ | fail)
        all_goals try (exfalso; first | fail)
        have hS3 : nO t.at' t.s ⟨false, p.regs, 0, false⟩ S2 = S3 := hS3
        rw [hS3] at hR ⊢
        exact cD (μ1, i1) ⟨hle2.trans hle1, hR⟩ rfl PU (bH (.cells PU) (oN (.cells PU) (aO _ (aO _ (bV _)))))
  clear hle2 hR
  rintro ⟨μ2, i2⟩ ⟨hle2, hR⟩
  dsimp only at hle2 hR ⊢
  repeat' (first | ((with_reducible show GC _ _ (Code.seq (Code.region 17 _ _) _) _ _ _ _); (apply bF)) | refine KO ?_ | (refine CF 83 ?_; (with_reducible apply HD 2); (iterate 3 exact rfl); ((with_reducible apply fW); kernel_rfl; exact rfl; exact rfl); exact rfl; (exact hR); (exact nD xb mb (inE ist (jK t.n 4)) _ _ _ ⟨_, _, _, _, rfl, IsV.nil _, SsV.nil _, SsV.nil _, SsV.nil _⟩ (Nat.zero_le _) hreg3); (intro v1 μ1 i1 hle1 hR hP1); (dsimp only [List.cons_append, List.nil_append]); (obtain ⟨r2, lb2, lo2, mi2, rfl, hr2, hlb2, hlo2, hmi2⟩ := hP1); (have q1 := hr2.one); (have q2 := hlb2.one); (have q3 := hlo2.one); (have q4 := hmi2.one)) | refine KI ?_ | refine NB fun b => ?_ | fail)
  obtain ⟨bh, hbh⟩ : ∃ y, y = b := ⟨_, rfl⟩
  rw [← hbh]
  clear hbh
  have hr2f := hr2
  obtain ⟨Ai, ci, rfl, -, -⟩ := hr2f
  have hiS : (fX (inE ist (jK t.n 4)) S3).strict = ist := rfl
  have hPB : ∀ n, n ≤ 80000 → PB (fX (inE ist (jK t.n 4)) S3) n := fun n hn => ⟨Nat.succ_pos _, by show 1 + n ≤ 90000; omega, by show 0 + n ≤ 90000; omega, Nat.le_refl _⟩
  have hil : (fX (inE ist (jK t.n 4)) S3).regs.length ≤ 100000 := by show 1 ≤ _; omega
  generalize fX (inE ist (jK t.n 4)) S3 = iP at hs' hr2 hlb2 hlo2 hmi2 hiS hPB hil ⊢
  obtain ⟨tw, htw⟩ : ∃ b, ZI t p = b := ⟨_, rfl⟩
  rw [htw] at hs' hT
  rw [← hiS] at hT
  refine gcs ?_
  refine eO (show _ = _ :: _ :: _ :: Bk.inl ⟨xb, 87, 4, [(0, .map (some mb)), (1, .int .i64 ((cG S3).regs : Int)), (2, .int .i64 (cG S3).at'), (3, .int .i64 (cG S3).e)]⟩ :: .mp ⟨mb, mkD i1 0, i1.length⟩ :: fV i1 from rfl) ?_
  refine dY (ι := Nat × Bool) (fun q => q.2 = tw) (fun _ => μ1) (fun q => [(14, .pointer (some ⟨q.1, 0, none⟩)), (0, .pointer (some ⟨xb, 0, none⟩)), (5, .pointer (some ⟨bn, 0, none⟩)), (9, .pointer (some ⟨bi, 0, none⟩)), (11, .bool sm), (13, .pointer (some ⟨bh, 0, none⟩))]) (fun q => .inl ⟨q.1, 129, 4, idx 0 (jJ (⟨false, iP.regs, ((cG S3).regs : Int), q.2⟩, .slice Ai iP.regs.length ci))⟩ :: .inl ⟨bh, 93, 12, idx 0 (cY { iP with head := true } (.slice Ai iP.regs.length ci) lb2 lo2 mi2)⟩ :: .inl ⟨bi, 93, 12, idx 0 (cY iP (.slice Ai iP.regs.length ci) lb2 lo2 mi2)⟩ :: .inl ⟨bn, 24, 6, idx 0 (aD t (.slice (some ad) t.kids.length c))⟩ :: EB xb mb (cG S3) i1) ?_ ?_
  · clear hs'
    obtain ⟨b2, hb2⟩ : ∃ b, jK t.n 2 = b := ⟨_, rfl⟩
    obtain ⟨b8, hb8⟩ : ∃ b, jK t.n 8 = b := ⟨_, rfl⟩
    rw [hb2, hb8] at hT
    obtain ⟨st, gg, fnn, hdd, rg, lbs, los, lp, chh, mns, ow, ea⟩ := iP
    dsimp only at hT
    cases st
    rotate_left
    · refine aC 27 _ (by kernel_rfl) rfl (List.Sublist.cons _ (List.Sublist.cons_cons _ (List.Sublist.cons_cons _ (List.Sublist.cons_cons _ (List.nil_sublist _))))) ?_
      all_goals refine DD 0 ?_
      all_goals refine DD 1 ?_
      all_goals refine DD 2 ?_
      all_goals refine DD 3 ?_
      all_goals refine DD 4 ?_
      all_goals refine DD 5 ?_
      all_goals refine DD 6 ?_
      all_goals refine DD 7 ?_
      all_goals refine DD 8 ?_
      all_goals refine DD 9 ?_
      all_goals refine DD 10 ?_
      all_goals (try (refine D7 11 ?_; (repeat' (first | fail))))
      all_goals refine DD 11 ?_
      all_goals refine DD 12 ?_
      refine dW 13 25 (by kernel_rfl) ?dr5_13 ?dr5_25
      case' dr5_13 =>
        (refine D6 ?_)
        all_goals refine DD 14 ?_
        all_goals refine DD 15 ?_
        all_goals (try (refine D7 16 ?_; (repeat' (first | fail))))
        all_goals refine DD 16 ?_
        all_goals refine DD 17 ?_
        refine dW 18 25 (by kernel_rfl) ?dr6_18 ?dr6_25
        case' dr6_18 =>
          (refine D6 ?_)
          all_goals refine DD 19 ?_
          all_goals refine DD 20 ?_
          all_goals (try (refine D7 21 ?_; (repeat' (first | fail))))
          all_goals refine DD 21 ?_
          all_goals refine DD 22 ?_
          all_goals refine DD 23 ?_
          all_goals refine DD 24 ?_
          all_goals ((refine D3 25 ?_; refine D5 ?_; refine NB fun b => ?_; refine D9 ?_))
          all_goals ((refine D3 26 ?_; refine D5 ?_; refine Y0 ?_; refine D9 ?_))
          all_goals refine D8 ?_
        case' dr6_25 =>
          ((refine D5 ?_; refine NB fun b => ?_; refine D9 ?_))
          all_goals (refine D3 18 (D6 ?_))
          all_goals refine DD 19 ?_
          all_goals refine DD 20 ?_
          all_goals (try (refine D7 21 ?_; (repeat' (first | fail))))
          all_goals refine DD 21 ?_
          all_goals refine DD 22 ?_
          all_goals refine DD 23 ?_
          all_goals refine DD 24 ?_
          all_goals ((refine D3 26 ?_; refine D5 ?_; refine Y0 ?_; refine D9 ?_))
          all_goals refine D8 ?_
      case' dr5_25 =>
        ((refine D5 ?_; refine NB fun b => ?_; refine D9 ?_))
        all_goals (refine D3 13 (D6 ?_))
        all_goals refine DD 14 ?_
        all_goals refine DD 15 ?_
        all_goals (try (refine D7 16 ?_; (repeat' (first | fail))))
        all_goals refine DD 16 ?_
        all_goals refine DD 17 ?_
        all_goals (refine D3 18 (D6 ?_))
        all_goals refine DD 19 ?_
        all_goals refine DD 20 ?_
        all_goals (try (refine D7 21 ?_; (repeat' (first | fail))))
        all_goals refine DD 21 ?_
        all_goals refine DD 22 ?_
        all_goals refine DD 23 ?_
        all_goals refine DD 24 ?_
        all_goals ((refine D3 26 ?_; refine D5 ?_; refine Y0 ?_; refine D9 ?_))
        all_goals refine D8 ?_
      all_goals repeat' (first | fail)
      all_goals refine cD (b, _) ?_ rfl PU (bW (.cells PU) (bW (.cells PU) (bW (.cells PU) (bW (.cells PU) (bV _)))))
      all_goals dsimp only
      all_goals rw [hT]
      all_goals (clear hS hB hN hBC; cases sm <;> simp_all)
    cases b2
    rotate_left
    · refine aC 27 _ (by kernel_rfl) rfl (List.Sublist.cons _ (List.Sublist.cons_cons _ (List.Sublist.cons_cons _ (List.Sublist.cons_cons _ (List.nil_sublist _))))) ?_
      all_goals refine DD 0 ?_
      all_goals refine DD 1 ?_
      all_goals refine DD 2 ?_
      all_goals refine DD 3 ?_
      all_goals refine DD 4 ?_
      all_goals refine DD 5 ?_
      all_goals refine DD 6 ?_
      all_goals refine DD 7 ?_
      all_goals refine DD 8 ?_
      all_goals refine DD 9 ?_
      all_goals refine DD 10 ?_
      all_goals (try (refine D7 11 ?_; (repeat' (first | fail))))
      all_goals refine DD 11 ?_
      all_goals refine DD 12 ?_
      refine dW 13 25 (by kernel_rfl) ?dr7_13 ?dr7_25
      case' dr7_13 =>
        ((refine D5 ?_; (with_reducible apply F1 134); exact rfl; exact EN; (exact fun w μc hw hse => hG t.n _ _ (by assumption) w μc hw); refine D9 ?_))
        all_goals refine DD 14 ?_
        all_goals refine DD 15 ?_
        all_goals (try (refine D7 16 ?_; (repeat' (first | fail))))
        all_goals refine DD 16 ?_
        all_goals refine DD 17 ?_
        refine dW 18 25 (by kernel_rfl) ?dr8_18 ?dr8_25
        case' dr8_18 =>
          (refine D6 ?_)
          all_goals refine DD 19 ?_
          all_goals refine DD 20 ?_
          all_goals (try (refine D7 21 ?_; (repeat' (first | fail))))
          all_goals refine DD 21 ?_
          all_goals refine DD 22 ?_
          all_goals refine DD 23 ?_
          all_goals refine DD 24 ?_
          all_goals ((refine D3 25 ?_; refine D5 ?_; refine NB fun b => ?_; refine D9 ?_))
          all_goals ((refine D3 26 ?_; refine D5 ?_; refine Y0 ?_; refine D9 ?_))
          all_goals refine D8 ?_
        case' dr8_25 =>
          ((refine D5 ?_; refine NB fun b => ?_; refine D9 ?_))
          all_goals (refine D3 18 (D6 ?_))
          all_goals refine DD 19 ?_
          all_goals refine DD 20 ?_
          all_goals (try (refine D7 21 ?_; (repeat' (first | fail))))
          all_goals refine DD 21 ?_
          all_goals refine DD 22 ?_
          all_goals refine DD 23 ?_
          all_goals refine DD 24 ?_
          all_goals ((refine D3 26 ?_; refine D5 ?_; refine Y0 ?_; refine D9 ?_))
          all_goals refine D8 ?_
      case' dr7_25 =>
        ((refine D5 ?_; refine NB fun b => ?_; refine D9 ?_))
        all_goals ((refine D3 13 ?_; refine D5 ?_; (with_reducible apply F1 134); exact rfl; exact EN; (exact fun w μc hw hse => hG t.n _ _ (by assumption) w μc hw); refine D9 ?_))
        all_goals refine DD 14 ?_
        all_goals refine DD 15 ?_
        all_goals (try (refine D7 16 ?_; (repeat' (first | fail))))
        all_goals refine DD 16 ?_
        all_goals refine DD 17 ?_
        all_goals (refine D3 18 (D6 ?_))
        all_goals refine DD 19 ?_
        all_goals refine DD 20 ?_
        all_goals (try (refine D7 21 ?_; (repeat' (first | fail))))
        all_goals refine DD 21 ?_
        all_goals refine DD 22 ?_
        all_goals refine DD 23 ?_
        all_goals refine DD 24 ?_
        all_goals ((refine D3 26 ?_; refine D5 ?_; refine Y0 ?_; refine D9 ?_))
        all_goals refine D8 ?_
      all_goals repeat' (first | fail)
      all_goals refine cD (b, _) ?_ rfl PU (bW (.cells PU) (bW (.cells PU) (bW (.cells PU) (bW (.cells PU) (bV _)))))
      all_goals dsimp only
      all_goals rw [hT]
      all_goals (clear hS hB hN hBC; cases sm <;> simp_all)
    cases b8
    rotate_left
    · refine aC 27 _ (by kernel_rfl) rfl (List.Sublist.cons _ (List.Sublist.cons_cons _ (List.Sublist.cons_cons _ (List.Sublist.cons_cons _ (List.nil_sublist _))))) ?_
      all_goals refine DD 0 ?_
      all_goals refine DD 1 ?_
      all_goals refine DD 2 ?_
      all_goals refine DD 3 ?_
      all_goals refine DD 4 ?_
      all_goals refine DD 5 ?_
      all_goals refine DD 6 ?_
      all_goals refine DD 7 ?_
      all_goals refine DD 8 ?_
      all_goals refine DD 9 ?_
      all_goals refine DD 10 ?_
      all_goals (try (refine D7 11 ?_; (repeat' (first | fail))))
      all_goals refine DD 11 ?_
      all_goals refine DD 12 ?_
      refine dW 13 25 (by kernel_rfl) ?dr9_13 ?dr9_25
      case' dr9_13 =>
        ((refine D5 ?_; (with_reducible apply F1 134); exact rfl; exact EN; (exact fun w μc hw hse => hG t.n _ _ (by assumption) w μc hw); refine D9 ?_))
        all_goals refine DD 14 ?_
        all_goals refine DD 15 ?_
        all_goals (try (refine D7 16 ?_; (repeat' (first | fail))))
        all_goals refine DD 16 ?_
        all_goals refine DD 17 ?_
        refine dW 18 25 (by kernel_rfl) ?dr10_18 ?dr10_25
        case' dr10_18 =>
          ((refine D5 ?_; (with_reducible apply F1 134); exact rfl; exact EN; (exact fun w μc hw hse => hG t.n _ _ (by assumption) w μc hw); refine D9 ?_))
          all_goals refine DD 19 ?_
          all_goals refine DD 20 ?_
          all_goals (try (refine D7 21 ?_; (repeat' (first | fail))))
          all_goals refine DD 21 ?_
          all_goals refine DD 22 ?_
          all_goals refine DD 23 ?_
          all_goals refine DD 24 ?_
          all_goals ((refine D3 25 ?_; refine D5 ?_; refine NB fun b => ?_; refine D9 ?_))
          all_goals ((refine D3 26 ?_; refine D5 ?_; refine Y0 ?_; refine D9 ?_))
          all_goals refine D8 ?_
        case' dr10_25 =>
          ((refine D5 ?_; refine NB fun b => ?_; refine D9 ?_))
          all_goals ((refine D3 18 ?_; refine D5 ?_; (with_reducible apply F1 134); exact rfl; exact EN; (exact fun w μc hw hse => hG t.n _ _ (by assumption) w μc hw); refine D9 ?_))
          all_goals refine DD 19 ?_
          all_goals refine DD 20 ?_
          all_goals (try (refine D7 21 ?_; (repeat' (first | fail))))
          all_goals refine DD 21 ?_
          all_goals refine DD 22 ?_
          all_goals refine DD 23 ?_
          all_goals refine DD 24 ?_
          all_goals ((refine D3 26 ?_; refine D5 ?_; refine Y0 ?_; refine D9 ?_))
          all_goals refine D8 ?_
      case' dr9_25 =>
        ((refine D5 ?_; refine NB fun b => ?_; refine D9 ?_))
        all_goals ((refine D3 13 ?_; refine D5 ?_; (with_reducible apply F1 134); exact rfl; exact EN; (exact fun w μc hw hse => hG t.n _ _ (by assumption) w μc hw); refine D9 ?_))
        all_goals refine DD 14 ?_
        all_goals refine DD 15 ?_
        all_goals (try (refine D7 16 ?_; (repeat' (first | fail))))
        all_goals refine DD 16 ?_
        all_goals refine DD 17 ?_
        all_goals ((refine D3 18 ?_; refine D5 ?_; (with_reducible apply F1 134); exact rfl; exact EN; (exact fun w μc hw hse => hG t.n _ _ (by assumption) w μc hw); refine D9 ?_))
        all_goals refine DD 19 ?_
        all_goals refine DD 20 ?_
        all_goals (try (refine D7 21 ?_; (repeat' (first | fail))))
        all_goals refine DD 21 ?_
        all_goals refine DD 22 ?_
        all_goals refine DD 23 ?_
        all_goals refine DD 24 ?_
        all_goals ((refine D3 26 ?_; refine D5 ?_; refine Y0 ?_; refine D9 ?_))
        all_goals refine D8 ?_
      all_goals repeat' (first | fail)
      all_goals refine cD (b, _) ?_ rfl PU (bW (.cells PU) (bW (.cells PU) (bW (.cells PU) (bW (.cells PU) (bV _)))))
      all_goals dsimp only
      all_goals rw [hT]
      all_goals (clear hS hB hN hBC; cases sm <;> simp_all)
    · refine aC 27 _ (by kernel_rfl) rfl (List.Sublist.cons _ (List.Sublist.cons_cons _ (List.Sublist.cons_cons _ (List.Sublist.cons_cons _ (List.nil_sublist _))))) ?_
      all_goals refine DD 0 ?_
      all_goals refine DD 1 ?_
      all_goals refine DD 2 ?_
      all_goals refine DD 3 ?_
      all_goals refine DD 4 ?_
      all_goals refine DD 5 ?_
      all_goals refine DD 6 ?_
      all_goals refine DD 7 ?_
      all_goals refine DD 8 ?_
      all_goals refine DD 9 ?_
      all_goals refine DD 10 ?_
      all_goals (try (refine D7 11 ?_; (repeat' (first | fail))))
      all_goals refine DD 11 ?_
      all_goals refine DD 12 ?_
      refine dW 13 25 (by kernel_rfl) ?dr11_13 ?dr11_25
      case' dr11_13 =>
        ((refine D5 ?_; (with_reducible apply F1 134); exact rfl; exact EN; (exact fun w μc hw hse => hG t.n _ _ (by assumption) w μc hw); refine D9 ?_))
        all_goals refine DD 14 ?_
        all_goals refine DD 15 ?_
        all_goals (try (refine D7 16 ?_; (repeat' (first | fail))))
        all_goals refine DD 16 ?_
        all_goals refine DD 17 ?_
        refine dW 18 25 (by kernel_rfl) ?dr12_18 ?dr12_25
        case' dr12_18 =>
          ((refine D5 ?_; (with_reducible apply F1 134); exact rfl; exact EN; (exact fun w μc hw hse => hG t.n _ _ (by assumption) w μc hw); refine D9 ?_))
          all_goals refine DD 19 ?_
          all_goals refine DD 20 ?_
          all_goals (try (refine D7 21 ?_; (repeat' (first | fail))))
          all_goals refine DD 21 ?_
          all_goals refine DD 22 ?_
          all_goals refine DD 23 ?_
          all_goals refine DD 24 ?_
          all_goals ((refine D3 25 ?_; refine D5 ?_; refine NB fun b => ?_; refine D9 ?_))
          all_goals ((refine D3 26 ?_; refine D5 ?_; refine Y0 ?_; refine D9 ?_))
          all_goals refine D8 ?_
        case' dr12_25 =>
          ((refine D5 ?_; refine NB fun b => ?_; refine D9 ?_))
          all_goals ((refine D3 18 ?_; refine D5 ?_; (with_reducible apply F1 134); exact rfl; exact EN; (exact fun w μc hw hse => hG t.n _ _ (by assumption) w μc hw); refine D9 ?_))
          all_goals refine DD 19 ?_
          all_goals refine DD 20 ?_
          all_goals (try (refine D7 21 ?_; (repeat' (first | fail))))
          all_goals refine DD 21 ?_
          all_goals refine DD 22 ?_
          all_goals refine DD 23 ?_
          all_goals refine DD 24 ?_
          all_goals ((refine D3 26 ?_; refine D5 ?_; refine Y0 ?_; refine D9 ?_))
          all_goals refine D8 ?_
      case' dr11_25 =>
        ((refine D5 ?_; refine NB fun b => ?_; refine D9 ?_))
        all_goals ((refine D3 13 ?_; refine D5 ?_; (with_reducible apply F1 134); exact rfl; exact EN; (exact fun w μc hw hse => hG t.n _ _ (by assumption) w μc hw); refine D9 ?_))
        all_goals refine DD 14 ?_
        all_goals refine DD 15 ?_
        all_goals (try (refine D7 16 ?_; (repeat' (first | fail))))
        all_goals refine DD 16 ?_
        all_goals refine DD 17 ?_
        all_goals ((refine D3 18 ?_; refine D5 ?_; (with_reducible apply F1 134); exact rfl; exact EN; (exact fun w μc hw hse => hG t.n _ _ (by assumption) w μc hw); refine D9 ?_))
        all_goals refine DD 19 ?_
        all_goals refine DD 20 ?_
        all_goals (try (refine D7 21 ?_; (repeat' (first | fail))))
        all_goals refine DD 21 ?_
        all_goals refine DD 22 ?_
        all_goals refine DD 23 ?_
        all_goals refine DD 24 ?_
        all_goals ((refine D3 26 ?_; refine D5 ?_; refine Y0 ?_; refine D9 ?_))
        all_goals refine D8 ?_
      all_goals repeat' (first | fail)
      all_goals refine cD (b, _) ?_ rfl PU (bW (.cells PU) (bW (.cells PU) (bW (.cells PU) (bW (.cells PU) (bV _)))))
      all_goals dsimp only
      all_goals rw [hT]
      all_goals (clear hS hB hN hBC; cases sm <;> simp_all)
  rintro ⟨bd, x⟩ hx
  dsimp only at hx ⊢
  subst x
  have hlec := hle2.trans hle1
  have hkk0 := hk0.mono hlec
  have hmm0 := hm0.mono hlec
  obtain ⟨A2, c2, rfl, hcap2, hget2⟩ := hkk0.form
  repeat' (first | refine KO ?_ | (refine KV (b := by first | exact U1 0 | exact U4 hmm0) (c := ?_)) | refine KI ?_ | fail)
  refine aX (ι := Nat × Mem × List FR) (fun q => q.1 ≤ (aY t 0).kids.length ∧ MLe μ1 q.2.1 ∧ ER q.2.1 q.2.2 (((aY t 0).kids.take q.1).foldl (fun s k => B k { iP with head := true } ⟨false, iP.regs, ((cG S3).regs : Int), tw⟩ s) (cG S3))) (fun q => (aY t 0).kids.length - q.1) (fun q => q.2.1) (fun q => [(114, .int .i64 (q.1 : Int)), (113, .int .i64 ((aY t 0).kids.length : Int)), (112, .slice A2 (aY t 0).kids.length c2), (0, .pointer (some ⟨xb, 0, none⟩)), (5, .pointer (some ⟨bn, 0, none⟩)), (9, .pointer (some ⟨bi, 0, none⟩)), (13, .pointer (some ⟨bh, 0, none⟩)), (14, .pointer (some ⟨bd, 0, none⟩))]) (fun q => .inl ⟨bd, 129, 4, idx 0 (jJ (⟨false, iP.regs, ((cG S3).regs : Int), tw⟩, .slice Ai iP.regs.length ci))⟩ :: .inl ⟨bh, 93, 12, idx 0 (cY { iP with head := true } (.slice Ai iP.regs.length ci) lb2 lo2 mi2)⟩ :: .inl ⟨bi, 93, 12, idx 0 (cY iP (.slice Ai iP.regs.length ci) lb2 lo2 mi2)⟩ :: .inl ⟨bn, 24, 6, idx 0 (aD t (.slice (some ad) t.kids.length c))⟩ :: EB xb mb (((aY t 0).kids.take q.1).foldl (fun s k => B k { iP with head := true } ⟨false, iP.regs, ((cG S3).regs : Int), tw⟩ s) (cG S3)) q.2.2) (0, μ1, i1) ⟨Nat.zero_le _, MLe.refl _, hR⟩ (fun a w hs => hs.sel PU (bV _)) ?_
  clear hR
  rintro ⟨i, μ0, fs0⟩ ⟨hi, hle, hR⟩
  dsimp only at hi hle hR ⊢
  have hgrT : ∀ n, Gr FF (2 * szs ((aY t 0).kids.take n)) (cG S3) (((aY t 0).kids.take n).foldl (fun s k => B k { iP with head := true } ⟨false, iP.regs, ((cG S3).regs : Int), tw⟩ s) (cG S3)) := fun n => by
    have h9 := gS (F := FF) (g := (fun s k => B k { iP with head := true } ⟨false, iP.regs, ((cG S3).regs : Int), tw⟩ s)) (c := fun k => 2 * T.size k) ((aY t 0).kids.take n) (cG S3) (fun k hk s => (hBC k (ha0.kid (List.mem_of_mem_take hk)) (by
      have : k.size ≤ szs (aY t 0).kids := T.bN (List.mem_map.2 ⟨k, List.mem_of_mem_take hk, rfl⟩)
      omega)).2 _ _ _)
    rwa [iX] at h9
  by_cases hlt : i < (aY t 0).kids.length
  · obtain ⟨k, hkk⟩ : ∃ k, (aY t 0).kids[i]? = some k := ⟨_, List.getElem?_eq_getElem hlt⟩
    obtain ⟨ad3, x3, rfl, hm3, hox3, hkx3⟩ := hget2 i k hkk
    have hmm3 := hm3.mono hle
    have hmem := List.mem_of_getElem? hkk
    have hz := eP hkk
    obtain ⟨hn1, -⟩ := hBC k (ha0.kid hmem) (by omega)
    have hsb := SB.gr (n := szs ((aY t 0).kids.take i)) (m := k.size) (hsb4.mono (by omega)) (hgrT i)
    have hnext : (fun s k => B k { iP with head := true } ⟨false, iP.regs, ((cG S3).regs : Int), tw⟩ s) (((aY t 0).kids.take i).foldl (fun s k => B k { iP with head := true } ⟨false, iP.regs, ((cG S3).regs : Int), tw⟩ s) (cG S3)) k = (((aY t 0).kids.take (i + 1)).foldl (fun s k => B k { iP with head := true } ⟨false, iP.regs, ((cG S3).regs : Int), tw⟩ s) (cG S3)) := (lP (fun s k => B k { iP with head := true } ⟨false, iP.regs, ((cG S3).regs : Int), tw⟩ s) (aY t 0).kids (cG S3) hkk).symm
    dsimp only at hnext
    repeat' (first | refine KO ?_ | (refine CF 84 ?_; (with_reducible apply dJ 5); (iterate 3 exact rfl); ((with_reducible apply bZ); kernel_rfl; (iterate 4 exact rfl)); exact rfl; (exact hR); (exact hn1 xb mb _ _ _ { iP with head := true } ⟨false, iP.regs, ((cG S3).regs : Int), tw⟩ _ _ (hkx3.mono hle) ⟨_, _, _, _, rfl, hr2.mono hle, hlb2.mono hle, hlo2.mono hle, hmi2.mono hle⟩ (hr2.mono hle) hil ⟨(hPB k.size (by omega)).ne, (hPB k.size (by omega)).regs, (hPB k.size (by omega)).labels, (hPB k.size (by omega)).loops⟩ hsb (hm.mono (hlec.trans hle))); (intro v1 μ1 i1 hle1 hR); (dsimp only [List.cons_append, List.nil_append])) | (refine KV (b := by first | exact U1 i | exact U4 hmm3) (c := ?_)) | refine KI ?_ | refine NB fun b => ?_ | fail)
    all_goals try (exfalso; first | fail)
    rw [hnext] at hR ⊢
    exact bD (i + 1, μ1, i1) ⟨by dsimp only; omega, hle.trans hle1, hR⟩ (by dsimp only; omega) rfl PU (bH (.refl _) (bH (.refl _) (bH (.refl _) (bH (.refl _) (aO _ (bV _))))))
  · have hil2 : i = (aY t 0).kids.length := by omega
    have hgrA := hgrT (aY t 0).kids.length
    subst hil2
    rw [List.take_of_length_le (Nat.le_refl _)] at hR hgrA ⊢
    generalize (aY t 0).kids.foldl (fun s k => B k { iP with head := true } ⟨false, iP.regs, ((cG S3).regs : Int), tw⟩ s) (cG S3) = S5 at hR hs' hgrA ⊢
    have hsb5 := SB.gr (n := szs (aY t 0).kids) (m := (aY t 1).size) hsb4 hgrA
    have hlea := hlec.trans hle
    have hmm1 := hm1.mono hlea
    have hkk1 := hk1.mono hlea
    have hmq := hm.mono hlea
    by_cases h6 : (aY t 1).op = 6
    · rw [if_neg (fun h => h h6)] at hs'
      have hND : ∀ y ∈ (aY t 1).kids, NCk N y ∧ NG N y := fun y hy => hN y (ha1.kid hy) (by
        have : y.size ≤ szs (aY t 1).kids := T.bN (List.mem_map.2 ⟨y, hy, rfl⟩)
        omega)
      have hyz : ∀ y ∈ (aY t 1).kids, y.size ≤ 80000 := fun y hy => by
        have : y.size ≤ szs (aY t 1).kids := T.bN (List.mem_map.2 ⟨y, hy, rfl⟩)
        omega
      repeat' (first | refine KO ?_ | (refine KV (b := by first | exact U1 1 | exact U4 hmm1) (c := ?_)) | refine KI ?_ | fail)
      all_goals try (exfalso; first | fail)
      refine aC 8 _ (by kernel_rfl) rfl (List.Sublist.cons _ (List.Sublist.cons _ (List.Sublist.cons_cons _ (List.Sublist.cons_cons _ (List.nil_sublist _))))) ?_
      all_goals refine DD 0 ?_
      all_goals (first | refine D1 1 ?_ | fail)
      all_goals (first | refine DD 2 ?_ | fail)
      all_goals (first | (refine DV (k := 3) (b := by exact U1 1) (c := ?_)) | fail)
      all_goals (first | refine DD 4 ?_ | fail)
      all_goals (first | (refine DV (k := 5) (b := by exact U4 hmm1) (c := ?_)) | fail)
      all_goals (first | refine DD 6 ?_ | fail)
      all_goals ((refine D3 7 ?_; refine D5 ?_; refine CF 39 ?_; (with_reducible apply dJ 4); (iterate 3 exact rfl); ((with_reducible apply aU); kernel_rfl; (iterate 3 exact rfl)); exact rfl; (exact hR); (exact eD N (aY t 1).kids _ _ { iP with own := true } _ _ xb mb hND hkk1 ⟨_, _, _, _, rfl, hr2.mono hle, hlb2.mono hle, hlo2.mono hle, hmi2.mono hle⟩ (fun y hy => ⟨(hPB y.size (hyz y hy)).ne, (hPB y.size (hyz y hy)).regs, (hPB y.size (hyz y hy)).labels, (hPB y.size (hyz y hy)).loops⟩) (hsb5.mono (by omega)) (by omega) hmq); (intro v1 μ1 i1 hle1 hR); (dsimp only [List.cons_append, List.nil_append]); refine D9 ?_))
      all_goals refine D8 ?_
      all_goals repeat' (first | fail)
      all_goals exact cN 4 i1 (by exact .inr rfl) hcnt rfl rfl hs' hR
    · rw [if_pos h6] at hs'
      obtain ⟨hn1, -⟩ := hN _ ha1 (by omega)
      repeat' (first | refine KO ?_ | (refine KV (b := by first | exact U1 1 | exact U4 hmm1) (c := ?_)) | refine KI ?_ | fail)
      all_goals try (exfalso; first | fail)
      refine aC 7 _ (by kernel_rfl) rfl (List.Sublist.cons _ (List.Sublist.cons _ (List.Sublist.cons_cons _ (List.Sublist.cons_cons _ (List.nil_sublist _))))) ?_
      all_goals refine DD 0 ?_
      all_goals (first | refine D1 1 ?_ | fail)
      all_goals (first | refine DD 2 ?_ | fail)
      all_goals (first | (refine DV (k := 3) (b := by exact U1 1) (c := ?_)) | fail)
      all_goals (first | (refine DV (k := 4) (b := by exact U4 hmm1) (c := ?_)) | fail)
      all_goals (first | refine DD 5 ?_ | fail)
      all_goals ((refine D3 6 ?_; refine D5 ?_; refine CF 62 ?_; (with_reducible apply dJ 4); (iterate 3 exact rfl); ((with_reducible apply aU); kernel_rfl; (iterate 3 exact rfl)); exact rfl; (exact hR); (exact hn1 xb mb _ _ iP _ _ hkk1 ⟨_, _, _, _, rfl, hr2.mono hle, hlb2.mono hle, hlo2.mono hle, hmi2.mono hle⟩ (hPB _ (by omega)) hsb5 hmq); (intro v1 μ1 i1 hle1 hR); (dsimp only [List.cons_append, List.nil_append]); refine D9 ?_))
      all_goals refine D8 ?_
      all_goals repeat' (first | refine KK ?_ | fail)
      all_goals exact cN 4 i1 (by exact .inl rfl) hcnt rfl rfl hs' hR
end Go.Proofs.YtocidaibmadekaaGreatDoor
