/- Package scope: choose, walked. No statement of the seat is proved here. -/
import Derived.Test.YtocidaibmadekaaGreatDoorQap
set_option maxRecDepth 20000
set_option maxHeartbeats 2000000
namespace Go.Proofs.YtocidaibmadekaaGreatDoor
open Go.RowKit Go.Vcg Go.MapKept
def kJ (N : T → Wh → FS → FS) (ws : Int) (w1 : Wh) (s : FS) (k : T × Nat) : FS := N k.1 w1 (if w1.scope ≠ ws then { s with cases := eY w1.scope (k.2 : Int) s.cases } else s)
def mS (t : T) : List Bd := (t.kids.drop 1).foldl (fun l k => bA k.kids true l) []
theorem LI (N : T → Wh → FS → FS) (t : T) (w : Wh) (s : FS) : lJ N t w s = ((t.kids.drop 1).zipIdx).foldl (kJ N w.scope (gV w (mS t) s)) (N (bU t 0) w (eU 2 t.at' w (mS t) s)) := rfl
attribute [local irreducible] iB eY sI iC findF jQ fJ lX kW eU gV kJ
attribute [local irreducible] fM cM cH bA bY cK anI fU eG G GC GQ GA bX Calls IntKind.wrap Int.decLt Int.decLe
theorem CP (N : T → Wh → FS → FS) (t : T) (hq : dF qS t) (hop : t.op = 21) (hts : t.size ≤ 2000) (hN : ∀ k, dF qS k → k.size < t.size → NK N k ∧ NGs N k) (u : Value) (w0 : Wh) (s : FS) (μ : Mem) (xb cb hb db : Nat) (hk : KR μ t.kids u) (hB : BS s t.size) :
    zX 97 [.pointer (some ⟨xb, 0, none⟩), .agg (aD t u).toArray, WV w0] xb cb hb db s (lJ N t w0 s) μ (fun _ => True) := by
  intro w q hμ hR hO
  have hcnt := bG hO.diff
  have hsz := aP t
  have hk1 : 1 ≤ t.kids.length := hq.here.1.kc.one (by omega)
  have hz1 := wE hk1
  obtain ⟨hb1, hb2⟩ := hB
  obtain ⟨A, c, rfl, hcap, hget⟩ := hk.form
  obtain ⟨d0, hd0⟩ : ∃ d, t.kids[0]? = some d := ⟨_, List.getElem?_eq_getElem (by omega)⟩
  obtain ⟨ad, x0, e0, hm0, ho0, hx0⟩ := hget 0 d0 hd0
  cases e0
  have hq0 := hq.kid (List.mem_of_getElem? hd0)
  have hlek : ∀ k ∈ t.kids, k.size < t.size := fun k hk => by
    have : k.size ≤ szs t.kids := T.bN (List.mem_map.2 ⟨k, hk, rfl⟩)
    omega
  rw [eR hd0] at hz1
  have hN0 := hN d0 hq0 (by omega)
  have hdr := hk.rL hk1
  have hdl : (t.kids.drop 1).length = t.kids.length - 1 := List.length_drop
  have hll := dV (t.kids.drop 1)
  obtain ⟨A2, c2, e2, hcap2, hget2⟩ := hdr.form
  obtain ⟨ws, wf, wd⟩ := w0
  generalize hs' : lJ N t ⟨ws, wf, wd⟩ s = s'
  rw [LI, eR hd0] at hs'
  dsimp only at hs'
  have hll2 : (mS t).length ≤ szs (t.kids.drop 1) := by
    have h2 := gM (fun l (k : T) => bA k.kids true l) T.size (t.kids.drop 1) [] fun k _ a => by
      have h3 := eF k.kids true a
      have h4 := aP k
      omega
    have h5 : ((t.kids.drop 1).map T.size).sum = szs (t.kids.drop 1) := rfl
    rw [h5, List.length_nil, Nat.zero_add] at h2
    exact h2
  refine aS (args := [.pointer (some ⟨xb, 0, none⟩), .agg (aD t (.slice (some ad) t.kids.length c)).toArray, WV ⟨ws, wf, wd⟩]) Tryz.func97 rfl Tryz.ntmps97 (by simp) hμ hO ?_
  refine qT 40 4 ?_
  repeat' (first | refine KO ?_ | (refine KV (b := by ((with_reducible apply eE 1); (iterate 4 exact rfl); omega; omega)) (c := ?_)) | refine KI ?_ | refine NB fun b => ?_ | fail)
  all_goals try (exfalso; first | fail)
  rename_i bn
  obtain ⟨bw, hbw⟩ : ∃ y, y = b := ⟨_, rfl⟩
  rw [← hbw]
  clear hbw
  rw [e2]
  refine aX (ι := Nat × Value × Mem) (fun j => j.1 ≤ (t.kids.drop 1).length ∧ MLe μ j.2.2) (fun j => (t.kids.drop 1).length - j.1) (fun j => j.2.2) (fun j => [(17, .int .i64 (j.1 : Int)), (16, .int .i64 ((t.kids.length - 1 : Nat) : Int)), (15, .slice A2 (t.kids.drop 1).length c2), (6, j.2.1), (5, .pointer (some ⟨bw, 0, none⟩)), (4, .pointer (some ⟨bn, 0, none⟩)), (0, .pointer (some ⟨xb, 0, none⟩))]) (fun j => .inl ⟨bw, 95, 3, idx 0 (qZ ⟨ws, wf, wd⟩)⟩ :: .inl ⟨bn, 24, 6, idx 0 (aD t (.slice (some ad) t.kids.length c))⟩ :: kK j.2.1 (((t.kids.drop 1).take j.1).foldl (fun l k => bA k.kids true l) []) :: FB xb cb hb db s q) (0, .slice none 0 0, μ) ⟨Nat.zero_le _, MLe.refl _⟩ (fun a w hs => hs.sel PU (cR _)) ?_
  rintro ⟨i, v, μi⟩ ⟨hi, hle⟩
  dsimp only at hi hle ⊢
  by_cases hlt : i < (t.kids.drop 1).length
  · obtain ⟨d, hdi⟩ : ∃ d, (t.kids.drop 1)[i]? = some d := ⟨_, List.getElem?_eq_getElem hlt⟩
    obtain ⟨ad5, x, e5, hm5, hox, hkx⟩ := hget2 i d hdi
    subst e5
    have hmm := hm5.mono hle
    have hmem := List.mem_of_mem_drop (List.mem_of_getElem? hdi)
    have hsp := eP hdi
    have hds := aP d
    have hacc : (((t.kids.drop 1).take i).foldl (fun l k => bA k.kids true l) []).length ≤ szs ((t.kids.drop 1).take i) := by
      have h2 := gM (fun l (k : T) => bA k.kids true l) T.size ((t.kids.drop 1).take i) [] fun k _ a => by
        have h3 := eF k.kids true a
        have h4 := aP k
        omega
      rw [List.length_nil, Nat.zero_add] at h2
      exact h2
    have hnext := gL (fun l (k : T) => bA k.kids true l) (l := []) hdi
    generalize ((t.kids.drop 1).take i).foldl (fun l k => bA k.kids true l) [] = acc at hacc hnext ⊢
    repeat' (first | refine KO ?_ | (refine CF 42 ?_; (with_reducible apply oW 3); (iterate 3 exact rfl); ((with_reducible apply aU); kernel_rfl; (iterate 3 exact rfl)); exact rfl; (exact nS d.kids true x _ acc _ (hkx.mono hle) (fun k hk => ((hq.kid hmem).kid hk).here.1) (by omega) (by omega)); (intro v4 μ4 hle4); (dsimp only [dG])) | (refine KV (b := by first | exact U1 i | exact U4 hmm) (c := ?_)) | refine KI ?_ | refine NB fun b => ?_ | fail)
    all_goals try (exfalso; first | fail)
    all_goals exact bD (i + 1, v4, μ4) ⟨by dsimp only; omega, hle.trans hle4⟩ (by dsimp only; omega) rfl PU (by dsimp only; rw [hnext]; exact (by repeat exact aO _ (cR _)))
  have hil : i = (t.kids.drop 1).length := by omega
  subst hil
  rw [List.take_of_length_le (Nat.le_refl _)]
  have hcl : (t.kids.drop 1).foldl (fun l k => bA k.kids true l) [] = mS t := rfl
  rw [hcl]
  have hsm := fun (lv : Value) (μ : Mem) (h : s.scopes.length ≤ 8000) => qI 2 t.at' ⟨ws, wf, wd⟩ (mS t) lv s μ xb cb hb db h
  have gg := mN (kind := 2) (at' := t.at') (w := ⟨ws, wf, wd⟩) (l := mS t) s (by omega)
  have hsc0 : s.scopes.length ≤ 8000 := by unfold wtS at hb1; omega
  have hB1 : BS (eU 2 t.at' ⟨ws, wf, wd⟩ (mS t) s) (d0.size + szs (t.kids.drop 1)) := ⟨by have := gg.wt; omega, gg.nm hb2⟩
  generalize mS t = bl at hsm hs' hB1 ⊢
  generalize eU 2 t.at' ⟨ws, wf, wd⟩ bl s = s1 at hsm hs' hB1
  generalize gV ⟨ws, wf, wd⟩ bl s = w1 at hsm hs'
  have hm0 := hm0.mono hle
  have hB2 := BS.gr hB1 (hN0.2 ⟨ws, wf, wd⟩ s1)
  repeat' (first | refine KK ?_ | fail)
  all_goals try (exfalso; first | fail)
  refine aC 6 _ (by kernel_rfl) rfl (List.Sublist.cons_cons _ (List.nil_sublist _)) ?_
  all_goals refine DD 0 ?_
  all_goals refine DD 1 ?_
  all_goals refine DD 2 ?_
  all_goals ((refine D3 3 ?_; refine D5 ?_; refine NB fun b => ?_; refine D9 ?_))
  all_goals refine DD 4 ?_
  all_goals ((refine D3 5 ?_; refine D5 ?_; refine Y0 ?_; refine D9 ?_))
  all_goals refine D8 ?_
  repeat' (first | refine KO ?_ | (refine CF 96 ?_; (with_reducible apply oT (bl := bl) 3); (iterate 3 exact rfl); ((with_reducible apply iH); kernel_rfl; (iterate 5 exact rfl)); exact rfl; (exact hR); (exact hsm _ _ hsc0); (rintro v1 μ1 i1 hle1 hR rfl); (dsimp only [List.cons_append, List.nil_append])) | refine KI ?_ | fail)
  have hm0 := hm0.mono hle1
  refine aC 7 _ (by kernel_rfl) rfl (List.Sublist.cons_cons _ (List.Sublist.cons_cons _ (List.Sublist.cons_cons _ (List.nil_sublist _)))) ?_
  all_goals refine DD 0 ?_
  all_goals (first | refine D1 1 ?_ | fail)
  all_goals (first | refine DD 2 ?_ | fail)
  all_goals (first | (refine DV (k := 3) (b := by exact U1 0) (c := ?_)) | fail)
  all_goals (first | (refine DV (k := 4) (b := by exact U4 hm0) (c := ?_)) | fail)
  all_goals (first | refine DD 5 ?_ | fail)
  all_goals ((refine D3 6 ?_; refine D5 ?_; refine CF 67 ?_; (with_reducible apply kQ 3); (iterate 3 exact rfl); ((with_reducible apply aU); kernel_rfl; (iterate 3 exact rfl)); exact rfl; (exact hR); (exact hN0.1 xb cb hb db _ ⟨ws, wf, wd⟩ s1 _ (hx0.mono (hle.trans hle1)) (hB1.mono (by omega))); (rintro v6 μ6 i6 hle6 hR -); (dsimp only [List.cons_append, List.nil_append]); refine D9 ?_))
  all_goals refine D8 ?_
  generalize N d0 ⟨ws, wf, wd⟩ s1 = s2 at hR hs' hB2
  have hleA := (hle.trans hle1).trans hle6
  have hgG : ∀ i, GrS (3 * szs ((t.kids.drop 1).take i)) s2 ((((t.kids.drop 1).take i).zipIdx).foldl (kJ N ws w1) s2) := fun i => TY _ _ fun k hk i s => by
    have hm := List.mem_of_mem_drop (List.mem_of_mem_take hk)
    have hkn := (hN k (hq.kid hm) (hlek k hm)).2
    unfold kJ
    have ga : GrS 0 s (if w1.scope ≠ ws then { s with cases := eY w1.scope (i : Int) s.cases } else s) := by
      split
      · exact (GrS.refl s).other rfl rfl rfl
      · exact GrS.refl s
    exact (ga.trans (hkn _ _)).mono (by omega)
  repeat' (first | refine KO ?_ | (refine KV (b := by ((with_reducible apply eE 1); (iterate 4 exact rfl); omega; omega)) (c := ?_)) | refine KI ?_ | fail)
  rw [e2]
  refine aX (ι := Nat × Mem × FW) (fun j => j.1 ≤ (t.kids.drop 1).length ∧ MLe μ j.2.1 ∧ FR' j.2.2 ((((t.kids.drop 1).take j.1).zipIdx).foldl (kJ N ws w1) s2)) (fun j => (t.kids.drop 1).length - j.1) (fun j => j.2.1) (fun j => [(46, .int .i64 (j.1 : Int)), (45, .int .i64 ((t.kids.length - 1 : Nat) : Int)), (44, .slice A2 (t.kids.drop 1).length c2), (9, .int .i64 ws), (5, .pointer (some ⟨bw, 0, none⟩)), (0, .pointer (some ⟨xb, 0, none⟩))]) (fun j => .inl ⟨bw, 95, 3, idx 0 (qZ w1)⟩ :: FB xb cb hb db ((((t.kids.drop 1).take j.1).zipIdx).foldl (kJ N ws w1) s2) j.2.2) (0, _, i6) ⟨Nat.zero_le _, hleA, hR⟩ (fun a w hs => hs.sel PU (by repeat first | exact aO _ (aO _ (cR _)) | (refine bH ?_ ?_; focus ((refine eL.cells ?_; repeat first | exact cI | refine bR rfl ?_))))) ?_
  rintro ⟨i, μ0, q0⟩ ⟨hi, hle, hR⟩
  dsimp only at hi hle hR ⊢
  by_cases hlt : i < (t.kids.drop 1).length
  · obtain ⟨k, hkk⟩ : ∃ k, (t.kids.drop 1)[i]? = some k := ⟨_, List.getElem?_eq_getElem hlt⟩
    obtain ⟨ad5, x, e5, hm5, hox, hkx⟩ := hget2 i k hkk
    subst e5
    have hmm := hm5.mono hle
    have hmem := List.mem_of_mem_drop (List.mem_of_getElem? hkk)
    obtain ⟨hn1, -⟩ := hN k (hq.kid hmem) (hlek k hmem)
    have hsp := eP hkk
    have hsb := BS.gr (hB2.mono (m := szs ((t.kids.drop 1).take i) + k.size) (by omega)) (hgG i)
    have hnext := EH (kJ N ws w1) s2 hkk
    generalize (((t.kids.drop 1).take i).zipIdx).foldl (kJ N ws w1) s2 = st at hR hsb hnext ⊢
    have hge : kJ N ws w1 st (k, i) = N k w1 (if w1.scope ≠ ws then { st with cases := eY w1.scope (i : Int) st.cases } else st) := by unfold kJ; rfl
    rw [hge] at hnext
    by_cases hh : w1.scope ≠ ws
    · rw [if_pos hh] at hnext
      obtain ⟨es', ck', hmp, hrun⟩ := aAo (P := Tryz.prog) (enc := NJ) (t := 57) (kt := 3) (et := 3) (by kernel_rfl) (by kernel_rfl) w1.scope (by exact rfl) (i : Int) hR.ca q0.cc
      have hcall := hn1 xb cb hb db x w1 { st with cases := eY w1.scope (i : Int) st.cases } _ (hkx.mono hle) (hsb.other rfl rfl rfl)
      rw [← hnext] at hcall
      refine eO (congrArg (List.cons _) (eX xb cb hb db st q0)) ?_
      repeat' (first | refine KO ?_ | (refine KV (b := by first | exact U1 i | exact U4 hmm) (c := ?_)) | refine KI ?_ | refine NB fun b => ?_ | fail)
      all_goals try (exfalso; first | fail)
      refine aC 8 _ (by kernel_rfl) rfl (List.Sublist.cons_cons _ (List.Sublist.cons_cons _ (List.Sublist.cons_cons _ (List.Sublist.cons_cons _ (List.Sublist.cons_cons _ (List.Sublist.cons _ (List.nil_sublist _))))))) ?_
      all_goals refine DD 0 ?_
      all_goals refine DD 1 ?_
      all_goals refine DD 2 ?_
      all_goals refine DD 3 ?_
      all_goals refine DD 4 ?_
      all_goals refine DD 5 ?_
      all_goals refine DD 6 ?_
      all_goals ((refine D3 7 ?_; refine D5 ?_; (with_reducible apply KE (kv := .int .i64 w1.scope)); (iterate 4 exact rfl); (repeat first | with_reducible exact lS | with_reducible apply mW); exact hrun; refine D9 ?_))
      all_goals refine D8 ?_
      repeat' (first | ((with_reducible show GC _ _ (Code.region 15 _ _) _ _ _ _); (apply bF)) | refine KK ?_ | fail)
      refine gcs (eO (L' := _ :: _ :: FB xb cb hb db { st with cases := eY w1.scope (i : Int) st.cases } { q0 with ce := es', cc := ck' }) rfl ?_)
      have hR : FR' { q0 with ce := es', cc := ck' } { st with cases := eY w1.scope (i : Int) st.cases } := ⟨hR.sc, hmp, hR.hd, hR.dn⟩
      repeat' (first | refine KO ?_ | (refine CF 67 ?_; (with_reducible apply kQ 2); (iterate 3 exact rfl); ((with_reducible apply aU); kernel_rfl; (iterate 3 exact rfl)); exact rfl; (exact hR); (exact hcall); (rintro v1 μ1 i1 hle1 hR -); (dsimp only [List.cons_append, List.nil_append])) | refine KI ?_ | fail)
      all_goals try (exfalso; first | fail)
      all_goals exact bD (i + 1, μ1, i1) ⟨by dsimp only; omega, hle.trans hle1, hR⟩ (by dsimp only; omega) rfl PU (by repeat exact aO _ (cR _))
    · rw [if_neg hh] at hnext
      have hcall := hn1 xb cb hb db x w1 st _ (hkx.mono hle) hsb
      rw [← hnext] at hcall
      repeat' (first | refine KO ?_ | (refine CF 67 ?_; (with_reducible apply kQ 2); (iterate 3 exact rfl); ((with_reducible apply aU); kernel_rfl; (iterate 3 exact rfl)); exact rfl; (exact hR); (exact hcall); (rintro v1 μ1 i1 hle1 hR -); (dsimp only [List.cons_append, List.nil_append])) | (refine KV (b := by first | exact U1 i | exact U4 hmm) (c := ?_)) | refine KI ?_ | refine NB fun b => ?_ | fail)
      all_goals try (exfalso; first | fail)
      all_goals exact bD (i + 1, μ1, i1) ⟨by dsimp only; omega, hle.trans hle1, hR⟩ (by dsimp only; omega) rfl PU (by repeat exact aO _ (cR _))
  · have hil : i = (t.kids.drop 1).length := by omega
    subst hil
    rw [List.take_of_length_le (Nat.le_refl _)] at hR ⊢
    repeat' (first | refine KK ?_ | fail)
    all_goals try (exfalso; first | fail)
    all_goals exact fR 1 q0 (by exact .inr rfl) hcnt rfl rfl hs' hR
end Go.Proofs.YtocidaibmadekaaGreatDoor
namespace Go.Proofs.YtocidaibmadekaaGreatDoor
open Go.RowKit Go.Vcg Go.MapKept
attribute [local irreducible] iB eY sI iC findF jQ fJ lX kW eU gV DL sZ lJ tQ oA
attribute [local irreducible] fM cM cH bA bY cK anI fU eG G GC GQ GA bX Calls IntKind.wrap Int.decLt Int.decLe
theorem IL (N : T → Wh → FS → FS) (fu : Nat) (t : T) (hq : dF qS t) (hts : t.size ≤ 2000) (hfu : t.size ≤ fu) (hN : ∀ k, dF qS k → k.size < t.size → NK N k ∧ NGs N k) : NK (vG N fu) t := by
  intro xb cb hb db u w0 s μ hk hB
  intro w q hμ hR hO
  have hcnt := bG hO.diff
  have ou := hk.one
  have hsz := aP t
  obtain ⟨hsc, hus, hfc⟩ := hB.sc
  have hnb := hB.2
  have hk0 := hk
  have hlek : ∀ k ∈ t.kids, k.size < t.size := fun k hk => by
    have : k.size ≤ szs t.kids := T.bN (List.mem_map.2 ⟨k, hk, rfl⟩)
    omega
  have hNk : ∀ k ∈ t.kids, NK N k ∧ NGs N k := fun k hk => hN k (hq.kid hk) (hlek k hk)
  obtain ⟨A, c, rfl, hcap, hget⟩ := hk.form
  obtain ⟨ws, wf, wd⟩ := w0
  generalize hs' : vG N fu t ⟨ws, wf, wd⟩ s = s'
  unfold vG at hs'
  dsimp only at hs'
  have hb1 := hB.1
  refine aS (args := [.pointer (some ⟨xb, 0, none⟩), .agg (aD t (.slice A t.kids.length c)).toArray, WV ⟨ws, wf, wd⟩]) Tryz.func67 rfl Tryz.ntmps67 (by simp) hμ hO ?_
  by_cases h34 : t.op = 34
  · rw [if_pos h34] at hs'
    repeat' (first | refine KO ?_ | (refine CF 94 ?_; (with_reducible apply kQ 2); (iterate 3 exact rfl); ((with_reducible apply aU); kernel_rfl; (iterate 3 exact rfl)); exact rfl; (exact hR); (exact AN t _ ⟨ws, wf, wd⟩ s _ xb cb hb db ou hsc hnb (by omega)); (rintro v1 μ1 i1 hle1 hR -); (dsimp only [List.cons_append, List.nil_append])) | refine KI ?_ | refine NB fun b => ?_ | fail)
    all_goals try (exfalso; first | fail)
    all_goals exact fR 2 i1 (by exact .inr rfl) hcnt rfl rfl hs' hR
  rw [if_neg h34] at hs'
  by_cases h4 : t.op = 4
  · rw [if_pos h4] at hs'
    repeat' (first | refine KO ?_ | (refine CF 95 ?_; (with_reducible apply kQ 2); (iterate 3 exact rfl); ((with_reducible apply aU); kernel_rfl; (iterate 3 exact rfl)); exact rfl; (exact hR); (exact OG N fu t hq h4 hts hfu hN _ ⟨ws, wf, false⟩ s _ xb cb hb db hk0 hB); (rintro v1 μ1 i1 hle1 hR -); (dsimp only [List.cons_append, List.nil_append])) | refine KI ?_ | refine NB fun b => ?_ | fail)
    all_goals try (exfalso; first | fail)
    all_goals exact fR 2 i1 (by exact .inr rfl) hcnt rfl rfl hs' hR
  rw [if_neg h4] at hs'
  by_cases h6 : t.op = 6
  · rw [if_pos h6] at hs'
    have hsl := eF t.kids true []
    rw [List.length_nil, Nat.zero_add] at hsl
    have hst := fun (μc : Mem) (hle : MLe μ μc) => nS t.kids true _ (.slice none 0 0) [] μc (hk0.mono hle) (fun k hk => (hq.kid hk).here.1) (by omega) (by rw [List.length_nil]; omega)
    have hsm := fun (lv : Value) (μ : Mem) (h : s.scopes.length ≤ 8000) => qI 2 t.at' ⟨ws, wf, wd⟩ (bA t.kids true []) lv s μ xb cb hb db h
    have gg := mN (kind := 2) (at' := t.at') (w := ⟨ws, wf, wd⟩) (l := bA t.kids true []) s (by omega)
    have hB1 : BS (eU 2 t.at' ⟨ws, wf, wd⟩ (bA t.kids true []) s) (szs t.kids) := ⟨by have := gg.wt; omega, gg.nm hnb⟩
    generalize bA t.kids true [] = bl at hsm hs' hB1 hst
    generalize eU 2 t.at' ⟨ws, wf, wd⟩ bl s = s1 at hsm hs' hB1
    generalize gV ⟨ws, wf, wd⟩ bl s = w1 at hsm hs'
    repeat' (first | refine KK ?_ | refine NB fun b => ?_ | fail)
    all_goals try (exfalso; first | fail)
    refine aC 12 _ (by kernel_rfl) rfl (List.Sublist.cons_cons _ (List.Sublist.cons_cons _ (List.nil_sublist _))) ?_
    all_goals refine DD 0 ?_
    all_goals refine DD 1 ?_
    all_goals refine DD 2 ?_
    all_goals refine DD 3 ?_
    all_goals refine DD 4 ?_
    all_goals refine DD 5 ?_
    all_goals refine DD 6 ?_
    all_goals refine DD 7 ?_
    all_goals refine DD 8 ?_
    all_goals ((refine D3 9 ?_; refine D5 ?_; ((refine CF 42 ?_; (refine tF 40 4 ?_); (with_reducible apply oW (bl := ([] : List Bd)) 0); (iterate 3 exact rfl); ((with_reducible apply aU); kernel_rfl; (iterate 3 exact rfl)); exact rfl; (exact hst _ (MLe.refl _)); (intro v5 μ5 hle5); (dsimp only [dG]))); refine D9 ?_))
    all_goals ((refine D3 10 ?_; refine D5 ?_; ((refine CF 96 ?_; (refine lF (bH (.refl _) (bH (.refl _) (cR _))) ?_); (with_reducible apply oT (bl := bl) 2); (iterate 3 exact rfl); ((with_reducible apply iH); kernel_rfl; (iterate 5 exact rfl)); exact rfl; (exact hR); (exact hsm _ _ hsc); (rintro v6 μ6 i6 hle6 hR rfl); (dsimp only [List.cons_append, List.nil_append]))); refine D9 ?_))
    all_goals ((refine D3 11 ?_; refine D5 ?_; ((refine CF 43 ?_; (with_reducible apply kQ 2); (iterate 3 exact rfl); ((with_reducible apply aU); kernel_rfl; (iterate 3 exact rfl)); exact rfl; (exact hR); (exact lL N t.kids _ w1 s1 _ xb cb hb db hNk ((hk0.mono hle5).mono hle6) hB1); (rintro v7 μ7 i7 hle7 hR -); (dsimp only [List.cons_append, List.nil_append]))); refine D9 ?_))
    all_goals refine D8 ?_
    all_goals repeat' (first | refine KK ?_ | fail)
    all_goals exact fR 2 i7 (by exact .inr rfl) hcnt rfl rfl hs' hR
  rw [if_neg h6] at hs'
  by_cases h21 : t.op = 21
  · rw [if_pos h21] at hs'
    repeat' (first | refine KO ?_ | (refine CF 97 ?_; (with_reducible apply kQ 2); (iterate 3 exact rfl); ((with_reducible apply aU); kernel_rfl; (iterate 3 exact rfl)); exact rfl; (exact hR); (exact CP N t hq h21 hts hN _ ⟨ws, wf, wd⟩ s _ xb cb hb db hk0 hB); (rintro v1 μ1 i1 hle1 hR -); (dsimp only [List.cons_append, List.nil_append])) | refine KI ?_ | refine NB fun b => ?_ | fail)
    all_goals try (exfalso; first | fail)
    all_goals exact fR 2 i1 (by exact .inr rfl) hcnt rfl rfl hs' hR
  rw [if_neg h21] at hs'
  by_cases hlp : t.op = 10 ∨ t.op = 11 ∨ t.op = 12
  · rw [if_pos hlp] at hs'
    have hlo := IM N t hq hlp hts hN _ ⟨ws, wf, wd⟩ s μ xb cb hb db hk0 hB
    rw [hs'] at hlo
    rcases hlp with hl1 | hl1 | hl1
    all_goals repeat' (first | refine KO ?_ | (refine CF 98 ?_; (with_reducible apply kQ 2); (iterate 3 exact rfl); ((with_reducible apply aU); kernel_rfl; (iterate 3 exact rfl)); exact rfl; (exact hR); (exact hlo); (rintro v1 μ1 i1 hle1 hR -); (dsimp only [List.cons_append, List.nil_append])) | refine KI ?_ | refine NB fun b => ?_ | fail)
    all_goals try (exfalso; first | fail)
    all_goals exact fR 2 i1 (by exact .inr rfl) hcnt rfl rfl rfl hR
  rw [if_neg hlp] at hs'
  have hl1 : t.op ≠ 10 := fun h => hlp (.inl h)
  have hl2 : t.op ≠ 11 := fun h => hlp (.inr (.inl h))
  have hl3 : t.op ≠ 12 := fun h => hlp (.inr (.inr h))
  by_cases h20 : t.op = 20
  · rw [if_pos h20] at hs'
    have hk1 : 2 ≤ t.kids.length := hq.here.1.kc.two (.inr (.inl h20))
    obtain ⟨d0, hd0⟩ : ∃ d, t.kids[0]? = some d := ⟨_, List.getElem?_eq_getElem (by omega)⟩
    obtain ⟨ad, x0, e0, hm0, ho0, hx0⟩ := hget 0 d0 hd0
    cases e0
    rw [eR hd0] at hs'
    have hd0s := hlek d0 (List.mem_of_getElem? hd0)
    have hnl := iQ d0
    have hbl0 := iV 5 (aR d0) []
    rw [List.length_nil, Nat.zero_add] at hbl0
    have hnm := fun (w : World) (μc : Mem) (hw : MOk μc w) (hle : MLe μ μc) => oC d0 w μc x0 hw (hx0.mono hle) (by omega)
    refine qT 40 4 ?_
    repeat' (first | refine KO ?_ | ((with_reducible apply C3); exact rfl; exact EN; (exact fun w μc hw hse => hnm w μc hw hse.le); intro v2; (with_reducible apply cP 0); exact rfl; rintro A2 c2 rfl hok2) | (refine KV (b := by first | exact U1 0 | exact U4 hm0) (c := ?_)) | refine KI ?_ | refine NB fun b => ?_ | fail)
    all_goals try (exfalso; first | fail)
    rename_i bn
    obtain ⟨bw, hbw⟩ : ∃ y, y = b := ⟨_, rfl⟩
    rw [← hbw]
    clear hbw
    refine jV rfl ?_
    intro μ2 hle2 hsh2
    have hS0 := SsV.iY (xs := aR d0) hsh2 rfl rfl
    obtain ⟨A3, c3, e3, hS, hc3⟩ := hS0
    cases e3
    refine aX (ι := Nat × Value × Mem) (fun j => j.1 ≤ (aR d0).length ∧ MLe μ2 j.2.2) (fun j => (aR d0).length - j.1) (fun j => j.2.2) (fun j => [(64, .int .i64 (j.1 : Int)), (63, .int .i64 ((aR d0).length : Int)), (62, .slice A2 (aR d0).length c2), (6, j.2.1), (5, .pointer (some ⟨bw, 0, none⟩)), (4, .pointer (some ⟨bn, 0, none⟩)), (0, .pointer (some ⟨xb, 0, none⟩))]) (fun j => .inl ⟨bw, 95, 3, idx 0 (qZ ⟨ws, wf, wd⟩)⟩ :: .inl ⟨bn, 24, 6, idx 0 (aD t (.slice (some ad) t.kids.length c))⟩ :: kK j.2.1 (cM 5 ((aR d0).take j.1) []) :: FB xb cb hb db s q) (0, .slice none 0 0, μ2) ⟨Nat.zero_le _, MLe.refl _⟩ (fun a w hs => hs.sel PU (by rw [List.take_zero, uS]; exact cR _)) ?_
    rintro ⟨j, v3, μ3⟩ ⟨hj, hle3⟩
    dsimp only at hj hle3 ⊢
    by_cases hjl : j < (aR d0).length
    · obtain ⟨ad3, y, rfl, hy, hm3⟩ := hS.get hjl
      have hm4 := hm3.mono hle3
      have hst := sM (k := 5) (l := []) hy
      have hbl := iV 5 ((aR d0).take j) []
      rw [List.length_take, List.length_nil] at hbl
      generalize cM 5 ((aR d0).take j) [] = acc2 at hst hbl ⊢
      repeat' (first | refine KO ?_ | (refine CF 66 ?_; (with_reducible apply oW 2); (iterate 3 exact rfl); ((with_reducible apply aU); kernel_rfl; (iterate 3 exact rfl)); exact rfl; (exact tS acc2 _ y 5 _ (by omega)); (intro v4 μ4 hle4); (dsimp only [dG])) | (refine KV (b := by first | exact U1 j | exact U3 (hm4.at 0 rfl)) (c := ?_)) | refine KI ?_ | fail)
      all_goals try (exfalso; first | fail)
      all_goals rw [← hst]
      all_goals exact bD (j + 1, v4, μ4) ⟨by dsimp only; omega, hle3.trans hle4⟩ (by dsimp only; omega) rfl PU (cR _)
    have hj2 : j = (aR d0).length := by omega
    subst hj2
    rw [List.take_of_length_le (Nat.le_refl _)]
    have hsm := fun (lv : Value) (μ : Mem) (h : s.scopes.length ≤ 8000) => qI 4 t.at' ⟨ws, wf, wd⟩ (cM 5 (aR d0) []) lv s μ xb cb hb db h
    have gg := mN (kind := 4) (at' := t.at') (w := ⟨ws, wf, wd⟩) (l := cM 5 (aR d0) []) s (by omega)
    have hB1 : BS (eU 4 t.at' ⟨ws, wf, wd⟩ (cM 5 (aR d0) []) s) (szs t.kids) := ⟨by have := gg.wt; omega, gg.nm hnb⟩
    generalize cM 5 (aR d0) [] = bl at hsm hs' hB1 ⊢
    generalize eU 4 t.at' ⟨ws, wf, wd⟩ bl s = s1 at hsm hs' hB1
    generalize gV ⟨ws, wf, wd⟩ bl s = w1 at hsm hs'
    repeat' (first | refine KK ?_ | fail)
    all_goals try (exfalso; first | fail)
    refine aC 10 _ (by kernel_rfl) rfl (List.Sublist.cons_cons _ (List.Sublist.cons_cons _ (List.nil_sublist _))) ?_
    all_goals refine DD 0 ?_
    all_goals refine DD 1 ?_
    all_goals refine DD 2 ?_
    all_goals refine DD 3 ?_
    all_goals refine DD 4 ?_
    all_goals refine DD 5 ?_
    all_goals refine DD 6 ?_
    all_goals refine DD 7 ?_
    all_goals ((refine D3 8 ?_; refine D5 ?_; ((refine CF 96 ?_; (with_reducible apply oT (bl := bl) 2); (iterate 3 exact rfl); ((with_reducible apply iH); kernel_rfl; (iterate 5 exact rfl)); exact rfl; (exact hR); (exact hsm _ _ hsc); (rintro v6 μ6 i6 hle6 hR rfl); (dsimp only [List.cons_append, List.nil_append]))); refine D9 ?_))
    all_goals ((refine D3 9 ?_; refine D5 ?_; ((refine CF 43 ?_; (with_reducible apply kQ 2); (iterate 3 exact rfl); ((with_reducible apply aU); kernel_rfl; (iterate 3 exact rfl)); exact rfl; (exact hR); (exact lL N t.kids _ w1 s1 _ xb cb hb db hNk (((hk0.mono hle2).mono hle3).mono hle6) hB1); (rintro v7 μ7 i7 hle7 hR -); (dsimp only [List.cons_append, List.nil_append]))); refine D9 ?_))
    all_goals refine D8 ?_
    all_goals repeat' (first | refine KK ?_ | fail)
    all_goals exact fR 2 i7 (by exact .inr rfl) hcnt rfl rfl hs' hR
  rw [if_neg h20] at hs'
  by_cases h3 : t.op = 3
  · rw [if_pos h3] at hs'
    repeat' (first | refine KO ?_ | (refine CF 99 ?_; (with_reducible apply kQ 2); (iterate 3 exact rfl); ((with_reducible apply aU); kernel_rfl; (iterate 3 exact rfl)); exact rfl; (exact hR); (exact IS N t hq h3 hts hN _ ⟨ws, wf, wd⟩ s _ xb cb hb db hk0 hB); (rintro v1 μ1 i1 hle1 hR -); (dsimp only [List.cons_append, List.nil_append])) | refine KI ?_ | refine NB fun b => ?_ | fail)
    all_goals try (exfalso; first | fail)
    all_goals exact fR 2 i1 (by exact .inr rfl) hcnt rfl rfl hs' hR
  rw [if_neg h3] at hs'
  by_cases h39 : t.op = 39
  · rw [if_pos h39] at hs'
    by_cases hn3 : t.n = 3
    · rw [if_pos hn3] at hs'
      have hk1 := hq.here.1.kc.one (.inr (.inr (.inr (.inr (.inr (.inr (.inr ⟨h39, hn3⟩)))))))
      obtain ⟨d0, hd0⟩ : ∃ d, t.kids[0]? = some d := ⟨_, List.getElem?_eq_getElem (by omega)⟩
      obtain ⟨ad, x0, e0, hm0, ho0, hx0⟩ := hget 0 d0 hd0
      cases e0
      rw [eR hd0] at hs'
      repeat' (first | refine KK ?_ | refine NB fun b => ?_ | fail)
      all_goals try (exfalso; first | fail)
      refine aC 7 _ (by kernel_rfl) rfl (List.Sublist.cons_cons _ (List.Sublist.cons_cons _ (List.nil_sublist _))) ?_
      all_goals refine DD 0 ?_
      all_goals (first | refine D1 1 ?_ | fail)
      all_goals (first | refine DD 2 ?_ | fail)
      all_goals (first | (refine DV (k := 3) (b := by exact U1 0) (c := ?_)) | fail)
      all_goals (first | (refine DV (k := 4) (b := by exact U4 hm0) (c := ?_)) | fail)
      all_goals (first | refine DD 5 ?_ | fail)
      all_goals ((refine D3 6 ?_; refine D5 ?_; refine CF 94 ?_; (with_reducible apply kQ 2); (iterate 3 exact rfl); ((with_reducible apply aU); kernel_rfl; (iterate 3 exact rfl)); exact rfl; (exact hR); (exact AN d0 _ ⟨ws, wf, wd⟩ s _ xb cb hb db ho0 hsc hnb (by omega)); (rintro v1 μ1 i1 hle1 hR -); (dsimp only [List.cons_append, List.nil_append]); refine D9 ?_))
      all_goals refine D8 ?_
      all_goals repeat' (first | refine KK ?_ | fail)
      all_goals exact fR 2 i1 (by exact .inl rfl) hcnt rfl rfl hs' hR
    · rw [if_neg hn3] at hs'
      repeat' (first | refine KO ?_ | (refine CF 43 ?_; (with_reducible apply kQ 2); (iterate 3 exact rfl); ((with_reducible apply aU); kernel_rfl; (iterate 3 exact rfl)); exact rfl; (exact hR); (exact lL N t.kids _ ⟨ws, wf, wd⟩ s _ xb cb hb db hNk hk0 (hB.mono (by omega))); (rintro v1 μ1 i1 hle1 hR -); (dsimp only [List.cons_append, List.nil_append])) | refine KI ?_ | refine NB fun b => ?_ | fail)
      all_goals try (exfalso; first | fail)
      all_goals exact fR 2 i1 (by exact .inr rfl) hcnt rfl rfl hs' hR
  rw [if_neg h39] at hs'
  repeat' (first | refine KO ?_ | (refine CF 100 ?_; (with_reducible apply kQ 2); (iterate 3 exact rfl); ((with_reducible apply aU); kernel_rfl; (iterate 3 exact rfl)); exact rfl; (exact hR); (exact EO N t hq hN _ ⟨ws, wf, wd⟩ s _ xb cb hb db hk0 hB); (rintro v1 μ1 i1 hle1 hR -); (dsimp only [List.cons_append, List.nil_append])) | refine KI ?_ | refine NB fun b => ?_ | fail)
  all_goals try (exfalso; first | fail)
  all_goals exact fR 2 i1 (by exact .inr rfl) hcnt rfl rfl hs' hR
end Go.Proofs.YtocidaibmadekaaGreatDoor
namespace Go.Proofs.YtocidaibmadekaaGreatDoor
open Go.RowKit Go.Vcg Go.MapKept
theorem aD9 {t : T} {d : Nat} {s : Bool} (h : Rt t d s) : Ks t := by
  refine ⟨aAt h, fun h3 => ?_, fun h2 => ?_⟩
  · cases h with
    | mk hd hn hk hr =>
      unfold aE stB at hk
      simp [h3] at hk
      exact tK hk
  · cases h with
    | mk hd hn hk hr =>
      obtain ⟨-, hf, -⟩ := hn
      unfold gD at hf
      split at hf
      · cases hf
      · rw [if_neg (by omega)] at hf
        simp only [Bool.and_eq_true, decide_eq_true_eq] at hf
        have hm : eB t.op = 2 := by rw [h2]; simp [eB]
        rw [hm] at hf
        omega
theorem qD (t : T) : ∀ (d : Nat) (s : Bool), Rt t d s → Sh t → dF qS t := T.YN (p := fun t => ∀ (d : Nat) (s : Bool), Rt t d s → Sh t → dF qS t) (fun t ih d s h hs => by
  refine .mk ⟨aD9 h, by have := zP hs; omega⟩ fun k hk => ?_
  obtain ⟨i, hi⟩ := List.mem_iff_getElem?.1 hk
  cases h with
  | mk _ _ _ hr => exact ih k hk _ _ (hr i k hi) (mX hs hk)) t
theorem LY (fu : Nat) : ∀ (f : Nat) (t : T), dF qS t → t.size ≤ f → t.size ≤ fu → t.size ≤ 2000 → NK (nbS fu f) t
  | 0, t, _, h, _, _ => by
    have := aP t
    omega
  | f + 1, t, hq, hf, hfu, hts => IL (nbS fu f) fu t hq hts hfu fun k hk h => ⟨LY fu f k hk (by omega) (by omega) (by omega), yC fu f k hk (by omega)⟩
end Go.Proofs.YtocidaibmadekaaGreatDoor
namespace Go.Proofs.YtocidaibmadekaaGreatDoor
open Go.RowKit Go.Vcg
def nk (b : Bd) : ByteArray × Int := (b.name, b.kind)
def mU (l l' : List Sc) : Prop := l.length = l'.length ∧ ∀ (i : Nat) (c c' : Sc), l[i]? = some c → l'[i]? = some c' → c'.up = c.up ∧ c'.fn = c.fn ∧ c'.names.map nk = c.names.map nk
theorem mU.refl (l : List Sc) : mU l l := ⟨rfl, fun i c c' h h' => by rw [h] at h'; cases h'; exact ⟨rfl, rfl, rfl⟩⟩
theorem mU.trans {a b c : List Sc} (h : mU a b) (h' : mU b c) : mU a c := ⟨h.1.trans h'.1, fun i x z hx hz => by
  obtain ⟨y, hy⟩ : ∃ y, b[i]? = some y := ⟨_, List.getElem?_eq_getElem (by have := (List.getElem?_eq_some_iff.1 hx).1; rw [← h.1]; exact this)⟩
  obtain ⟨h1, h2, h3⟩ := h.2 i x y hx hy
  obtain ⟨h4, h5, h6⟩ := h'.2 i y z hy hz
  exact ⟨h4.trans h1, h5.trans h2, h6.trans h3⟩⟩
theorem AL {x : ByteArray} : ∀ {l l' : List Bd} {k : Nat}, l'.map nk = l.map nk → eQ x l' k = eQ x l k
  | [], [], _, _ => rfl
  | [], _ :: _, _, h => by simp at h
  | _ :: _, [], _, h => by simp at h
  | a :: r, b :: r', k, h => by
    simp only [List.map_cons, List.cons.injEq] at h
    have h1 : b.name = a.name := congrArg Prod.fst h.1
    unfold eQ
    rw [h1, AL h.2]
theorem yJ {l l' : List Sc} {x : ByteArray} (h : mU l l') : ∀ (f : Nat) (at' : Int), findF l' x f at' = findF l x f at'
  | 0, _ => rfl
  | f + 1, at' => by
    by_cases h0 : 0 ≤ at' ∧ at' < l.length
    · obtain ⟨c, hc⟩ : ∃ c, l[at'.toNat]? = some c := ⟨_, List.getElem?_eq_getElem (by omega)⟩
      obtain ⟨c', hc'⟩ : ∃ c', l'[at'.toNat]? = some c' := ⟨_, List.getElem?_eq_getElem (by rw [← h.1]; omega)⟩
      obtain ⟨h1, h2, h3⟩ := h.2 _ c c' hc hc'
      rw [jZ h0 hc, jZ (l := l') (by rw [← h.1]; exact h0) hc', AL h3, h1, yJ h f c.up]
    · rw [kA h0, kA (by rw [← h.1]; exact h0)]
theorem BI {l l' : List Sc} (h : mU l l') (at' : Int) (x : ByteArray) : iC l' at' x = iC l at' x := yJ h _ at'
theorem EX {l : List Sc} (a : Nat) (g : Sc → Sc) (hg : ∀ c, (g c).up = c.up ∧ (g c).fn = c.fn ∧ (g c).names.map nk = c.names.map nk) : mU l (l.modify a g) := by
  refine ⟨by rw [List.length_modify], fun i c c' h h' => ?_⟩
  rw [List.getElem?_modify, h] at h'
  split at h'
  · cases h'
    exact hg c
  · cases h'
    exact ⟨rfl, rfl, rfl⟩
theorem zS (l : List Bd) (b : Nat) : (l.modify b fun x => { x with held := true }).map nk = l.map nk := by
  apply List.ext_getElem?
  intro i
  rw [List.getElem?_map, List.getElem?_map, List.getElem?_modify]
  cases l[i]? with
  | none => simp
  | some y => simp only [Option.map_some]; split <;> rfl
theorem OH (l : List Sc) (a b : Nat) : mU l (BA l a b) := EX a _ fun c => ⟨rfl, rfl, zS c.names b⟩
theorem qJ : ∀ (us : List Ux) (l : List Sc), mU l (tE us l)
  | [], l => mU.refl l
  | u :: r, l => by
    unfold tE
    rw [List.foldl_cons]
    split
    · exact (OH l u.ts u.tb).trans (qJ r _)
    · exact qJ r l
theorem xT : ∀ (l : List Bd) (h c : Nat), (eV h c l).map nk = l.map nk
  | [], _, _ => rfl
  | b :: r, h, c => by
    unfold eV
    split
    · simp only [List.map_cons, xT r]
      rfl
    · simp only [List.map_cons, xT r]
      rfl
theorem uG : ∀ (l pre : List Sc) (j : Nat), (uH pre l)[j]? = (l[j]?).map (uF (pre ++ l.take j))
  | [], _, _ => by simp [uH]
  | s :: r, pre, 0 => by simp [uH]
  | s :: r, pre, j + 1 => by
    rw [uH, List.getElem?_cons_succ, List.getElem?_cons_succ, uG r (pre ++ [s]) j]
    simp
theorem SE (l : List Sc) : mU l (uH [] l) := by
  refine ⟨(vF l []).symm, fun i c c' h h' => ?_⟩
  rw [uG, h] at h'
  cases h'
  exact ⟨rfl, rfl, xT _ _ _⟩
def kR (s : FS) : List Sc := uH [] (tE s.uses s.scopes)
theorem xB (s : FS) : mU s.scopes (kR s) := (qJ _ _).trans (SE _)
def zE (l : List Sc) (a b : Nat) : Bd := (((l[a]?).bind fun c => c.names[b]?)).getD ⟨⟨#[]⟩, 0, false, 0⟩
def eW (l : List Sc) : Nat → Int → Int → Nat
  | 0, _, _ => 0
  | f + 1, a, b => if a = b then 0 else match l[a.toNat]? with
    | none => 0
    | some c => (if 0 < dP c.names then 1 else 0) + eW l f c.up b
def iW (l : List Sc) (x : Ux) : Us :=
  if x.found = true then
    let b := zE l x.ts x.tb
    if b.held = true then { x.u with wh := 1, slot := b.slot, hops := (eW l (x.u.scope.toNat + 1) x.u.scope x.ts : Nat) } else { x.u with wh := 0, slot := b.slot }
  else x.u
inductive lA (l : List Sc) (b : Nat) : Int → Prop
  | here : lA l b b
  | up {a : Int} {c : Sc} (h0 : 0 ≤ a) (hc : l[a.toNat]? = some c) (hlt : c.up < a) (hne : a ≠ b) (h : lA l b c.up) : lA l b a
theorem lA.uI {l : List Sc} {b : Nat} {a : Int} (h : lA l b a) : 0 ≤ a ∧ (b : Int) ≤ a := by
  induction h with
  | here => exact ⟨by omega, Int.le_refl _⟩
  | up h0 _ hlt _ _ ih => exact ⟨h0, by omega⟩
theorem zC {l : List Sc} {x : ByteArray} : ∀ {f : Nat} {at' : Int} {a b : Nat}, findF l x f at' = some (a, b) → lA l a at'
  | 0, _, _, _, h => by cases h
  | f + 1, at', a, b, h => by
    by_cases h0 : 0 ≤ at' ∧ at' < l.length
    · obtain ⟨c, hc⟩ : ∃ c, l[at'.toNat]? = some c := ⟨_, List.getElem?_eq_getElem (by omega)⟩
      rw [jZ h0 hc] at h
      cases hp : eQ x c.names 0 with
      | some k =>
        rw [hp] at h
        cases h
        have e : at' = ((at'.toNat : Nat) : Int) := by omega
        rw [e]
        exact lA.here
      | none =>
        rw [hp] at h
        dsimp only at h
        split at h
        · cases h
        · have h2 := zC h
          have h3 := h2.uI
          exact lA.up h0.1 hc (by omega) (by omega) h2
    · rw [kA h0] at h
      cases h
theorem sA {l : List Sc} {b : Nat} {a : Int} (h : lA l b a) : ∀ (f g : Nat), a < f → a < g → eW l f a b = eW l g a b := by
  induction h with
  | here =>
    intro f g hf hg
    cases f with
    | zero => omega
    | succ f =>
      cases g with
      | zero => omega
      | succ g => unfold eW; rw [if_pos rfl, if_pos rfl]
  | @up a c h0 hc hlt hne h ih =>
    intro f g hf hg
    cases f with
    | zero => omega
    | succ f =>
      cases g with
      | zero => omega
      | succ g =>
        unfold eW
        rw [if_neg hne, if_neg hne, hc]
        dsimp only
        rw [ih f g (by omega) (by omega)]
structure WD (l : List Sc) (u : Us) : Prop where
  lo : 0 ≤ u.scope
  hi : u.scope < l.length
  no : iC l u.scope u.name = none → u.wh = 2
  yes : ∀ a b, iC l u.scope u.name = some (a, b) → u.wh ≠ 2 ∧ a < l.length ∧ ∃ c x, l[a]? = some c ∧ c.names[b]? = some x ∧ x.name = u.name ∧ x.kind = u.kind ∧ x.slot = u.slot ∧ (x.held = decide (u.wh = 1)) ∧ (u.check = true → x.kind = 1 ∨ x.kind = 2) ∧ (x.held = true → u.hops = (eW l (l.length + 1) u.scope a : Nat)) ∧ lA l a u.scope
theorem OY {s : FS} {x : Ux} (h : CA s.scopes x) : WD (kR s) (iW (kR s) x) := by
  have hs := xB s
  generalize kR s = l at hs ⊢
  have e1 : (iW l x).scope = x.u.scope ∧ (iW l x).name = x.u.name ∧ (iW l x).kind = x.u.kind ∧ (iW l x).check = x.u.check := by
    unfold iW
    split
    · dsimp only
      split <;> exact ⟨rfl, rfl, rfl, rfl⟩
    · exact ⟨rfl, rfl, rfl, rfl⟩
  have hfs := BI hs x.u.scope x.u.name
  refine ⟨by rw [e1.1]; exact h.lo, by rw [e1.1, ← hs.1]; exact h.hi, fun hn => ?_, fun a b hab => ?_⟩
  · rw [e1.1, e1.2.1, hfs] at hn
    cases hf : x.found with
    | true =>
      rw [(h.yes hf).1] at hn
      cases hn
    | false =>
      unfold iW
      rw [if_neg (by rw [hf]; simp)]
      exact h.wh
  · have hab0 := hab
    rw [e1.1, e1.2.1] at hab0
    rw [e1.1, e1.2.1, hfs] at hab
    cases hf : x.found with
    | false =>
      rw [(h.no hf).1] at hab
      cases hab
    | true =>
      obtain ⟨h1, h2⟩ := h.yes hf
      rw [h1] at hab
      cases hab
      obtain ⟨c, d, hc, hd, hdn, hle⟩ := iL hab0
      obtain ⟨c0, d0, hc0, hd0, -, -⟩ := iL h1
      obtain ⟨-, -, hnk⟩ := hs.2 _ c0 c hc0 hc
      have hkd : d.kind = d0.kind := by
        have := congrArg (fun l => l[x.tb]?) hnk
        simp only [List.getElem?_map, hd, hd0, Option.map_some, Option.some.injEq] at this
        exact congrArg Prod.snd this
      have hk0 : fJ s.scopes x.ts x.tb = d0.kind := by
        unfold fJ
        rw [hc0]
        simp [hd0]
      have hb : zE l x.ts x.tb = d := by
        unfold zE
        rw [hc]
        simp [hd]
      have hch := zC hab0
      have hlt := (List.getElem?_eq_some_iff.1 hc).1
      have hkx : d.kind = x.u.kind := by rw [hkd, ← hk0]; exact h2.symm
      have hhi := h.hi
      rw [hs.1] at hhi
      have hlo := h.lo
      unfold iW at e1 ⊢
      rw [if_pos hf] at e1 ⊢
      dsimp only at e1 ⊢
      rw [hb] at e1 ⊢
      by_cases hh : d.held = true
      · rw [if_pos hh]
        refine ⟨by simp, hlt, c, d, hc, hd, hdn, hkx, rfl, by simp [hh], fun hck => ?_, fun _ => ?_, hch⟩
        · rw [hkx]; exact (h.ck hck).2
        · show ((eW l (x.u.scope.toNat + 1) x.u.scope x.ts : Nat) : Int) = _
          rw [sA hch (x.u.scope.toNat + 1) (l.length + 1) (by omega) (by omega)]
      · rw [if_neg hh]
        refine ⟨by simp, hlt, c, d, hc, hd, hdn, hkx, rfl, by simp [hh], fun hck => ?_, fun h => absurd h hh, hch⟩
        rw [hkx]; exact (h.ck hck).2
open Go.MapKept
theorem FC {P : Program} {μ : Mem} {l : aI} {L : List Bk} {w : World} {fn : Func} {n : Nat} {rs : List ResultVar} {vs : List Value} {μ0 : Mem} {M : List Nat} {ι : Type} {Ls : ι → List Bk} {Post : Mem → Value → ι → Prop} {L' Lr : List Bk} (k : Nat) (i : ι) (hM : ∀ D, M.count D ≤ 1) (hr : fn.results = rs.toArray) (h : RVs P μ l L rs vs) (hl : Nat.beq vs.length 1 = false) (hL : splitB k L = some (L', Lr)) (hLs : Ls i = L')
    (hp : ∀ μ', MLe μ μ' → Post μ' (.tuple vs.toArray) i) :
    GQ ⟨w, μ0, M, n⟩ (bodyPost P fn (fun e w' => ∃ v μ' i, e = .returned v ∧ fY M w w' μ0 (Ls i) μ' ∧ Post μ' v i)) .ret μ l L := fun a w' hs => by
  have he := iO hL
  subst he
  obtain ⟨μ', hb, hle⟩ := hs.yE
  subst hLs
  exact ⟨hs.defers.none hM, .tuple vs.toArray, FD hr h hl hs.rd, .tuple vs.toArray, μ', i, rfl, hb, hp μ' hle⟩
def nB (f : Nat) (t : T) : FS := { dA f t with scopes := kR (dA f t) }
def fLs (sE : FS) : Option (Nat × Nat × Nat × Nat × FW) → List Bk
  | none => []
  | some i => FB i.1 i.2.1 i.2.2.1 i.2.2.2.1 sE i.2.2.2.2
def NF (sR sE : FS) (v : Value) : Option (Nat × Nat × Nat × Nat × FW) → Prop
  | none => 4096 < eN sR.scopes ∧ v = .tuple #[.pointer none, .int .i64 9]
  | some i => ¬ 4096 < eN sR.scopes ∧ v = .tuple #[.pointer (some ⟨i.1, 0, none⟩), .int .i64 0] ∧ FR' i.2.2.2.2 sE
theorem xV {α : Type} {f : α → α} {l : List α} {i : Nat} {x : α} (h : l[i]? = some x) : l.modify i f = l.set i (f x) := by
  apply List.ext_getElem?
  intro k
  rw [List.getElem?_modify, List.getElem?_set]
  by_cases hk : i = k
  · subst hk
    have hlt := (List.getElem?_eq_some_iff.1 h).1
    rw [if_pos rfl, if_pos hlt, h]
    simp
  · rw [if_neg hk]
    cases l[k]? <;> simp [hk]
theorem aDt {cs : List (Sc × Value)} {a : Nat} {c c2 : Sc} {v : Value} (h : cs[a]? = some (c, v)) (he : cX (c2, v) = cX (c, v)) : (cs.set a (c2, v)).flatMap cX = cs.flatMap cX := by
  have := lY (enc := cX) (s := 5) (fun _ => rfl) (vs := []) (k := 0) (n := 0) (y := (c2, v)) (by omega) cs a (c, v) h (by rw [he]; simp)
  rw [← this, List.append_nil, Nat.add_zero, List.take_append_drop]
theorem UQ (cs : List (Sc × Value)) (a : Nat) (c2 : Sc) (v : Value) : fU (cs.set a (c2, v)) = (fU cs).set a (v, c2.names) := by unfold fU; rw [List.map_set]
theorem QB (us : List Ux) (l : List Sc) {j : Nat} {x : Ux} (h : us[j]? = some x) : tE (us.take (j + 1)) l = if x.found = true ∧ x.fn ≠ KF (tE (us.take j) l) x.ts then BA (tE (us.take j) l) x.ts x.tb else tE (us.take j) l := by
  unfold tE
  exact gL (fun l u => if u.found = true ∧ u.fn ≠ KF l u.ts then BA l u.ts u.tb else l) h
theorem TX {cs : List (Sc × Value)} {a k : Nat} {c : Sc} {v : Value} {d : Bd} (h : cs[a]? = some (c, v)) (hd : c.names[k]? = some d) : BA (scs cs) a k = scs (cs.set a ({ c with names := c.names.set k { d with held := true } }, v)) := by
  unfold BA
  rw [xV (gR h)]
  dsimp only
  rw [xV hd]
  unfold scs
  rw [List.map_set]
def xS (cs : List (Sc × Value)) : List (Sc × Value) := cs.zipIdx.map fun p => (uF ((scs cs).take p.2) p.1.1, p.1.2)
theorem FU (cs : List (Sc × Value)) (j : Nat) : (xS cs)[j]? = (cs[j]?).map fun c => (uF ((scs cs).take j) c.1, c.2) := by
  unfold xS
  rw [List.getElem?_map, List.getElem?_zipIdx]
  cases cs[j]? <;> simp
theorem FT (cs : List (Sc × Value)) : (xS cs).length = cs.length := by unfold xS; simp
theorem TA (cs : List (Sc × Value)) : scs (xS cs) = uH [] (scs cs) := by
  apply List.ext_getElem?
  intro j
  rw [uG, List.nil_append]
  show ((xS cs).map (·.1))[j]? = ((cs.map (·.1))[j]?).map _
  rw [List.getElem?_map, FU, List.getElem?_map]
  cases cs[j]? <;> rfl
theorem OQ (cs : List (Sc × Value)) : (xS cs).flatMap cX = cs.flatMap cX := by
  unfold xS
  rw [List.flatMap_map]
  have e : (fun p : (Sc × Value) × Nat => cX (uF ((scs cs).take p.2) p.1.1, p.1.2)) = fun p => cX p.1 := rfl
  rw [e]
  conv => rhs; rw [← List.zipIdx_map_fst 0 cs]
  rw [List.flatMap_map]
theorem ZN {cs : List (Sc × Value)} {i : List Fm} (h : LS (scs cs) (fU cs) (scs cs).length i) : i = fU (xS cs) := by
  apply List.ext_getElem?
  intro j
  cases hj : cs[j]? with
  | none =>
    have h1 := List.getElem?_eq_none_iff.1 hj
    rw [List.getElem?_eq_none (by rw [h.1, tJ]; exact h1), List.getElem?_eq_none (by rw [tJ, FT]; exact h1)]
  | some c =>
    have hlt := (List.getElem?_eq_some_iff.1 hj).1
    rw [h.2 j _ c.1 (nL hj) (gR hj), if_pos (by rw [gQ]; exact hlt), nL (c := (uF ((scs cs).take j) c.1, c.2)) (by rw [FU, hj]; rfl)]
theorem XI (f : Nat) (t : T) : 1 ≤ (dA f t).scopes.length := by
  have h0 : SI ⟨[], [], 0, [], [], []⟩ := ⟨fun i c h => by simp at h, fun x hx => by simp at hx⟩
  obtain ⟨g, hw⟩ := tG (kind := 0) (at' := t.at') (w := ⟨-1, 0, false⟩) (l := bA t.kids false []) h0 ⟨Int.le_refl _, by simp⟩
  have h1 := (sD (UD f f) t.kids (w := ⟨0, 0, false⟩) (s := gX t) hw g.si).pre.length_le
  have h2 : (gX t).scopes.length = 1 := rfl
  rw [h2] at h1
  exact h1
def s00 : FS := ⟨[], [], 0, [], [], []⟩
def q00 : FW := ⟨.slice none 0 0, .slice none 0 0, [], [], [], [], 0, 0, 0⟩
theorem aE4 (xb cb hb db : Nat) : FB xb cb hb db s00 q00 = [.inl ⟨xb, 61, 6, [(0, .slice none 0 0), (1, .slice none 0 0), (2, .int .i64 0), (3, .map (some cb)), (4, .map (some hb)), (5, .map (some db))]⟩, .inr ⟨.slice none 0 0, 43, 5, 0, []⟩, .inr ⟨.slice none 0 0, 65, 12, 0, []⟩, .mp ⟨cb, [], 0⟩, .mp ⟨hb, [], 0⟩, .mp ⟨db, [], 0⟩] := rfl
theorem tW (t : T) : gX t = gI 0 t.at' ⟨-1, 0, false⟩ (bA t.kids false []) s00 := rfl
attribute [local irreducible] iB eY sI iC findF jQ fJ lX kW nbS gI rtB
attribute [local irreducible] fM cM cH bA bY cK anI fU eG G GC GQ GA bX Calls IntKind.wrap Int.decLt Int.decLe
theorem QL (f : Nat) (t : T) (u : Value) (w : World) (μ : Mem) (hμ : MOk μ w) (hO : Go.Vcg.Own μ [] w) (hk : KR μ t.kids u) (hts : t.size ≤ 2000) (hf : t.size ≤ f) (hsh : Sh t) (hT : kX μ) (hop1 : t.op = 1) (hrt : rtB t 1 false = true) :
    Calls Tryz.prog 22 #[.agg (aD t u).toArray] w fun e w' => ∃ (v : Value) (μ' : Mem) (i : Option (Nat × Nat × Nat × Nat × FW)), e = .returned v ∧ fY (eS []) w w' μ (fLs (nB f t) i) μ' ∧ NF (dA f t) (nB f t) v i := by
  have hcnt := bG hO.diff
  generalize hfin : nB f t = sE
  unfold nB at hfin
  have ou := hk.one
  have hsz := aP t
  have hq := qD t 1 false (dZ hrt) hsh
  have hri := fun (w : World) (μc : Mem) (hw : MOk μc w) (hle : MLe μ μc) => uW t _ w μc hw (hk.mono hle) (by omega) hsh (hT.mono hle)
  rw [hrt] at hri
  have hk0 := hk
  obtain ⟨A, c, rfl, hcap, hget⟩ := hk.form
  have hNk : ∀ k ∈ t.kids, NK (nbS f f) k ∧ NGs (nbS f f) k := fun k hk => by
    have h1 : k.size ≤ szs t.kids := T.bN (List.mem_map.2 ⟨k, hk, rfl⟩)
    exact ⟨LY f f k (hq.kid hk) (by omega) (by omega) (by omega), yC f f k (hq.kid hk) (by omega)⟩
  have hsl := eF t.kids false []
  rw [List.length_nil, Nat.zero_add] at hsl
  have hst := fun (μc : Mem) (hle : MLe μ μc) => nS t.kids false _ (.slice none 0 0) [] μc (hk0.mono hle) (fun k hk => (hq.kid hk).here.1) (by omega) (by rw [List.length_nil]; omega)
  have hop := fun (lv : Value) (μ : Mem) (xb cb hb db : Nat) (h : s00.scopes.length ≤ 8000) => qM 0 t.at' ⟨-1, 0, false⟩ (bA t.kids false []) lv s00 μ xb cb hb db h
  have hgo := mO (kind := 0) (at' := t.at') (w := ⟨-1, 0, false⟩) (l := bA t.kids false []) s00 (by omega)
  have hB1 : BS (gX t) (szs t.kids) := by
    rw [tW]
    refine ⟨?_, hgo.nm (fun c hc => by cases hc)⟩
    have h1 := hgo.wt
    have h2 : wtS s00 = 0 := rfl
    omega
  have hrun : dA f t = qF (nbS f f) t.kids ⟨0, 0, false⟩ (gX t) := rfl
  refine aS (args := [.agg (aD t (.slice A t.kids.length c)).toArray]) Tryz.func22 rfl Tryz.ntmps22 (by simp) hμ hO ?_
  repeat' (first | ((with_reducible show GC _ _ (Code.seq (Code.region 4 _ _) _) _ _ _ _); (apply bF)) | refine KO ?_ | ((with_reducible apply F1 38); exact rfl; exact EN; (exact fun w μc hw hse => hri w μc hw hse.le)) | refine KI ?_ | refine NB fun b => ?_ | ((with_reducible apply DK); exact rfl; exact rfl; intro b) | refine KG ?_ | fail)
  all_goals try (exfalso; first | fail)
  rename_i bn cb hb db
  obtain ⟨xb, hxb⟩ : ∃ y, y = b := ⟨_, rfl⟩
  rw [← hxb]
  clear hxb
  refine gcs (qT 65 12 (qT 43 5 ?_))
  refine pT (L' := .inl ⟨bn, 24, 6, idx 0 (aD t (.slice A t.kids.length c))⟩ :: FB xb cb hb db s00 q00) (by rw [aE4]; exact PS) ?_
  have hR : FR' q00 s00 := aFa
  refine dY (ι := Nat × FW × Mem) (fun j => FR' j.2.1 (gX t) ∧ MLe μ j.2.2) (fun j => j.2.2) (fun j => [(5, .pointer (some ⟨j.1, 0, none⟩)), (4, .pointer (some ⟨xb, 0, none⟩)), (1, .pointer (some ⟨bn, 0, none⟩))]) (fun j => .inl ⟨j.1, 95, 3, idx 0 (qZ ⟨0, 0, false⟩)⟩ :: .inl ⟨bn, 24, 6, idx 0 (aD t (.slice A t.kids.length c))⟩ :: FB xb cb hb db (gX t) j.2.1) ?_ ?_
  · refine aC 10 _ (by kernel_rfl) rfl (List.Sublist.cons_cons _ (List.nil_sublist _)) ?_
    all_goals refine DD 0 ?_
    all_goals refine DD 1 ?_
    all_goals refine DD 2 ?_
    all_goals refine DD 3 ?_
    all_goals refine DD 4 ?_
    all_goals refine DD 5 ?_
    refine dW 6 8 (by kernel_rfl) ?dr22_6 ?dr22_8
    case' dr22_6 =>
      ((refine D5 ?_; ((refine CF 42 ?_; (refine tF 40 4 ?_); (with_reducible apply oW (bl := ([] : List Bd)) 0); (iterate 3 exact rfl); ((with_reducible apply aU); kernel_rfl; (iterate 3 exact rfl)); exact rfl; (exact hst _ (MLe.refl _)); (intro v5 μ5 hle5); (dsimp only [dG]))); refine D9 ?_))
      refine dW 7 8 (by kernel_rfl) ?dr23_7 ?dr23_8
      case' dr23_7 =>
        ((refine D5 ?_; ((refine CF 41 ?_; (refine lF (bH (.refl _) (cR _)) ?_); (with_reducible apply oT (bl := bA t.kids false []) 1); (iterate 3 exact rfl); ((with_reducible apply iH); kernel_rfl; (iterate 5 exact rfl)); exact rfl; (exact hR); (exact hop _ _ xb cb hb db (by simp [s00])); (rintro v6 μ6 i6 hle6 hR rfl); (dsimp only [List.cons_append, List.nil_append]))); refine D9 ?_))
        all_goals ((refine D3 8 ?_; refine D5 ?_; refine NB fun b => ?_; refine D9 ?_))
        all_goals ((refine D3 9 ?_; refine D5 ?_; refine Y0 ?_; refine D9 ?_))
        all_goals refine D8 ?_
      case' dr23_8 =>
        ((refine D5 ?_; refine NB fun b => ?_; refine D9 ?_))
        all_goals ((refine D3 7 ?_; refine D5 ?_; ((refine CF 41 ?_; (refine lF (bW (.refl _) (bH (.refl _) (cR _))) ?_); (with_reducible apply oT (bl := bA t.kids false []) 2); (iterate 3 exact rfl); ((with_reducible apply iH); kernel_rfl; (iterate 5 exact rfl)); exact rfl; (exact hR); (exact hop _ _ xb cb hb db (by simp [s00])); (rintro v6 μ6 i6 hle6 hR rfl); (dsimp only [List.cons_append, List.nil_append]))); refine D9 ?_))
        all_goals ((refine D3 9 ?_; refine D5 ?_; refine Y0 ?_; refine D9 ?_))
        all_goals refine D8 ?_
    case' dr22_8 =>
      ((refine D5 ?_; refine NB fun b => ?_; refine D9 ?_))
      all_goals ((refine D3 6 ?_; refine D5 ?_; ((refine CF 42 ?_; (refine tF 40 4 ?_); (with_reducible apply oW (bl := ([] : List Bd)) 0); (iterate 3 exact rfl); ((with_reducible apply aU); kernel_rfl; (iterate 3 exact rfl)); exact rfl; (exact hst _ (MLe.refl _)); (intro v5 μ5 hle5); (dsimp only [dG]))); refine D9 ?_))
      all_goals ((refine D3 7 ?_; refine D5 ?_; ((refine CF 41 ?_; (refine lF (bH (.refl _) (bH (.refl _) (cR _))) ?_); (with_reducible apply oT (bl := bA t.kids false []) 2); (iterate 3 exact rfl); ((with_reducible apply iH); kernel_rfl; (iterate 5 exact rfl)); exact rfl; (exact hR); (exact hop _ _ xb cb hb db (by simp [s00])); (rintro v6 μ6 i6 hle6 hR rfl); (dsimp only [List.cons_append, List.nil_append]))); refine D9 ?_))
      all_goals ((refine D3 9 ?_; refine D5 ?_; refine Y0 ?_; refine D9 ?_))
      all_goals refine D8 ?_
    all_goals repeat' (first | fail)
    all_goals exact cD (b, i6, _) ⟨hR, hle5.trans hle6⟩ rfl PU (by repeat first | exact cR _ | (refine bW ?_ ?_; focus ((refine eL.cells ?_; repeat first | exact cI | refine bR rfl ?_))))
  rintro ⟨bw, q1, μ1⟩ ⟨hR, hle1⟩
  dsimp only at hR hle1 ⊢
  have hmain := lL (nbS f f) t.kids _ ⟨0, 0, false⟩ (gX t) μ1 xb cb hb db hNk (hk0.mono hle1) hB1
  rw [← hrun] at hmain
  repeat' (first | ((with_reducible show GC _ _ (Code.seq (Code.region 6 _ _) _) _ _ _ _); (apply bF)) | refine KO ?_ | (refine CF 43 ?_; (with_reducible apply kQ 2); (iterate 3 exact rfl); ((with_reducible apply aU); kernel_rfl; (iterate 3 exact rfl)); exact rfl; (exact hR); (exact hmain); (rintro v2 μ2 i2 hle2 hR -); (dsimp only [List.cons_append, List.nil_append])) | refine KI ?_ | fail)
  have hsi : SI (dA f t) := IV f t
  have hrl := XI f t
  have hgR := kI (N := nbS f f) t.kids (fun k hk => (hNk k hk).2) ⟨0, 0, false⟩ (gX t)
  rw [← hrun] at hgR
  have hBR : BS (dA f t) 0 := BS.gr hB1 hgR
  generalize dA f t = sR at hR hsi hBR hfin hrl ⊢
  obtain ⟨sv, uv, cs, ce, he, de, qc, qh, qd⟩ := i2
  refine gcs (pT (L' := FB xb cb hb db sR ⟨sv, uv, cs, ce, he, de, qc, qh, qd⟩) (aO _ (aO _ (cR _))) ?_)
  refine eO (eX xb cb hb db sR _) ?_
  have hlen := hR.len
  obtain ⟨hscl, husl, -⟩ := hBR.sc
  have hscs := hR.sc
  dsimp only at hlen hscs ⊢
  have hnk : ∀ (i : Nat) (y : Sc × Value), cs[i]? = some y → y.1.names.length ≤ 10000000 := fun i y h => hBR.2 y.1 (by rw [← hscs]; exact List.mem_map_of_mem (List.mem_of_getElem? h))
  refine fG 1 rfl ?_
  rintro As cas rfl hoks
  have hsum : ∀ i, eN ((scs cs).take i) ≤ 10000000 * i := fun i => by
    induction i with
    | zero => simp [eN]
    | succ i ih =>
      cases hi : (scs cs)[i]? with
      | none =>
        rw [List.take_of_length_le (by have := List.getElem?_eq_none_iff.1 hi; omega)] at ih ⊢
        omega
      | some y =>
        have hy : y.names.length ≤ 10000000 := hBR.2 y (by rw [← hscs]; exact List.mem_of_getElem? hi)
        unfold eN at ih ⊢
        rw [List.take_add_one, hi, List.map_append, List.sum_append, Option.toList_some, List.map_cons, List.map_nil, List.sum_cons, List.sum_nil]
        omega
  repeat' (first | refine KK ?_ | fail)
  refine aX (ι := Nat) (fun j => j ≤ cs.length) (fun j => cs.length - j) (fun _ => μ2) (fun j => [(42, .int .i64 (j : Int)), (41, .int .i64 (cs.length : Int)), (40, .slice As cs.length cas), (6, .int .i64 (eN ((scs cs).take j) : Int)), (4, .pointer (some ⟨xb, 0, none⟩))]) (fun _ => FB xb cb hb db sR ⟨.slice As cs.length cas, uv, cs, ce, he, de, qc, qh, qd⟩) 0 (Nat.zero_le _) (fun a w hs => hs.sel PU (cR _)) ?_
  rintro i hi
  by_cases hlt : i < cs.length
  · obtain ⟨cc, hcc⟩ : ∃ cc, cs[i]? = some cc := ⟨_, List.getElem?_eq_getElem hlt⟩
    obtain ⟨c', v⟩ := cc
    have hfam := tM (nL hcc)
    have hn1 := hnk i _ hcc
    have hsm := hsum i
    have hsn : eN ((scs cs).take (i + 1)) = eN ((scs cs).take i) + c'.names.length := by
      unfold eN
      rw [List.take_add_one, gR hcc, List.map_append, List.sum_append, Option.toList_some, List.map_cons, List.map_nil, List.sum_cons, List.sum_nil, Nat.add_zero]
    rcases hoks.form with ⟨-, h0, -⟩ | ⟨gs, rfl⟩
    · exfalso; omega
    refine eO (eX xb cb hb db sR _) ?_
    dsimp only at hfam hn1 ⊢
    refine lI (fA (F := [_, _, _, _, _, _]) hfam) ?_
    dsimp only [List.cons_append, List.nil_append, yO]
    refine fG 0 rfl ?_
    rintro A4 c4 hv4 hok4
    subst hv4
    refine lI (fA (F := [_, _, _, _, _, _]) hfam).symm ?_
    dsimp only [List.cons_append, List.nil_append]
    have hcell : ∀ (j : Nat) (y : Value), (cX (c', Value.slice A4 c'.names.length c4))[j]? = some y → (cs.flatMap cX)[i * 5 + j]? = some y := fun j y hy => Go.Vcg.fK (enc := cX) (s := 5) (fun _ => rfl) hcc j y hy
    repeat' (first | refine KO ?_ | (refine KV (b := by first | exact U1 i | ((with_reducible apply mG (vs := cX (c', Value.slice A4 c'.names.length c4)) 1); (iterate 5 exact rfl); exact hcell)) (c := ?_)) | refine KI ?_ | refine NB fun b => ?_ | fail)
    all_goals try (exfalso; first | fail)
    all_goals rw [show ((eN ((scs cs).take i) : Nat) : Int) + (c'.names.length : Int) = ((eN ((scs cs).take (i + 1)) : Nat) : Int) by omega]
    all_goals exact bD (i + 1) (by omega) (by omega) rfl PU (by rw [eX]; exact (by repeat exact aO _ (cR _)))
  · have hil : i = cs.length := by omega
    subst hil
    rw [List.take_of_length_le (by rw [gQ]; omega), hscs]
    by_cases h4 : 4096 < eN sR.scopes
    · repeat' (first | refine KK ?_ | fail)
      all_goals try (exfalso; first | fail)
      all_goals exact FC (Ls := fLs sE) (Post := fun _ v i => NF sR sE v i) 0 none hcnt rfl (by repeat first | exact sU | refine pB (by exact bJ rfl) ?_) rfl rfl rfl (fun _ _ => ⟨h4, rfl⟩)
    · refine eO (eX xb cb hb db sR _) ?_
      dsimp only
      refine fG 2 rfl ?_
      rintro Au cau rfl hoku
      repeat' (first | refine KK ?_ | fail)
      all_goals try (exfalso; first | fail)
      refine aX (ι := Nat × List (Sc × Value)) (fun j => j.1 ≤ sR.uses.length ∧ scs j.2 = tE (sR.uses.take j.1) sR.scopes) (fun j => sR.uses.length - j.1) (fun _ => μ2) (fun j => [(59, .int .i64 (j.1 : Int)), (58, .int .i64 (sR.uses.length : Int)), (57, .slice Au sR.uses.length cau), (4, .pointer (some ⟨xb, 0, none⟩))]) (fun j => FB xb cb hb db sR ⟨.slice As j.2.length cas, .slice Au sR.uses.length cau, j.2, ce, he, de, qc, qh, qd⟩) (0, cs) ⟨Nat.zero_le _, hscs⟩ (fun a w hs => hs.sel PU (by rw [eX]; exact (by repeat exact cR _))) ?_
      rintro ⟨j, cs'⟩ ⟨hj, hcs'⟩
      dsimp only at hj hcs' ⊢
      have hsm' := qJ (sR.uses.take j) sR.scopes
      rw [← hcs'] at hsm'
      have hlen' : cs'.length = sR.scopes.length := by rw [← gQ]; exact hsm'.1.symm
      by_cases hjl : j < sR.uses.length
      · obtain ⟨x, hx⟩ : ∃ x, sR.uses[j]? = some x := ⟨_, List.getElem?_eq_getElem hjl⟩
        have hok := hsi.uses x (List.mem_of_getElem? hx)
        have hnext := QB sR.uses sR.scopes hx
        rw [← hcs'] at hnext
        have hxc : ∀ (k : Nat) (y : Value), (mR x)[k]? = some y → (sR.uses.flatMap mR)[j * 12 + k]? = some y := fun k y hy => Go.Vcg.fK (enc := mR) (s := 12) (fun _ => rfl) hx k y hy
        rcases hoku.form with ⟨-, h0, -⟩ | ⟨gu, rfl⟩
        · exfalso; omega
        obtain ⟨u9, ts, tb, found, fn⟩ := x
        cases found with
        | false =>
          rw [if_neg (by simp)] at hnext
          refine eO (eX xb cb hb db sR _) ?_
          dsimp only
          repeat' (first | refine KO ?_ | (refine KV (b := by first | exact U1 j | ((with_reducible apply mG (vs := mR ⟨u9, ts, tb, false, fn⟩) 2); (iterate 5 exact rfl); exact hxc)) (c := ?_)) | refine KI ?_ | refine NB fun b => ?_ | fail)
          all_goals try (exfalso; first | fail)
          refine aC 17 _ (by kernel_rfl) rfl (List.Sublist.cons_cons _ (List.Sublist.cons_cons _ (List.Sublist.cons_cons _ (List.Sublist.cons_cons _ (List.Sublist.cons_cons _ (List.Sublist.cons_cons _ (List.Sublist.cons_cons _ (List.nil_sublist _)))))))) ?_
          all_goals refine DD 0 ?_
          all_goals refine DD 1 ?_
          all_goals refine DD 2 ?_
          all_goals (try (refine D7 3 ?_; (repeat' (first | fail))))
          all_goals refine DD 3 ?_
          all_goals refine DD 4 ?_
          all_goals refine DD 5 ?_
          all_goals refine DD 6 ?_
          all_goals refine DD 7 ?_
          all_goals refine DD 8 ?_
          all_goals refine DD 9 ?_
          all_goals refine DD 10 ?_
          all_goals refine DD 11 ?_
          all_goals refine DD 12 ?_
          all_goals refine DD 13 ?_
          all_goals refine DD 14 ?_
          all_goals refine DD 15 ?_
          all_goals refine DD 16 ?_
          all_goals refine D8 ?_
          all_goals repeat' (first | refine KK ?_ | fail)
          all_goals exact bD (j + 1, cs') ⟨by dsimp only; omega, hnext.symm⟩ (by dsimp only; omega) rfl PU (by rw [eX]; exact (by repeat exact aO _ (cR _)))
        | true =>
          obtain ⟨hf1, -⟩ := hok.yes rfl
          dsimp only at hf1
          unfold iC at hf1
          obtain ⟨c0, d0, hc0, hd0, -, -⟩ := iL hf1
          have htl : ts < cs'.length := by rw [hlen']; exact (List.getElem?_eq_some_iff.1 hc0).1
          obtain ⟨cc, hcc⟩ : ∃ cc, cs'[ts]? = some cc := ⟨_, List.getElem?_eq_getElem htl⟩
          obtain ⟨c', v⟩ := cc
          have hsc' := gR hcc
          obtain ⟨-, hfn, hnk'⟩ := hsm'.2 ts c0 c' hc0 hsc'
          have htb : tb < c'.names.length := by
            have h8 := congrArg List.length hnk'
            rw [List.length_map, List.length_map] at h8
            have := (List.getElem?_eq_some_iff.1 hd0).1
            omega
          obtain ⟨d, hd⟩ : ∃ d, c'.names[tb]? = some d := ⟨_, List.getElem?_eq_getElem htb⟩
          have hfa : KF (scs cs') ts = c'.fn := by unfold KF; rw [hsc']; rfl
          have hst := TX hcc hd
          rw [hfa, hst] at hnext
          have hfam := tM (nL hcc)
          rcases hoks.form with ⟨-, h0, -⟩ | ⟨gs, rfl⟩
          · exfalso; omega
          refine eO (eX xb cb hb db sR _) ?_
          dsimp only at hfam hnext ⊢
          refine lI (fA (F := [_, _, _, _, _, _]) hfam) ?_
          obtain ⟨Rf, hRf⟩ : ∃ R, (eG (fU cs')).eraseIdx ts = R := ⟨_, rfl⟩
          rw [hRf]
          dsimp only [List.cons_append, List.nil_append, yO]
          refine fG 0 rfl ?_
          rintro A4 c4 hv4 hok4
          subst hv4
          rcases hok4.form with ⟨-, h0, -⟩ | ⟨g4, rfl⟩
          · exfalso; omega
          have hfl := ND c'.names
          have hcf : (cs'.flatMap cX)[ts * 5 + 1]? = some (.int .i64 c'.fn) := Go.Vcg.fK (enc := cX) (s := 5) (fun _ => rfl) hcc 1 _ rfl
          have hcv : (cs'.flatMap cX)[ts * 5 + 4]? = some (.slice (some ⟨g4, 0, none⟩) c'.names.length c4) := Go.Vcg.fK (enc := cX) (s := 5) (fun _ => rfl) hcc 4 _ rfl
          repeat' (first | refine KO ?_ | (refine KV (b := by first | exact U1 j | ((with_reducible apply mG (vs := mR ⟨u9, ts, tb, true, fn⟩) 3); (iterate 5 exact rfl); exact hxc)) (c := ?_)) | refine KI ?_ | refine NB fun b => ?_ | fail)
          all_goals try (exfalso; first | fail)
          refine aC 17 _ (by kernel_rfl) rfl (List.Sublist.cons_cons _ (List.Sublist.cons_cons _ (List.Sublist.cons_cons _ (List.Sublist.cons_cons _ (List.Sublist.cons_cons _ (List.Sublist.cons_cons _ (List.Sublist.cons_cons _ (List.Sublist.cons_cons _ (List.nil_sublist _))))))))) ?_
          all_goals (first | refine D1 0 ?_ | fail)
          all_goals (first | refine DD 1 ?_ | fail)
          all_goals refine DD 2 ?_
          all_goals (try (refine D7 3 ?_; (repeat' (first | fail))))
          all_goals (first | refine D1 3 ?_ | fail)
          all_goals (first | refine DD 4 ?_ | fail)
          all_goals refine DD 5 ?_
          all_goals refine DD 6 ?_
          all_goals (first | refine D1 7 ?_ | fail)
          all_goals (first | refine DD 8 ?_ | fail)
          all_goals (first | refine D1 9 ?_ | fail)
          all_goals (first | refine D1 10 ?_ | fail)
          all_goals (first | refine DD 11 ?_ | fail)
          all_goals (first | (refine DV (k := 12) (b := by exact U1 ts) (c := ?_)) | fail)
          all_goals (first | refine DD 13 ?_ | fail)
          all_goals (first | (refine DV (k := 14) (b := by ((with_reducible apply cJ 3); (iterate 3 exact rfl); exact hcf)) (c := ?_)) | fail)
          all_goals (first | refine D1 15 ?_ | fail)
          all_goals refine DD 16 ?_
          all_goals refine D8 ?_
          by_cases hfe : fn = c'.fn
          · rw [if_neg (fun h => h.2 hfe)] at hnext
            repeat' (first | refine KK ?_ | ((refine KB ?_ ?_ <;> intro hp)) | fail)
            all_goals try (exfalso; contradiction)
            all_goals refine fT (aO _ (cR _)) ?_
            all_goals rw [← hRf]
            all_goals refine lH (fA (F := [_, _, _, _, _, _]) hfam).symm ?_
            all_goals dsimp only [List.cons_append, List.nil_append]
            all_goals exact bD (j + 1, cs') ⟨by dsimp only; omega, hnext.symm⟩ (by dsimp only; omega) rfl PU (by rw [eX]; exact (by repeat exact cR _))
          · rw [if_pos ⟨rfl, hfe⟩] at hnext
            repeat' (first | refine KK ?_ | fail)
            all_goals try (exfalso; first | fail)
            refine aC 16 _ (by kernel_rfl) rfl (List.Sublist.cons_cons _ (List.Sublist.cons _ (List.Sublist.cons_cons _ (List.Sublist.cons_cons _ (List.Sublist.cons_cons _ (List.Sublist.cons_cons _ (List.Sublist.cons_cons _ (List.Sublist.cons_cons _ (List.nil_sublist _))))))))) ?_
            all_goals (first | refine D1 0 ?_ | fail)
            all_goals (first | refine D1 1 ?_ | fail)
            all_goals (first | refine D1 2 ?_ | fail)
            all_goals (first | refine DD 3 ?_ | fail)
            all_goals (first | refine D1 4 ?_ | fail)
            all_goals (first | refine D1 5 ?_ | fail)
            all_goals (first | refine DD 6 ?_ | fail)
            all_goals (first | (refine DV (k := 7) (b := by exact U1 ts) (c := ?_)) | fail)
            all_goals (first | refine DD 8 ?_ | fail)
            all_goals (first | (refine DV (k := 9) (b := by ((with_reducible apply cJ 2); (iterate 3 exact rfl); exact hcv)) (c := ?_)) | fail)
            all_goals (first | refine D1 10 ?_ | fail)
            all_goals (first | refine D1 11 ?_ | fail)
            all_goals (first | refine DD 12 ?_ | fail)
            all_goals (first | (refine DV (k := 13) (b := by exact U1 tb) (c := ?_)) | fail)
            all_goals (first | refine DD 14 ?_ | fail)
            all_goals ((refine D3 15 ?_; refine D5 ?_; (((with_reducible apply jC 1); (iterate 7 exact rfl); (rw [hfl]; omega); (dsimp only [dG]))); refine D9 ?_))
            all_goals refine D8 ?_
            all_goals repeat' (first | refine KK ?_ | fail)
            all_goals refine fT (aO _ (cR _)) ?_
            all_goals refine fF (n' := (c'.names.set tb { d with held := true }).length) (xs' := (c'.names.set tb { d with held := true }).flatMap iU) 0 rfl (by simp) (lY (enc := iU) (s := 4) (fun _ => rfl) (vs := [.bool true]) (k := 2) (n := 1) (by omega) c'.names tb _ hd rfl) ?_
            all_goals dsimp only [dG]
            all_goals refine lH (L' := [_, _, _, _, _, _] ++ eG (fU (cs'.set ts ({ c' with names := c'.names.set tb { d with held := true } }, .slice (some ⟨g4, 0, none⟩) c'.names.length c4)))) (by rw [UQ, HJ, ← hRf]; exact sY (F := [_, _, _, _, _, _]) _ (by rw [HK, tJ]; exact htl)) ?_
            all_goals dsimp only [List.cons_append, List.nil_append]
            all_goals exact bD (j + 1, cs'.set ts ({ c' with names := c'.names.set tb { d with held := true } }, .slice (some ⟨g4, 0, none⟩) c'.names.length c4)) ⟨by dsimp only; omega, hnext.symm⟩ (by dsimp only; omega) rfl PU (by rw [eX]; dsimp only; rw [List.length_set, aDt (c2 := { c' with names := c'.names.set tb { d with held := true } }) hcc rfl]; exact (by repeat exact cR _))
      · have hj2 : j = sR.uses.length := by omega
        subst hj2
        rw [List.take_of_length_le (Nat.le_refl _)] at hcs'
        rcases hoks.form with ⟨-, h0, -⟩ | ⟨gs, rfl⟩
        · exfalso; omega
        have hnum := fun (w : World) (μ : Mem) (hμ : MOk μ w) (hO : Go.Vcg.Own μ (.inr ⟨.slice (some ⟨gs, 0, none⟩) cs'.length cas, 43, 5, cs'.length, cs'.flatMap cX⟩ :: eG (fU cs')) w) => FQ (scs cs') cs' (fU cs') gs cas w μ hμ rfl (tJ cs') (by rw [gQ]; omega) (fun y hy => by
          obtain ⟨k, hk⟩ := List.mem_iff_getElem?.1 hy
          have hkl := (List.getElem?_eq_some_iff.1 hk).1
          obtain ⟨c0, hc0⟩ : ∃ c0, sR.scopes[k]? = some c0 := ⟨_, List.getElem?_eq_getElem (by rw [← hlen', ← gQ]; exact hkl)⟩
          have h8 := congrArg List.length (hsm'.2 k c0 y hc0 hk).2.2
          rw [List.length_map, List.length_map] at h8
          rw [h8]
          exact hBR.2 c0 (List.mem_of_getElem? hc0)) (fun k c f hc hf => by
          rw [nL hc] at hf
          cases hf
          exact ⟨rfl, rfl⟩) hO
        refine eO (eX xb cb hb db sR _) ?_
        dsimp only
        refine pT (bW (.refl _) (bH (.refl _) (bH (.refl _) (bH (.refl _) (bH (.refl _) (cR _)))))) ?_
        repeat' (first | refine KO ?_ | (refine CF 32 ?_; (with_reducible apply kO (Ls := fun i : List Fm => .inr ⟨.slice (some ⟨gs, 0, none⟩) cs'.length cas, 43, 5, cs'.length, cs'.flatMap cX⟩ :: eG i) (Post := fun _ v i => v = .slice (some ⟨gs, 0, none⟩) cs'.length cas ∧ LS (scs cs') (fU cs') (scs cs').length i) 5); (iterate 3 exact rfl); ((with_reducible apply aQ); kernel_rfl; exact rfl); exact rfl; (exact fun w hμ hO => hnum w _ hμ hO); (rintro v3 μ3 i3 hle3 ⟨rfl, hFam⟩); (dsimp only [List.cons_append, List.nil_append])) | refine KI ?_ | fail)
        all_goals try (exfalso; first | fail)
        subst hfin
        all_goals rw [ZN hFam]
        all_goals refine fT (L' := FB xb cb hb db { sR with scopes := kR sR } ⟨.slice (some ⟨gs, 0, none⟩) cs'.length cas, .slice Au sR.uses.length cau, xS cs', ce, he, de, qc, qh, qd⟩) (by rw [eX]; dsimp only; rw [OQ, FT]; exact (by repeat first | exact cR _ | (refine bW ?_ ?_; focus ((refine eL.cells ?_; repeat first | exact cI | refine bR rfl ?_))) | (refine aAj ?_ ?_; focus (exact eL.refl _)))) ?_
        all_goals exact FC (Ls := fLs { sR with scopes := kR sR }) (Post := fun _ v i => NF sR { sR with scopes := kR sR } v i) _ (some (xb, cb, hb, db, _)) hcnt rfl (by repeat first | exact sU | refine pB (by exact bJ rfl) ?_) rfl (splitB_all _) rfl (fun _ _ => ⟨h4, rfl, ⟨by show scs (xS cs') = kR sR; rw [TA, hcs']; rfl, hR.ca, hR.hd, hR.dn⟩⟩)
end Go.Proofs.YtocidaibmadekaaGreatDoor
namespace Go.Proofs.YtocidaibmadekaaGreatDoor
open Go.RowKit Go.Vcg Go.MapKept
def FB1 (xb cb hb db : Nat) (s : FS) (q : FW) (L : List Bk) : List Bk := .inl ⟨xb, 61, 6, [(0, q.sv), (1, q.uv), (2, .int .i64 (s.funcs : Int)), (3, .map (some cb)), (4, .map (some hb)), (5, .map (some db))]⟩ ::
  .inr ⟨q.sv, 43, 5, q.cs.length, q.cs.flatMap cX⟩ :: .inr ⟨q.uv, 65, 12, s.uses.length, s.uses.flatMap mR⟩ :: .mp ⟨cb, q.ce, q.cc⟩ :: .mp ⟨hb, q.he, q.hc⟩ :: .mp ⟨db, q.de, q.dc⟩ :: (eG (fU q.cs) ++ L)
theorem UK {X : Ctx} {ops : Array Oper} {Q : Exit → Act → World → Prop} {rest : List Oper} {μ : Mem} {l : aI} {L : List Bk} {o : Oper} {d : Nat} (f : Nat) (t : T) {u : Value} (hd : o.dst = some d) (hn : Nat.blt d X.n = true) (hw : cV ops l o = some true) (hr : Ent Tryz.prog μ l L o 22 [.agg (aD t u).toArray].toArray)
    (hk : KR μ t.kids u) (hts : t.size ≤ 2000) (hf : t.size ≤ f) (hsh : Sh t) (hT : kX μ) (hop1 : t.op = 1) (hrt : rtB t 1 false = true)
    (h0 : ∀ μ', MLe μ μ' → 4096 < eN (dA f t).scopes → G Tryz.prog X ops Q rest μ' ((d, .tuple #[.pointer none, .int .i64 9]) :: l) L)
    (h1 : ∀ μ' xb cb hb db q, MLe μ μ' → ¬ 4096 < eN (dA f t).scopes → FR' q (nB f t) → G Tryz.prog X ops Q rest μ' ((d, .tuple #[.pointer (some ⟨xb, 0, none⟩), .int .i64 0]) :: l) (FB1 xb cb hb db (nB f t) q L)) : G Tryz.prog X ops Q (o :: rest) μ l L :=
  mP (LB := []) (Lr := L) (Ls := fLs (nB f t)) (Post := fun _ v i => NF (dA f t) (nB f t) v i) 0 hd hn hw hr rfl (fun w hμ hO => QL f t u w μ hμ hO hk hts hf hsh hT hop1 hrt) fun v μ' i hle hp => by
    cases i with
    | none =>
      obtain ⟨hn, rfl⟩ := hp
      exact h0 μ' hle hn
    | some i =>
      obtain ⟨hn, rfl, hR⟩ := hp
      exact h1 μ' i.1 i.2.1 i.2.2.1 i.2.2.2.1 i.2.2.2.2 hle hn hR
theorem UZ {μ : Mem} {xb cb hb db : Nat} {s : FS} {q : FW} {L : List Bk} (h : ∀ y ∈ FB1 xb cb hb db s q L, Bk.sh y μ) : ∀ y ∈ FB xb cb hb db s q, Bk.sh y μ := fun y hy => h y (by
  rw [eX] at hy
  unfold FB1
  rcases List.mem_cons.1 hy with rfl | hy
  · exact List.mem_cons_self ..
  refine List.mem_cons_of_mem _ ?_
  rcases List.mem_cons.1 hy with rfl | hy
  · exact List.mem_cons_self ..
  refine List.mem_cons_of_mem _ ?_
  rcases List.mem_cons.1 hy with rfl | hy
  · exact List.mem_cons_self ..
  refine List.mem_cons_of_mem _ ?_
  rcases List.mem_cons.1 hy with rfl | hy
  · exact List.mem_cons_self ..
  refine List.mem_cons_of_mem _ ?_
  rcases List.mem_cons.1 hy with rfl | hy
  · exact List.mem_cons_self ..
  refine List.mem_cons_of_mem _ ?_
  rcases List.mem_cons.1 hy with rfl | hy
  · exact List.mem_cons_self ..
  refine List.mem_cons_of_mem _ ?_
  exact List.mem_append_left _ hy)
def qW (f : Nat) (t : T) (μ : Mem) (v : Value) : Prop := (4096 < eN (dA f t).scopes ∧ v = .tuple #[.slice none 0 0, .int .i64 9]) ∨ (¬ 4096 < eN (dA f t).scopes ∧ ∃ A c ps, v = .tuple #[.slice A ps.length c, .int .i64 0] ∧ ScR μ A ps ∧ scs ps = kR (dA f t))
theorem yK (f : Nat) (t : T) (hts : t.size ≤ 2000) (hf : t.size ≤ f) (hq : dF qS t) : (nB f t).scopes.length ≤ 9000 ∧ NmB (nB f t) := by
  have hsz := aP t
  have hsl := eF t.kids false []
  rw [List.length_nil, Nat.zero_add] at hsl
  have hgo := mO (kind := 0) (at' := t.at') (w := ⟨-1, 0, false⟩) (l := bA t.kids false []) s00 (by omega)
  have hB1 : BS (gX t) (szs t.kids) := by
    rw [tW]
    refine ⟨?_, hgo.nm (fun c hc => by cases hc)⟩
    have h1 := hgo.wt
    have h2 : wtS s00 = 0 := rfl
    omega
  have hgR := kI (N := nbS f f) t.kids (fun k hk => yC f f k (hq.kid hk) (by
    have : k.size ≤ szs t.kids := T.bN (List.mem_map.2 ⟨k, hk, rfl⟩)
    omega)) ⟨0, 0, false⟩ (gX t)
  have hBR : BS (dA f t) 0 := BS.gr hB1 hgR
  have hs := xB (dA f t)
  refine ⟨?_, fun y hy => ?_⟩
  · show (kR (dA f t)).length ≤ 9000
    rw [← hs.1]
    have := hBR.sc.1
    omega
  · have hy : y ∈ kR (dA f t) := hy
    obtain ⟨k, hk⟩ := List.mem_iff_getElem?.1 hy
    have hkl := (List.getElem?_eq_some_iff.1 hk).1
    obtain ⟨c0, hc0⟩ : ∃ c0, (dA f t).scopes[k]? = some c0 := ⟨_, List.getElem?_eq_getElem (by rw [hs.1]; exact hkl)⟩
    have h8 := congrArg List.length (hs.2 k c0 y hc0 hk).2.2
    rw [List.length_map, List.length_map] at h8
    rw [h8]
    exact hBR.2 c0 (List.mem_of_getElem? hc0)
attribute [local irreducible] nB dA rtB
attribute [local irreducible] fM cM cH bA bY cK anI fU eG G GC GQ GA bX Calls IntKind.wrap Int.decLt Int.decLe
theorem EQ (f : Nat) (t : T) (u : Value) (w : World) (μ : Mem) (hμ : MOk μ w) (hk : KR μ t.kids u) (hts : t.size ≤ 2000) (hf : t.size ≤ f) (hsh : Sh t) (hT : kX μ) (hop1 : t.op = 1) (hrt : rtB t 1 false = true) :
    Calls Tryz.prog 9 #[.agg (aD t u).toArray] w fun e w' => ∃ v μ', e = .returned v ∧ oM w w' μ μ' ∧ qW f t μ' v := by
  have ou := hk.one
  obtain ⟨hb1, hb2⟩ := yK f t hts hf (qD t 1 false (dZ hrt) hsh)
  have hfs : (nB f t).scopes = kR (dA f t) := by unfold nB; rfl
  refine aA (args := [.agg (aD t u).toArray]) Tryz.func9 rfl Tryz.ntmps9 (by simp) hμ ?_
  repeat' (first | refine KO ?_ | (refine CF 22 ?_; (with_reducible apply UK f t); (iterate 3 exact rfl); ((with_reducible apply aQ); kernel_rfl; exact rfl); (exact hk); (exact hts); (exact hf); (exact hsh); (exact hT); (exact hop1); (exact hrt); (rintro μ1 hle1 hn1); rotate_left; (rintro μ1 xb cb hb db q hle1 hn1 hR); (unfold FB1)) | refine KI ?_ | refine NB fun b => ?_ | fail)
  all_goals try (exfalso; first | fail)
  · refine CR rfl (bJ rfl) (bJ rfl) (fun μ' hle2 hL => .inr ⟨hn1, ?_⟩)
    obtain ⟨A, c, e, hS⟩ := IT hR (UZ (L := _) hL) hb1 hb2
    exact ⟨A, c, q.cs, by rw [e], hS, by rw [hR.sc, hfs]⟩
  · exact CR rfl (bJ rfl) (bJ rfl) (fun μ' _ _ => .inl ⟨hn1, rfl⟩)
end Go.Proofs.YtocidaibmadekaaGreatDoor
namespace Go.Proofs.YtocidaibmadekaaGreatDoor
open Go.RowKit Go.Vcg Go.MapKept
theorem xY (l : List Sc) (b : Int) : ∀ (f : Nat) (a : Int), eW l f a b ≤ f
  | 0, _ => Nat.le_refl _
  | f + 1, a => by
    unfold eW
    split
    · omega
    · cases l[a.toNat]? with
      | none => dsimp only; omega
      | some c =>
        have := xY l b f c.up
        dsimp only
        split <;> omega
theorem GY {l : List Sc} {b : Nat} {a : Int} {c : Sc} (h0 : 0 ≤ a) (hc : l[a.toNat]? = some c) (hlt : c.up < a) (hne : a ≠ b) (h : lA l b c.up) : eW l (a.toNat + 1) a b = (if 0 < dP c.names then 1 else 0) + eW l (c.up.toNat + 1) c.up b := by
  have h1 := h.uI
  rw [eW, if_neg hne, hc]
  dsimp only
  rw [sA h a.toNat (c.up.toNat + 1) (by omega) (by omega)]
attribute [local irreducible] eW dP
attribute [local irreducible] fM cM cH bA bY cK anI fU eG G GC GQ GA bX Calls IntKind.wrap Int.decLt Int.decLe
theorem IQ (w : World) (μ : Mem) (hμ : MOk μ w) (xb : Nat) (A : Option Addr) (c : Nat) (ps : List (Sc × Value)) (v1 v2 v3 v4 v5 : Value) (hm : cQ μ ⟨xb, 0, none⟩ [.slice A ps.length c, v1, v2, v3, v4, v5]) (hps : ScR μ A ps) (a : Int) (bb : Nat) (hch : lA (scs ps) bb a) (hal : a < 9000) :
    Calls Tryz.prog 23 #[.pointer (some ⟨xb, 0, none⟩), .int .i64 a, .int .i64 (bb : Int)] w fun e w' => e = .returned (.int .i64 ((eW (scs ps) (a.toNat + 1) a bb : Nat) : Int)) ∧ Below w.heap.size w w' := by
  have hm0 : iF μ ⟨xb, 0 + 0, none⟩ (.slice A ps.length c) := by
    have h := hm 0 _ rfl
    rw [zK] at h
    exact h
  obtain ⟨hS, hl, hall⟩ := hps
  generalize hT : eW (scs ps) (a.toNat + 1) a bb = tot
  have hTl := xY (scs ps) bb (a.toNat + 1) a
  rw [hT] at hTl
  refine aA (args := [.pointer (some ⟨xb, 0, none⟩), .int .i64 a, .int .i64 (bb : Int)]) Tryz.func23 rfl Tryz.ntmps23 (by simp) hμ ?_
  repeat' (first | refine KK ?_ | fail)
  refine aX (ι := Int × Nat) (fun j => lA (scs ps) bb j.1 ∧ j.2 + eW (scs ps) (j.1.toNat + 1) j.1 bb = tot) (fun j => j.1.toNat) (fun _ => μ) (fun j => [(0, .pointer (some ⟨xb, 0, none⟩)), (1, .int .i64 j.1), (2, .int .i64 (bb : Int)), (7, .int .i64 (j.2 : Int))]) (fun _ => []) (a, 0) ⟨hch, by dsimp only; omega⟩ (fun a w hs => J5 hs) ?_
  rintro ⟨a', n⟩ ⟨hch', hsum⟩
  dsimp only at hch' hsum ⊢
  by_cases hab : a' = (bb : Int)
  · subst hab
    have h0 : eW (scs ps) ((bb : Int).toNat + 1) (bb : Int) (bb : Int) = 0 := by rw [eW, if_pos rfl]
    rw [h0, Nat.add_zero] at hsum
    subst hsum
    repeat' (first | refine KK ?_ | fail)
    all_goals try (exfalso; first | fail)
    all_goals exact aB rfl rfl rfl
  · cases hch' with
    | here => exact absurd rfl hab
    | @up _ c9 h0 hc hlt hne h =>
      have hup := GY h0 hc hlt hne h
      rw [hup] at hsum
      have h1 := h.uI
      obtain ⟨k, rfl⟩ : ∃ k : Nat, a' = k := ⟨a'.toNat, by omega⟩
      rw [Int.toNat_natCast] at hc
      have hkl : k < ps.length := by
        have := (List.getElem?_eq_some_iff.1 hc).1
        rw [gQ] at this
        exact this
      obtain ⟨ad, y, rfl, hy, hm2⟩ := hS.get hkl
      obtain ⟨cy, v⟩ := y
      obtain rfl : cy = c9 := by
        have h9 := gR hy
        rw [hc] at h9
        cases h9
        rfl
      have hbv := hall _ (List.mem_of_getElem? hy)
      dsimp only at hbv hm2
      have hsp := fun (w : World) (μc : Mem) (hw : MOk μc w) (hle : MLe μ μc) => pE w μc hw cy v (hbv.mono hle)
      obtain ⟨A2, c2, rfl, hS2, hl2⟩ := hbv
      by_cases hh : 0 < dP cy.names
      · rw [if_pos hh] at hsum
        repeat' (first | refine KO ?_ | ((with_reducible apply F1 24); exact rfl; exact EN; exact fun w μc hw hse => hsp w μc hw hse.le) | (refine KV (b := by first | exact U1 k | ((with_reducible apply eC); exact rfl; exact rfl; exact hm0) | exact U4 hm2) (c := ?_)) | refine KI ?_ | fail)
        all_goals try (exfalso; first | fail)
        all_goals exact J2 (cy.up, n + 1) ⟨h, by dsimp only; omega⟩ (by dsimp only; omega)
      · rw [if_neg hh] at hsum
        repeat' (first | refine KO ?_ | ((with_reducible apply F1 24); exact rfl; exact EN; exact fun w μc hw hse => hsp w μc hw hse.le) | (refine KV (b := by first | exact U1 k | ((with_reducible apply eC); exact rfl; exact rfl; exact hm0) | exact U4 hm2) (c := ?_)) | refine KI ?_ | fail)
        all_goals try (exfalso; first | fail)
        all_goals exact J2 (cy.up, n) ⟨h, by dsimp only; omega⟩ (by dsimp only; omega)
end Go.Proofs.YtocidaibmadekaaGreatDoor
