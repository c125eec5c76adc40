/- Package ir: the check of a function and of those it makes, the document's side. -/
import Derived.Test.YtoclmkdfcafhfaaGreatDoorZau
import Derived.Test.YtoclmkdfcafhfaaGreatDoorZav
import Derived.Lib.SlTrimSet
set_option maxRecDepth 20000
set_option maxHeartbeats 2000000
namespace Go.Proofs.YtoclmkdfcafhfaaGreatDoor
section
open Go.RowKit Go.Vcg Ou
section
variable {P : Program} {μ μ0 : Mem} {l : aF} {L Lr : List Bk} {w : World} {n m : Nat} {M : List Nat}
theorem tW {fn : Func} {r : ResultVar} {Ls : CIx × Nat → List Bk} {c : Iq.CkS} {b b' : Bool} (hM : ∀ D, M.count D ≤ 1) (hr : fn.results = #[r]) (h : RV P μ l L r (.bool b')) (i : CIx × Nat) (hL : splitB 4 L = some (Ls i, Lr)) (hb : b' = b) (hi : CkI μ c i.1) (hx : b = true → CkB m c ∧ Iq.Nx m c) :
    GQ ⟨w, μ0, M, n⟩ (bodyPost P fn (fun e w' => ∃ v μ' i, e = .returned v ∧ fH M w w' μ0 (Ls i) μ' ∧ jD m c b μ' v i.1)) .ret μ l L :=
  aS (Post := fun μ v i => jD m c b μ v i.1) 4 i hM hr h hL rfl (fun μ' hle => ⟨⟨by rw [hb], hi.mono hle⟩, hx⟩)
theorem aGo {X : Ctx} {Q : Exit → Act → World → Prop} {c : Code} {x x' : Bk} (i : Nat) (hi : cO L i = some x) (hle : eV x' x) (h : GC P X c Q μ l (dY L i x')) : GC P X c Q μ l L := fun a w hs => h a w (hs.sel (fun _ _ h => h) (rT hle hi))
end
theorem aDa {μ : Mem} {c : Iq.CkS} {isl : List Value} {q v : Value} {x y : Bk} {f n : Nat} (h : CkI μ c (isl, q, x)) (hn : Iq.Nx n c) (hm : c.met.getD f false = false) (hQ : Qu 3 v y [.int .i64 (f : Int)]) : CkI μ (Iq.qH f c) (isl.set f (.slice none 0 0), v, y) :=
  ⟨hQ, by show (isl.set f (.slice none 0 0)).length = c.slots.length; rw [List.length_set]; exact h.len, fun j u ys h1 h2 => by
    dsimp only at h1
    have h2' : c.slots[j]? = some ys := h2
    rw [List.getElem?_set] at h1
    by_cases hj : f = j
    · rw [if_pos hj] at h1
      split at h1
      · cases h1
        have h3 := hn.2 f hm
        rw [List.getD_eq_getElem?_getD, hj, h2'] at h3
        have h4 : ys = [] := h3
        subst h4
        exact bK.nil _
      · cases h1
    · rw [if_neg hj] at h1
      exact h.ints j u ys h1 h2'⟩
attribute [local irreducible] Iq.dI Iq.gT aH G GC GQ GA bO Calls IntKind.wrap Int.decLt Int.decLe
theorem OB (ps : List (F × Value)) (A : Option Addr) (cc n fb gm gs f f0 : Nat) (c : Iq.CkS) (i : CIx) (w : World) (μ : Mem) (hμ : MOk μ w) (hO : Go.Vcg.Own μ (ckR fb gm gs n (.slice A n cc) f0 c i) w) (hmq : fY μ) (hU : UOk μ A n ps) (hall : ∀ p ∈ ps, gU qN p.1.body) (hf : f < n) (hi : CkI μ c i) (hB : CkB n c) (hnx : Iq.Nx n c) (hmt : c.met.getD f false = false) :
    Calls Tryz.prog 50 #[.pointer (some ⟨fb, 0, none⟩), .int .i64 (f : Int), .slice none 0 0] w fun e w' => ∃ (v : Value) (μ' : Mem) (i' : CIx × Nat), e = .returned v ∧ fH (bS (ckR fb gm gs n (.slice A n cc) f0 c i)) w w' μ (ckR fb gm gs n (.slice A n cc) i'.2 (Iq.nD aH (bM ps) (ps.map fun p => p.1.body) f c).1 i'.1) μ' ∧ jD n (Iq.nD aH (bM ps) (ps.map fun p => p.1.body) f c).1 (Iq.nD aH (bM ps) (ps.map fun p => p.1.body) f c).2 μ' v i'.1 := by
  have hcnt := bE hO.diff
  have hpl : ps.length = n := hU.fs.1.1
  have hfl : (bM ps).length = n := by rw [List.length_map]; exact hpl
  have hbl : (ps.map fun p => p.1.body).length = n := by rw [List.length_map]; exact hpl
  have hn1 := hU.n1
  have hloc := FX hU
  have hml := hB.met
  obtain ⟨adU, y0, rfl, -, -⟩ := hU.fs.1.get hf
  obtain ⟨isl, iq, ix⟩ := i
  have hil : isl.length = n := hi.len.trans hB.sl
  have hrl : (c.met.map Value.bool).length = n := by rw [List.length_map]; exact hml
  have hcb := Iq.aA7 hB.ck hf hmt
  have hcm := Iq.MH (by rw [hml]; exact hf) hmt
  rw [hml] at hcm
  have hB0 : CkB n (Iq.qH f c) := ⟨hcb.1, hB.sl, by omega⟩
  have hnx0 := Iq.aA6 hnx hf
  have hiq := hi.q.one
  dsimp only at hiq
  generalize hR : Iq.nD aH (bM ps) (ps.map fun p => p.1.body) f c = R
  have hR0 : Iq.gT aH (bM ps) (ps.map fun p => p.1.body) (n + 1) (Iq.qH f c) = R := by rw [← hR, ← hbl]; rfl
  clear hR
  refine aQ (args := [.pointer (some ⟨fb, 0, none⟩), .int .i64 (f : Int), .slice none 0 0]) Tryz.func50 rfl Tryz.ntmps50 (by simp) hμ hO ?_
  repeat' (first | refine KO ?_ | ((with_reducible apply gG 1); (iterate 7 exact rfl); (simp; omega); (dsimp only [dY])) | ((with_reducible apply gG 2); (iterate 7 exact rfl); (simp; omega); (dsimp only [dY])) | (refine KV (b := by exact U1 f) (c := ?_)) | refine KI ?_ | refine NB fun b => ?_ | fail)
  refine aX (ι := Iq.CkS × (CIx × Nat) × Mem × Nat) (fun q => CkI q.2.2.1 q.1 q.2.1.1 ∧ CkB n q.1 ∧ Iq.Nx n q.1 ∧ MLe μ q.2.2.1 ∧ Iq.qF q.1 ≤ q.2.2.2 ∧ Iq.gT aH (bM ps) (ps.map fun p => p.1.body) q.2.2.2 q.1 = R) (fun q => Iq.qF q.1) (fun q => q.2.2.1) (fun _ => [(0, .pointer (some ⟨fb, 0, none⟩))]) (fun q => ckR fb gm gs n (.slice (some adU) n cc) q.2.1.2 q.1 q.2.1.1) (Iq.qH f c, ((isl.set f (.slice none 0 0), .slice (some ⟨b, 0, none⟩) 1 1, .inl ⟨b, 3, 1, idx 0 [.int .i64 (f : Int)]⟩), f0), μ, n + 1) ⟨aDa hi hnx hmt (Qu.at b 0 1 1 [.int .i64 (f : Int)] (by simp) (by omega) (by decide)), hB0, hnx0, MLe.refl _, by dsimp only; omega, hR0⟩ (fun a w hs => (St.SB (i := 3) (xs' := isl.set f (.slice none 0 0)) (St.SB (i := 2) (xs' := (Iq.qH f c).met.map Value.bool) hs rfl rfl (vC (by omega))) rfl rfl (wM (by omega))).sel PU PS) ?_
  rintro ⟨ck, ⟨ik, fk⟩, μk, g⟩ ⟨hik, hBk, hnk, hlek, hmk, hRk⟩
  dsimp only at hik hBk hnk hlek hmk hRk ⊢
  obtain ⟨isk, qk, xk⟩ := ik
  have hqk := hik.q
  dsimp only at hqk
  have hmlk := hBk.met
  have hslk := hBk.sl
  have hilk : isk.length = n := hik.len.trans hslk
  cases hnx1 : ck.next with
  | nil =>
    obtain ⟨QA5, QC5, rfl, -⟩ := hqk.form
    have hl0 : (ck.next.flatMap aW).length = 0 := by rw [hnx1]; rfl
    rw [Iq.CJ _ _ _ hnx1] at hRk
    subst hRk
    repeat' (first | refine KK ?_ | fail)
    all_goals (refine aM (l' := [(6, .bool true)]) (L' := ckR fb gm gs n (.slice (some adU) n cc) fk ck (isk, .slice QA5 (ck.next.flatMap aW).length QC5, xk)) PU PS ?_; exact tW hcnt rfl (aB rfl) ((isk, .slice QA5 (ck.next.flatMap aW).length QC5, xk), fk) rfl rfl hik (fun _ => ⟨hBk, hnk⟩))
  | cons x r =>
    have hx := hnk.1 x (by rw [hnx1]; exact List.mem_cons_self ..)
    obtain ⟨k, rfl⟩ : ∃ k : Nat, x = k := ⟨x.toNat, by omega⟩
    have hkn : k < n := by omega
    have hq2 : Qu 3 qk xk (Value.int .i64 (k : Int) :: r.flatMap aW) := by rw [hnx1] at hqk; exact hqk
    obtain ⟨QA3, QC3, x3, hle3, hq3, hpop⟩ := hq2.pop
    obtain ⟨qg, qoff, qc, rfl, hhd⟩ := hq2.hd
    have hi3 : CkI μk { ck with next := r } (isk, .slice QA3 (r.flatMap aW).length QC3, x3) := ⟨hq3, hik.len, hik.ints⟩
    have hB3 := MA hBk hnx1
    have hm3 := CN hnx1
    obtain ⟨g1, rfl⟩ : ∃ g1, g = g1 + 1 := ⟨g - 1, by omega⟩
    obtain ⟨ad2, y, e2, hy, hmU⟩ := (hU.mono hlek).fs.1.get hkn
    cases e2
    have hyb := (hU.mono hlek).fs.2.2 y (List.mem_of_getElem? hy)
    have hyo := hyb.1.one
    rw [Iq.xM _ _ _ hnx1, Int.toNat_natCast, UC hy] at hRk
    have hmB : gI μk ((adU.add (k * 10)).add 4) (aR y.1.body y.2) := fun j v hj => by
      have h1 : (dS y.1 y.2)[4 + j]? = some v := by
        show ([Value.string y.1.name, .int .i64 y.1.kind, .int .i64 y.1.len, .int .i64 y.1.loc] ++ aR y.1.body y.2)[4 + j]? = some v
        rw [List.getElem?_append_right (by simp)]
        simpa using hj
      have h2 := hmU (4 + j) v h1
      rw [jB]
      rw [jB] at h2 ⊢
      exact h2
    repeat' (first | ((with_reducible show GC _ _ (Code.seq (Code.region 7 _ _) _) _ _ _ _); (apply aY)) | refine KO ?_ | (refine KV (b := by first | exact U1 0 | ((apply hhd 3); (iterate 3 exact rfl)) | ((apply hpop); (iterate 4 exact rfl))) (c := ?_)) | refine KI ?_ | fail)
    all_goals try (exfalso; omega)
    refine gcs (aGo 3 rfl hle3 ?_)
    dsimp only [dY]
    refine bY (l' := [(0, .pointer (some ⟨fb, 0, none⟩))]) (L' := ckR fb gm gs n (.slice (some adU) n cc) k { ck with next := r } (isk, .slice QA3 (r.flatMap aW).length QC3, x3)) PU PS ?_
    refine tU ?_
    refine bN 14 ([.inl ⟨fb, 89, 5, [(0, (.slice (some adU) n cc)), (1, .int .i64 (k : Int))]⟩]) (by kernel_rfl) rfl PS ?_
    all_goals (first | refine D1 0 ?_ | fail)
    all_goals (first | refine D1 1 ?_ | fail)
    all_goals (first | refine D1 2 ?_ | fail)
    all_goals (first | refine D1 3 ?_ | fail)
    all_goals (first | refine DD 4 ?_ | fail)
    all_goals (first | refine D1 5 ?_ | fail)
    all_goals (first | refine D1 6 ?_ | fail)
    all_goals (first | refine D1 7 ?_ | fail)
    all_goals (first | refine DD 8 ?_ | fail)
    all_goals (first | (refine DV (k := 9) (b := by exact U1 k) (c := ?_)) | fail)
    all_goals (first | refine DD 10 ?_ | fail)
    all_goals (first | (refine DV (k := 11) (b := by exact U4 hmB) (c := ?_)) | fail)
    all_goals ((refine D3 12 ?_; refine D5 ?_; refine NB fun b => ?_; refine D9S ?_))
    all_goals ((refine D3 13 ?_; refine D5 ?_; refine Y0 ?_; refine D9S ?_))
    all_goals refine D8 ?_
    repeat' (first | ((with_reducible show GC _ _ (Code.seq (Code.region 8 _ _) _) _ _ _ _); (apply aY)) | refine KK ?_ | fail)
    obtain ⟨bb, hbb⟩ : ∃ x, x = b := ⟨_, rfl⟩
    rw [← hbb]
    clear hbb
    refine gcs (bY (l' := [(0, .pointer (some ⟨fb, 0, none⟩)), (7, .pointer (some ⟨bb, 0, none⟩))]) (L' := ckR fb gm gs n (.slice (some adU) n cc) k { ck with next := r } (isk, .slice QA3 (r.flatMap aW).length QC3, x3) ++ [.inl ⟨bb, 42, 6, idx 0 (aR y.1.body y.2)⟩]) PU PS ?_)
    dsimp only [List.cons_append, List.nil_append]
    refine tU ?_
    cases hS : Iq.isS y.1.body.op
    · rw [hS, if_neg (by simp)] at hRk
      subst hRk
      refine bN 21 ([.inl ⟨fb, 89, 5, [(0, (.slice (some adU) n cc)), (1, .int .i64 (k : Int)), (3, .slice (some ⟨gs, 0, none⟩) n n)]⟩, .inl ⟨bb, 42, 6, idx 0 (aR y.1.body y.2)⟩]) (by kernel_rfl) rfl PS ?_
      all_goals (first | refine D1 0 ?_ | fail)
      all_goals (first | refine DD 1 ?_ | fail)
      all_goals ((refine D3 2 ?_; refine D5 ?_; (first | ((with_reducible apply F1 77); exact rfl; exact EN; (exact fun w μc hw hse => xE _ _ hS w μc hw)) | fail); refine D9S ?_))
      all_goals refine DD 3 ?_
      all_goals refine DD 4 ?_
      all_goals (try (refine D7 5 ?_; (repeat' (refine KO ?_))))
      all_goals refine DD 5 ?_
      all_goals (first | refine D1 6 ?_ | fail)
      all_goals refine DD 7 ?_
      all_goals refine DD 8 ?_
      all_goals (first | refine D1 9 ?_ | fail)
      all_goals (first | refine D1 10 ?_ | fail)
      all_goals refine DD 11 ?_
      all_goals refine DD 12 ?_
      all_goals (first | refine D1 13 ?_ | fail)
      all_goals (first | refine D1 14 ?_ | fail)
      all_goals (first | refine D1 15 ?_ | fail)
      all_goals (refine D3 16 (D6 ?_))
      all_goals refine DD 17 ?_
      all_goals (refine D3 18 (D6 ?_))
      all_goals refine DD 19 ?_
      all_goals refine DD 20 ?_
      all_goals refine D8 ?_
      all_goals repeat' (first | refine KK ?_ | fail)
      all_goals (refine aM (l' := [(6, .bool false)]) (L' := ckR fb gm gs n (.slice (some adU) n cc) k { ck with next := r } (isk, .slice QA3 (r.flatMap aW).length QC3, x3)) PU PS ?_; exact tW hcnt rfl (aB rfl) ((isk, .slice QA3 (r.flatMap aW).length QC3, x3), k) rfl rfl hi3 (fun h => by cases h))
    rw [hS, if_pos rfl] at hRk
    have hgs : isk[k]? = some isk[k] := List.getElem?_eq_getElem (by omega)
    have hgc : ck.slots[k]? = some ck.slots[k] := List.getElem?_eq_getElem (by omega)
    have hgi := hik.ints k _ _ hgs hgc
    have hgd : ck.slots.getD k [] = ck.slots[k] := by rw [List.getD_eq_getElem?_getD, hgc]; rfl
    have hpo := Iq.MB hBk.ck k
    rw [hgd] at hRk hpo
    generalize isk[k] = v0 at hgs hgi
    obtain ⟨A5, c5, rfl, hS5⟩ := hgi
    have hgs1 : isk[k * 1]? = some (.slice A5 ck.slots[k].length c5) := by rw [Nat.mul_one]; exact hgs
    have hPk : PlB ⟨ck.slots[k], [], [], false⟩ 1 { ck with next := r } := ⟨hpo, by simp, by simp⟩
    have hz := wG y.1.body (hall y (List.mem_of_getElem? hy)) hyb.2
    have hnd := fun (w2 : World) (hw2 : MOk μk w2) (hO2 : Go.Vcg.Own μk (ckR fb gm gs n (.slice (some adU) n cc) k { ck with next := r } (isk, .slice QA3 (r.flatMap aW).length QC3, x3)) w2) => NV y.1.body.size ps (some adU) cc n fb gm gs y.1.body y.2 k ⟨ck.slots[k], [], [], false⟩ (.slice A5 ck.slots[k].length c5) (.slice none 0 0) (.slice none 0 0) 1 { ck with next := r } (isk, .slice QA3 (r.flatMap aW).length QC3, x3) w2 μk hw2 hO2 (hmq.mono hlek) (hU.mono hlek) hkn hyb.1 (hall y (List.mem_of_getElem? hy)) (Nat.le_refl _) hyb.2 ⟨⟨A5, c5, rfl, hS5⟩, bK.nil _, bK.nil _⟩ hi3 hB3 hPk (by omega) (by omega)
    have hckb := fun (c' : Iq.CkS) (b : Bool) => sZ (row := aH) (fs := bM ps) (t := y.1.body) (f := k) (p := ⟨ck.slots[k], [], [], false⟩) (deep := 1) (c' := c') (b := b) hfl hn1 hloc hB3 hPk hz
    have hlen := Iq.oY (row := aH) (fs := bM ps) y.1.body k ⟨ck.slots[k], [], [], false⟩ 1 { ck with next := r } (hmlk.trans hfl.symm)
    have hnxt := Iq.FT (row := aH) (fs := bM ps) y.1.body k ⟨ck.slots[k], [], [], false⟩ 1 { ck with next := r } (hmlk.trans hfl.symm) ⟨fun z hz => by rw [hfl]; exact hnk.1 z (by rw [hnx1]; exact List.mem_cons_of_mem _ hz), hnk.2⟩
    rw [hfl] at hnxt
    generalize Iq.dI aH (bM ps) k y.1.body ⟨ck.slots[k], [], [], false⟩ 1 { ck with next := r } = S2 at hnd hRk hckb hlen hnxt
    obtain ⟨s2, b2⟩ := S2
    try dsimp only at hnd hRk hlen hnxt
    cases b2
    · rw [if_neg (by simp)] at hRk
      subst hRk
      refine bN 21 ([.inl ⟨fb, 89, 5, [(0, (.slice (some adU) n cc)), (1, .int .i64 (k : Int)), (3, .slice (some ⟨gs, 0, none⟩) n n)]⟩, .inl ⟨bb, 42, 6, idx 0 (aR y.1.body y.2)⟩]) (by kernel_rfl) rfl PS ?_
      all_goals (first | refine D1 0 ?_ | fail)
      all_goals (first | refine DD 1 ?_ | fail)
      all_goals ((refine D3 2 ?_; refine D5 ?_; (((with_reducible apply F1 77); exact rfl; exact EN; (exact fun w μc hw hse => xE _ _ hS w μc hw))); refine D9S ?_))
      all_goals refine DD 3 ?_
      all_goals refine DD 4 ?_
      all_goals (try (refine D7 5 ?_; (repeat' (refine KO ?_))))
      all_goals refine DD 5 ?_
      all_goals (first | refine DD 6 ?_ | fail)
      all_goals refine DD 7 ?_
      all_goals refine DD 8 ?_
      all_goals (first | refine D1 9 ?_ | fail)
      all_goals (first | refine DD 10 ?_ | fail)
      all_goals refine DD 11 ?_
      all_goals refine DD 12 ?_
      all_goals (first | refine D1 13 ?_ | fail)
      all_goals (first | refine DD 14 ?_ | fail)
      all_goals (first | (refine DV (k := 15) (b := by exact U1 k) (c := ?_)) | fail)
      all_goals ((refine D3 16 ?_; (with_reducible apply bJ); (iterate 4 exact rfl); (exact UR2 hgs1)))
      all_goals refine DD 17 ?_
      all_goals ((refine D3 18 ?_; refine D5 ?_; (((with_reducible apply aA (Ls := fun i2 => ckR fb gm gs n (.slice (some adU) n cc) k s2 i2) (Post := fW s2 false) 4); (iterate 3 exact rfl); ((with_reducible apply cC); kernel_rfl; (iterate 4 exact rfl)); exact rfl; (exact hnd); (rintro v6 μ7 i2 hle7 ⟨rfl, hi2⟩); (dsimp only [List.cons_append, List.nil_append]))); refine D9S ?_))
      all_goals refine DD 19 ?_
      all_goals refine DD 20 ?_
      all_goals refine D8 ?_
      all_goals repeat' (first | refine KK ?_ | fail)
      all_goals (refine aM (l' := [(6, .bool false)]) (L' := ckR fb gm gs n (.slice (some adU) n cc) k s2 i2) PU PS ?_; exact tW hcnt rfl (aB rfl) (i2, k) rfl rfl hi2 (fun h => by cases h))
    · rw [if_pos rfl] at hRk
      obtain ⟨hB2, hcm2⟩ := hckb s2 true rfl rfl
      refine bN 21 ([.inl ⟨fb, 89, 5, [(0, (.slice (some adU) n cc)), (1, .int .i64 (k : Int)), (3, .slice (some ⟨gs, 0, none⟩) n n)]⟩, .inl ⟨bb, 42, 6, idx 0 (aR y.1.body y.2)⟩]) (by kernel_rfl) rfl PS ?_
      all_goals (first | refine D1 0 ?_ | fail)
      all_goals (first | refine DD 1 ?_ | fail)
      all_goals ((refine D3 2 ?_; refine D5 ?_; (((with_reducible apply F1 77); exact rfl; exact EN; (exact fun w μc hw hse => xE _ _ hS w μc hw))); refine D9S ?_))
      all_goals refine DD 3 ?_
      all_goals refine DD 4 ?_
      all_goals (try (refine D7 5 ?_; (repeat' (refine KO ?_))))
      all_goals refine DD 5 ?_
      all_goals (first | refine DD 6 ?_ | fail)
      all_goals refine DD 7 ?_
      all_goals refine DD 8 ?_
      all_goals (first | refine D1 9 ?_ | fail)
      all_goals (first | refine DD 10 ?_ | fail)
      all_goals refine DD 11 ?_
      all_goals refine DD 12 ?_
      all_goals (first | refine D1 13 ?_ | fail)
      all_goals (first | refine DD 14 ?_ | fail)
      all_goals (first | (refine DV (k := 15) (b := by exact U1 k) (c := ?_)) | fail)
      all_goals ((refine D3 16 ?_; (with_reducible apply bJ); (iterate 4 exact rfl); (exact UR2 hgs1)))
      all_goals refine DD 17 ?_
      all_goals ((refine D3 18 ?_; refine D5 ?_; (((with_reducible apply aA (Ls := fun i2 => ckR fb gm gs n (.slice (some adU) n cc) k s2 i2) (Post := fW s2 true) 4); (iterate 3 exact rfl); ((with_reducible apply cC); kernel_rfl; (iterate 4 exact rfl)); exact rfl; (exact hnd); (rintro v6 μ7 i2 hle7 ⟨rfl, hi2⟩); (dsimp only [List.cons_append, List.nil_append]))); refine D9S ?_))
      all_goals refine DD 19 ?_
      all_goals refine DD 20 ?_
      all_goals refine D8 ?_
      all_goals repeat' (first | refine KK ?_ | fail)
      all_goals exact J2 (s2, (i2, k), μ7, g1) ⟨hi2, hB2, hnxt, hlek.trans hle7, by have := hlen.2.2; dsimp only; omega, hRk⟩ (by have := hlen.2.2; dsimp only; omega)
end
section
open Go.RowKit Go.Vcg Ou
attribute [local irreducible] Iq.dI Iq.gT Iq.nD aH G GC GQ GA bO Calls IntKind.wrap Int.decLt Int.decLe
theorem IA (ps : List (F × Value)) (A : Option Addr) (cc n : Nat) (w : World) (μ : Mem) (hμ : MOk μ w) (hF : Fs μ A n ps) (hmq : fY μ) (hall : ∀ p ∈ ps, gU qN p.1.body) : Calls Tryz.prog 20 #[.agg #[.slice A n cc]] w fun e w' => e = .returned (.bool (Iq.bV aH (ps.map fun p => fnP p.1))) ∧ Below w.heap.size w w' := by
  have hpl : ps.length = n := hF.1.1
  have hnb := hF.2.1
  generalize hR : Iq.bV aH (ps.map fun p => fnP p.1) = R
  refine aC (args := [.agg #[.slice A n cc]]) Tryz.func20 rfl Tryz.ntmps20 (by simp) hμ ?_
  repeat' (first | ((with_reducible show GC _ _ (Code.seq (Code.seq (Code.region 1 _ _) _) _) _ _ _ _); (apply aY)) | refine KK ?_ | refine NB fun b => ?_ | fail)
  obtain ⟨bu, hbu⟩ : ∃ x, x = b := ⟨_, rfl⟩
  rw [← hbu]
  clear hbu
  refine gcs (bY (l' := [(1, .pointer (some ⟨bu, 0, none⟩))]) (L' := [.inl ⟨bu, 27, 1, idx 0 [.slice A n cc]⟩]) PU PS ?_)
  refine cM (ι := Unit) (fun _ => (1 ≤ n ∧ n ≤ 4096) ∧ ∀ p0, ps[0]? = some p0 → (0 ≤ p0.1.kind ∧ p0.1.kind ≤ 255) → Iq.KZ p0.1.kind = false) (fun _ => μ) (fun _ => [(1, .pointer (some ⟨bu, 0, none⟩))]) (fun _ => [.inl ⟨bu, 27, 1, idx 0 [.slice A n cc]⟩]) ?_ ?_
  · by_cases hn : 1 ≤ n ∧ n ≤ 4096
    rotate_left
    · have hin : Iq.inI (n : Int) 1 4096 = false := by rw [kB, decide_eq_false_iff_not]; omega
      have hF0 : false = R := by rw [← hR]; symm; exact BY (by rw [hpl]; exact hin)
      by_cases hn0 : n < 1
      all_goals repeat' (first | refine KO ?_ | refine KI ?_ | refine KG ?_ | fail)
      all_goals exact aD rfl rfl (congrArg _ hF0)
    have hin : Iq.inI (n : Int) 1 4096 = true := by rw [kB, decide_eq_true_iff]; omega
    obtain ⟨ad, y0, rfl, hy0, hm0⟩ := hF.1.get (show 0 < n by omega)
    by_cases hk0 : 0 ≤ y0.1.kind ∧ y0.1.kind ≤ 255
    · by_cases hg : y0.1.kind / 4 % 2 = 1
      · have hF0 : false = R := by rw [← hR]; symm; exact BZ hy0 (decide_eq_true hg)
        have hg2 : y0.1.kind / 4 % 2 ≠ 0 := by omega
        repeat' (first | refine KO ?_ | (refine KV (b := by first | exact U1 0 | exact U4 hm0 | ((with_reducible apply MR); exact rfl; (exact hk0)) | ((with_reducible apply vW); exact rfl; exact rfl; (decide); (exact Int.tmod_eq_emod_of_nonneg (by omega)))) (c := ?_)) | refine KI ?_ | refine KG ?_ | fail)
        all_goals exact aD rfl rfl (congrArg _ hF0)
      · have hg2 : ¬ y0.1.kind / 4 % 2 ≠ 0 := by omega
        repeat' (first | refine KO ?_ | (refine KV (b := by first | exact U1 0 | exact U4 hm0 | ((with_reducible apply MR); exact rfl; (exact hk0)) | ((with_reducible apply vW); exact rfl; exact rfl; (decide); (exact Int.tmod_eq_emod_of_nonneg (by omega)))) (c := ?_)) | refine KI ?_ | refine KG ?_ | fail)
        all_goals exact J1 () ⟨hn, fun p0 hp0 _ => by rw [hy0] at hp0; cases hp0; exact decide_eq_false hg⟩
    · have hF0 : false = R := by rw [← hR]; symm; exact xF hy0 hk0
      repeat' (first | refine KO ?_ | (refine KV (b := by first | exact U1 0 | exact U4 hm0 | ((with_reducible apply XJ); exact rfl; exact rfl; (decide)) | ((with_reducible apply RD); exact rfl; exact rfl; (decide))) (c := ?_)) | refine KI ?_ | (refine KB ?_ ?_ <;> intro hp) | refine KG ?_ | fail)
      all_goals first | exact aD rfl rfl (congrArg _ hF0) | exact J1 () ⟨hn, fun p0 hp0 h => by rw [hy0] at hp0; cases hp0; exact absurd h hk0⟩
  rintro ⟨⟩ ⟨hn, hgen⟩
  repeat' (first | refine KK ?_ | fail)
  refine aX (ι := Nat) (fun k => k ≤ n ∧ ∀ (j : Nat) (p : F × Value), j < k → ps[j]? = some p → bQ p.1 = true) (fun k => n - k) (fun _ => μ) (fun k => [(3, .int .i64 (k : Int)), (1, .pointer (some ⟨bu, 0, none⟩))]) (fun _ => [.inl ⟨bu, 27, 1, idx 0 [.slice A n cc]⟩]) 0 ⟨by omega, fun j p h => absurd h (by omega)⟩ (fun a w hs => hs.sel PU PS) ?_
  rintro k ⟨hk, hok⟩
  by_cases hlt : k < n
  · obtain ⟨ad, y, rfl, hy, hm⟩ := hF.1.get hlt
    have hyo := (hF.2.2 y (List.mem_of_getElem? hy)).1.one
    have hno : bQ y.1 = false → false = R := fun h => by rw [← hR]; symm; exact oQ (List.mem_of_getElem? hy) h
    have hfo : bQ y.1 = (decide (y.1.name.size ≤ 65536) && (Iq.inI y.1.kind 0 255 && (Iq.inI y.1.len 0 1024 && Iq.inI y.1.loc 0 4096))) := rfl
    by_cases h1 : y.1.name.size ≤ 65536
    rotate_left
    · have hF0 := hno (by rw [hfo, decide_eq_false h1]; rfl)
      repeat' (first | refine KO ?_ | (refine KV (b := by first | exact U1 k | exact U4 hm) (c := ?_)) | refine KI ?_ | refine NB fun b => ?_ | refine KG ?_ | fail)
      all_goals exact aD rfl rfl (congrArg _ hF0)
    cases h2 : Iq.inI y.1.kind 0 255
    · have hF0 := hno (by rw [hfo, h2]; simp)
      repeat' (first | refine KO ?_ | ((with_reducible apply F1 49); exact rfl; exact EN; (exact fun w μc hw hse => qX _ _ _ _ (by exact h2) w μc hw)) | (refine KV (b := by first | exact U1 k | exact U4 hm) (c := ?_)) | refine KI ?_ | refine NB fun b => ?_ | refine KG ?_ | fail)
      all_goals exact aD rfl rfl (congrArg _ hF0)
    cases h3 : Iq.inI y.1.len 0 1024
    · have hF0 := hno (by rw [hfo, h3]; simp)
      repeat' (first | refine KO ?_ | ((with_reducible apply F1 49); exact rfl; exact EN; (exact fun w μc hw hse => qX _ _ _ _ (by first | exact h2 | exact h3) w μc hw)) | (refine KV (b := by first | exact U1 k | exact U4 hm) (c := ?_)) | refine KI ?_ | refine NB fun b => ?_ | refine KG ?_ | fail)
      all_goals exact aD rfl rfl (congrArg _ hF0)
    cases h4 : Iq.inI y.1.loc 0 4096
    · have hF0 := hno (by rw [hfo, h4]; simp)
      repeat' (first | refine KO ?_ | ((with_reducible apply F1 49); exact rfl; exact EN; (exact fun w μc hw hse => qX _ _ _ _ (by first | exact h2 | exact h3 | exact h4) w μc hw)) | (refine KV (b := by first | exact U1 k | exact U4 hm) (c := ?_)) | refine KI ?_ | refine NB fun b => ?_ | refine KG ?_ | fail)
      all_goals exact aD rfl rfl (congrArg _ hF0)
    have hyes : bQ y.1 = true := by rw [hfo, h2, h3, h4, decide_eq_true h1]; rfl
    repeat' (first | refine KO ?_ | ((with_reducible apply F1 49); exact rfl; exact EN; (exact fun w μc hw hse => qX _ _ _ _ (by first | exact h2 | exact h3 | exact h4) w μc hw)) | (refine KV (b := by first | exact U1 k | exact U4 hm) (c := ?_)) | refine KI ?_ | refine NB fun b => ?_ | refine KG ?_ | fail)
    all_goals try (exfalso; omega)
    all_goals refine J2 (k + 1) ⟨by omega, fun j p hj hp => ?_⟩ (by omega)
    all_goals
      rcases Nat.lt_or_ge j k with h | h
      · exact hok j p h hp
      · have : j = k := by omega
        subst this
        rw [hy] at hp
        cases hp
        exact hyes
  have hkd : ∀ p ∈ ps, bQ p.1 = true := fun p hp => by
    obtain ⟨j, hj⟩ := List.mem_iff_getElem?.1 hp
    have := (List.getElem?_eq_some_iff.1 hj).1
    exact hok j p (by omega) hj
  have hU : UOk μ A n ps := ⟨hF, hn.2, fun p hp => nU (hkd p hp)⟩
  have hfl : (bM ps).length = n := by rw [List.length_map]; exact hpl
  have hR1 : Iq.uZ aH (bM ps) (ps.map fun p => p.1.body) (List.range n) (Iq.dD n) = R := by
    rw [← hR, CA hpl hn hkd (fun p0 hp0 => hgen p0 hp0 (nU (hkd p0 (List.mem_of_getElem? hp0))).1)]
  have hB0 : CkB n (Iq.dD n) := BD hn.2
  have hnx0 := HO n
  have hmr : List.replicate n (Value.bool false) = (Iq.dD n).met.map Value.bool := by simp [Iq.dD]
  repeat' (first | ((with_reducible show GC _ _ (Code.seq (Code.region 9 _ _) _) _ _ _ _); (apply aY)) | refine KK ?_ | fail)
  all_goals try (exfalso; omega)
  refine gcs (bY (l' := [(1, .pointer (some ⟨bu, 0, none⟩))]) (L' := [.inl ⟨bu, 27, 1, idx 0 [.slice A n cc]⟩]) PU PS ?_)
  refine cM (ι := Nat × Nat × Nat) (fun _ => True) (fun _ => μ) (fun y => [(5, .pointer (some ⟨y.1, 0, none⟩)), (1, .pointer (some ⟨bu, 0, none⟩))]) (fun y => ckR y.1 y.2.1 y.2.2 n (.slice A n cc) 0 (Iq.dD n) (List.replicate n (.slice none 0 0), .slice none 0 0, .inr ⟨.slice none 0 0, 3, 1, 0, []⟩) ++ [.inl ⟨bu, 27, 1, idx 0 [.slice A n cc]⟩]) ?_ ?_
  · refine bN 12 ([.inl ⟨bu, 27, 1, idx 0 [.slice A n cc]⟩]) (by kernel_rfl) rfl PS ?_
    all_goals refine DD 0 ?_
    all_goals refine DD 1 ?_
    all_goals refine DD 2 ?_
    all_goals refine DD 3 ?_
    all_goals refine DD 5 ?_
    all_goals refine DD 6 ?_
    all_goals refine DD 7 ?_
    refine bT 4 8 (by kernel_rfl) ?dr21_4 ?dr21_8
    case' dr21_4 =>
      ((refine D5 ?_; ((((with_reducible apply lT (z := .bool false) (bytes := 1) n (List.replicate n (.bool false))); (iterate 7 exact rfl); exact rfl; exact rfl; omega; omega; exact rfl; intro gx))); refine D9S ?_))
      all_goals ((refine D3 8 ?_; refine D5 ?_; ((((with_reducible apply lT (z := .slice none 0 0) (bytes := 24) n (List.replicate n (.slice none 0 0))); (iterate 7 exact rfl); exact rfl; exact rfl; omega; omega; exact rfl; intro gy))); refine D9S ?_))
      all_goals refine DD 9 ?_
      all_goals ((refine D3 10 ?_; refine D5 ?_; refine NB fun b => ?_; refine D9S ?_))
      all_goals refine DD 11 ?_
      all_goals refine D8 ?_
    case' dr21_8 =>
      ((refine D5 ?_; ((((with_reducible apply lT (z := .slice none 0 0) (bytes := 24) n (List.replicate n (.slice none 0 0))); (iterate 7 exact rfl); exact rfl; exact rfl; omega; omega; exact rfl; intro gy))); refine D9S ?_))
      all_goals ((refine D3 4 ?_; refine D5 ?_; ((((with_reducible apply lT (z := .bool false) (bytes := 1) n (List.replicate n (.bool false))); (iterate 7 exact rfl); exact rfl; exact rfl; omega; omega; exact rfl; intro gx))); refine D9S ?_))
      all_goals refine DD 9 ?_
      all_goals ((refine D3 10 ?_; refine D5 ?_; refine NB fun b => ?_; refine D9S ?_))
      all_goals refine DD 11 ?_
      all_goals refine D8 ?_
    all_goals refine tT 3 1 ?_
    all_goals first | refine dQ (n' := n) (xs' := (Iq.dD n).met.map Value.bool) 2 rfl rfl hmr ?_ | refine dQ (n' := n) (xs' := (Iq.dD n).met.map Value.bool) 3 rfl rfl hmr ?_
    all_goals exact J1 (b, gx, gy) trivial
  rintro ⟨cb, gm, gs⟩ -
  dsimp only [List.cons_append, List.nil_append]
  repeat' (first | refine KK ?_ | fail)
  refine aX (ι := Nat × Iq.CkS × (CIx × Nat) × Mem) (fun q => q.1 ≤ n ∧ CkI q.2.2.2 q.2.1 q.2.2.1.1 ∧ CkB n q.2.1 ∧ Iq.Nx n q.2.1 ∧ MLe μ q.2.2.2 ∧ Iq.uZ aH (bM ps) (ps.map fun p => p.1.body) ((List.range n).drop q.1) q.2.1 = R) (fun q => n - q.1) (fun q => q.2.2.2) (fun q => [(6, .int .i64 (q.1 : Int)), (5, .pointer (some ⟨cb, 0, none⟩)), (1, .pointer (some ⟨bu, 0, none⟩))]) (fun q => ckR cb gm gs n (.slice A n cc) q.2.2.1.2 q.2.1 q.2.2.1.1 ++ [.inl ⟨bu, 27, 1, idx 0 [.slice A n cc]⟩]) (0, Iq.dD n, ((List.replicate n (.slice none 0 0), .slice none 0 0, .inr ⟨.slice none 0 0, 3, 1, 0, []⟩), 0), μ) ⟨by simp, BC n, hB0, hnx0, MLe.refl _, by simpa using hR1⟩ (fun a w hs => hs.sel PU PS) ?_
  rintro ⟨k, c, ⟨i, f0⟩, μk⟩ ⟨hk2, hi, hB, hnx, hle, hRk⟩
  dsimp only [List.cons_append, List.nil_append] at hk2 hi hB hnx hle hRk ⊢
  by_cases hlt : k < n
  rotate_left
  · rw [List.drop_of_length_le (by rw [List.length_range]; omega), Iq.uZ] at hRk
    repeat' (first | refine KK ?_ | fail)
    all_goals exact aD rfl rfl (congrArg _ hRk)
  have hml := hB.met
  have hrl : (c.met.map Value.bool).length = n := by rw [List.length_map]; exact hml
  have hdr : (List.range n).drop k = k :: (List.range n).drop (k + 1) := by rw [lV (t := k) (by rw [List.getElem?_range hlt])]
  rw [hdr, Iq.uZ] at hRk
  cases hmt : c.met.getD k false
  rotate_left
  · rw [if_pos hmt] at hRk
    repeat' (first | refine KO ?_ | (refine KV (b := by first | exact U1 k | exact UR1 (mB (by omega) hmt)) (c := ?_)) | refine KI ?_ | fail)
    all_goals exact J2 (k + 1, c, (i, f0), μk) ⟨by dsimp only; omega, hi, hB, hnx, hle, hRk⟩ (by dsimp only; omega)
  rw [if_neg (by rw [hmt]; simp)] at hRk
  have hfr := fun (w2 : World) (hw2 : MOk μk w2) (hO2 : Go.Vcg.Own μk (ckR cb gm gs n (.slice A n cc) f0 c i) w2) => OB ps A cc n cb gm gs k f0 c i w2 μk hw2 hO2 (hmq.mono hle) (hU.mono hle) hall hlt hi hB hnx hmt
  generalize Iq.nD aH (bM ps) (ps.map fun p => p.1.body) k c = S at hfr hRk
  obtain ⟨s2, b2⟩ := S
  try dsimp only at hfr hRk
  cases b2
  · rw [if_neg (by simp)] at hRk
    repeat' (first | refine KO ?_ | (refine CF 50 ?_; (with_reducible apply aA (Ls := fun i2 : CIx × Nat => ckR cb gm gs n (.slice A n cc) i2.2 s2 i2.1) (Post := fun μ v i2 => jD n s2 false μ v i2.1) 4); (iterate 3 exact rfl); ((with_reducible apply nW); kernel_rfl; (iterate 3 exact rfl)); exact rfl; (exact hfr); (rintro v6 μ7 ⟨i2, f2⟩ hle7 ⟨⟨rfl, hi2⟩, hx2⟩); (dsimp only [List.cons_append, List.nil_append])) | (refine KV (b := by first | exact U1 k | exact UR1 (mB (by omega) hmt)) (c := ?_)) | refine KI ?_ | fail)
    all_goals exact aD rfl rfl (congrArg _ hRk)
  · rw [if_pos rfl] at hRk
    repeat' (first | refine KO ?_ | (refine CF 50 ?_; (with_reducible apply aA (Ls := fun i2 : CIx × Nat => ckR cb gm gs n (.slice A n cc) i2.2 s2 i2.1) (Post := fun μ v i2 => jD n s2 true μ v i2.1) 4); (iterate 3 exact rfl); ((with_reducible apply nW); kernel_rfl; (iterate 3 exact rfl)); exact rfl; (exact hfr); (rintro v6 μ7 ⟨i2, f2⟩ hle7 ⟨⟨rfl, hi2⟩, hx2⟩); (dsimp only [List.cons_append, List.nil_append])) | (refine KV (b := by first | exact U1 k | exact UR1 (mB (by omega) hmt)) (c := ?_)) | refine KI ?_ | fail)
    all_goals exact J2 (k + 1, s2, (i2, f2), μ7) ⟨by dsimp only; omega, hi2, (hx2 rfl).1, (hx2 rfl).2, hle.trans hle7, hRk⟩ (by dsimp only; omega)
end
section
open Go.RowKit Go.Vcg
structure V where
  k : Int
  n : Int
  s : ByteArray
def noS : ByteArray := ⟨#[]⟩
abbrev sT (v : V) : List Value := [.int .i64 v.k, .int .i64 v.n, .string v.s]
def yE : V := ⟨4, 0, noS⟩
def inF (n : Int) : Bool := decide (-9007199254740992 ≤ n) && decide (n ≤ 9007199254740992)
def ofF (n : Int) : V := if inF n then ⟨3, n, noS⟩ else yE
def dK (c : Int) : Int := if 48 ≤ c ∧ c ≤ 57 then c - 48 else if 97 ≤ c ∧ c ≤ 102 then c - 97 + 10 else if 65 ≤ c ∧ c ≤ 70 then c - 65 + 10 else 99
def eF (base : Int) : List UInt8 → Int → Option Int
  | [], n => some n
  | b :: r, n => if dK b.toNat ≥ base then none else if n * base + dK b.toNat > 9007199254740992 then none else eF base r (n * base + dK b.toNat)
def dE (base : Int) (l : List UInt8) : Int × Bool := match eF base l 0 with
  | some n => (n, decide (l ≠ []))
  | none => (0, false)
theorem nG {c : Int} (h : 0 ≤ c) : 0 ≤ dK c := by
  unfold dK
  split
  · omega
  · split
    · omega
    · split <;> omega
theorem DO {c : Int} : dK c ≤ 99 := by
  unfold dK
  split
  · omega
  · split
    · omega
    · split <;> omega
theorem drop_cons {l : List UInt8} {i : Nat} {b : UInt8} (h : l[i]? = some b) : l.drop i = b :: l.drop (i + 1) := by
  obtain ⟨hi, rfl⟩ := List.getElem?_eq_some_iff.1 h
  exact List.drop_eq_getElem_cons hi
theorem gY {s : ByteArray} {i : Nat} (h : i < s.size) : ∃ b, (bl s)[i]? = some b ∧ bAt s i = b.toNat := by
  have : i < (bl s).length := by rw [aZ]; exact h
  exact ⟨(bl s)[i], List.getElem?_eq_getElem this, jT (List.getElem?_eq_getElem this)⟩
theorem aDu (s : ByteArray) : decide (s ≠ ⟨#[]⟩) = decide (bl s ≠ []) := by
  congr 1
  simp only [ne_eq, jA]
attribute [local irreducible] G GC GQ GA bO Calls IntKind.wrap Int.decLt Int.decLe
theorem TH (n : Int) (w : World) (μ : Mem) (hμ : MOk μ w) :
    Calls Tryz.prog 105 #[.int .i64 n] w fun e w' => e = .returned (.bool (inF n)) ∧ Below w.heap.size w w' := by
  refine aC Tryz.func105 rfl Tryz.ntmps105 (by simp) hμ ?_
  repeat' (first | refine KK ?_ | (refine KB ?_ ?_ <;> intro hp) | refine KG ?_ | fail)
  all_goals refine aD rfl rfl ?_
  all_goals unfold inF
  all_goals first | (simp_all; done) | (simp_all; omega)
theorem tO (w : World) (μ : Mem) (hμ : MOk μ w) :
    Calls Tryz.prog 89 #[] w fun e w' => e = .returned (.agg (sT yE).toArray) ∧ Below w.heap.size w w' := by
  refine aC (args := []) Tryz.func89 rfl Tryz.ntmps89 (by simp) hμ ?_
  repeat' (first | refine KK ?_ | refine NB fun b => ?_ | fail)
  exact bL rfl (RG 0 rfl rfl rfl rfl rfl) rfl
theorem FP (n : Int) (w : World) (μ : Mem) (hμ : MOk μ w) :
    Calls Tryz.prog 73 #[.int .i64 n] w fun e w' => e = .returned (.agg (sT (ofF n)).toArray) ∧ Below w.heap.size w w' := by
  refine aC Tryz.func73 rfl Tryz.ntmps73 (by simp) hμ ?_
  unfold ofF
  repeat' (first | refine KO ?_ | ((with_reducible apply F1 105); exact rfl; exact EN; exact fun w μc hw hse => TH n w μc hw) | ((with_reducible apply F1 89); exact rfl; exact EN; exact fun w μc hw hse => tO w μc hw) | refine KI ?_ | refine NB fun b => ?_ | (refine KB ?_ ?_ <;> intro hp) | fail)
  · rw [if_pos hp]
    exact bL rfl (RG 0 rfl rfl rfl rfl rfl) rfl
  · rw [if_neg (by simp [hp])]
    exact bL rfl (RG 0 rfl rfl rfl rfl rfl) rfl
theorem QJ (c : Int) (hc : 0 ≤ c ∧ c ≤ 255) (w : World) (μ : Mem) (hμ : MOk μ w) :
    Calls Tryz.prog 125 #[.int .u8 c] w fun e w' => e = .returned (.int .i64 (dK c)) ∧ Below w.heap.size w w' := by
  refine aC Tryz.func125 rfl Tryz.ntmps125 (by simp) hμ ?_
  repeat' (first | refine KK ?_ | (refine KB ?_ ?_ <;> intro hp) | refine KG ?_ | fail)
  all_goals refine aD rfl rfl ?_
  all_goals congr 1
  all_goals unfold dK
  all_goals (repeat' split) <;> omega
theorem mE (s : ByteArray) (base : Int) (hb : base = 10 ∨ base = 16) (hs : s.size ≤ 9223372036854775807) (w : World) (μ : Mem) (hμ : MOk μ w) :
    Calls Tryz.prog 88 #[.string s, .int .i64 base] w fun e w' => e = .returned (.tuple #[.int .i64 (dE base (bl s)).1, .bool (dE base (bl s)).2]) ∧ Below w.heap.size w w' := by
  refine aC Tryz.func88 rfl Tryz.ntmps88 (by simp) hμ ?_
  repeat' (first | refine KK ?_ | fail)
  refine aX (ι := Nat × Int) (fun i => i.1 ≤ s.size ∧ 0 ≤ i.2 ∧ i.2 ≤ 9007199254740992 ∧ eF base (bl s) 0 = eF base ((bl s).drop i.1) i.2) (fun i => s.size - i.1) (fun _ => μ) (fun i => [(11, .int .i64 i.1), (10, .int .i64 s.size), (6, .int .i64 i.2), (1, .int .i64 base), (0, .string s)]) (fun _ => []) (0, 0) ⟨by simp, by simp, by simp, by simp⟩ (fun a w hs => hs.sub PU (by repeat exact List.Sublist.refl _)) ?_
  rintro ⟨i, n⟩ ⟨hi, hn0, hn1, hc⟩
  dsimp only at hi hn0 hn1 hc ⊢
  by_cases hlt : i < s.size
  · obtain ⟨b, hb1, hb2⟩ := gY hlt
    have h1 := QW s i
    have h2 := aA8 s i
    have h3 := nG h1
    have h4 := DO (c := bAt s i)
    rw [drop_cons hb1, eF, ← hb2] at hc
    have hk : 0 ≤ n * base ∧ n * base ≤ 9223372036854775707 := by rcases hb with rfl | rfl <;> omega
    repeat' (first | refine KO ?_ | ((with_reducible apply C1); exact rfl; exact EN; exact fun w μc hw hse => QJ _ (by omega) w μc hw) | refine KI ?_ | (refine KB ?_ ?_ <;> intro hp) | fail)
    · rw [if_pos (by omega)] at hc
      exact tM rfl rfl rfl (by simp [dE, hc]) (by simp [dE, hc])
    · rw [if_neg (by omega), if_pos (by omega)] at hc
      exact tM rfl rfl rfl (by simp [dE, hc]) (by simp [dE, hc])
    · rw [if_neg (by omega), if_neg (by omega)] at hc
      exact lS (i + 1, n * base + dK (bAt s i)) ⟨by dsimp only; omega, by dsimp only; omega, by dsimp only; omega, hc⟩ (by dsimp only; omega) rfl PU (by repeat exact List.Sublist.refl _)
  · have hi' : i = s.size := by omega
    have hd : (bl s).drop i = [] := List.drop_of_length_le (by rw [aZ]; omega)
    rw [hd, eF] at hc
    repeat' (first | refine KK ?_ | fail)
    refine tM rfl rfl rfl ?_ ?_
    · simp [dE, hc]
    · rw [aDu]; simp [dE, hc]
theorem KX (s p : ByteArray) (hs : s.size ≤ 9223372036854775807) (hp' : p.size ≤ 9223372036854775807) (w : World) (μ : Mem) (hμ : MOk μ w) :
    Calls Tryz.prog 84 #[.string s, .string p] w fun e w' => e = .returned (.bool (decide ((bl s).take p.size = bl p))) ∧ Below w.heap.size w w' := by
  refine aC Tryz.func84 rfl Tryz.ntmps84 (by simp) hμ ?_
  repeat' (first | refine KO ?_ | (refine KV (b := by ((with_reducible apply oG p.size); (iterate 4 exact rfl); omega)) (c := ?_)) | (refine KB ?_ ?_ <;> intro hp) | refine KG ?_ | fail)
  · refine aD rfl rfl ?_
    congr 2
    apply propext
    constructor
    · intro h
      have := congrArg bl h
      rw [bX] at this
      simpa using this
    · intro h
      apply lF
      rw [bX]
      simpa using h
  · refine aD rfl rfl ?_
    have : ¬ (bl s).take p.size = bl p := fun h => by
      have := congrArg List.length h
      rw [List.length_take, aZ, aZ] at this
      omega
    simp [this]
theorem pD (s p : ByteArray) (hs : s.size ≤ 9223372036854775807) (hp' : p.size ≤ 9223372036854775807) (w : World) (μ : Mem) (hμ : MOk μ w) :
    Calls Tryz.prog 87 #[.string s, .string p] w fun e w' => e = .returned (.bool (decide ((bl s).take p.size = bl p))) ∧ Below w.heap.size w w' := by
  refine aC Tryz.func87 rfl Tryz.ntmps87 (by simp) hμ ?_
  repeat' (first | refine KO ?_ | ((with_reducible apply C1); exact rfl; exact EN; exact fun w μc hw hse => KX s p hs hp' w μc hw) | fail)
  exact aD rfl rfl rfl
end
section
open Go.RowKit Go.Vcg
def aO : List UInt8 := [9, 10, 13, 32]
def lQ (r : Int × Bool) (sign : Int) : V := if r.2 then ofF (sign * r.1) else yE
def oA (t : List UInt8) : V :=
  if t = [] then ofF 0 else if t.take 2 = [48, 120] ∨ t.take 2 = [48, 88] then lQ (dE 16 (t.drop 2)) 1
  else lQ (dE 10 (if t.head? = some 45 ∨ t.head? = some 43 then t.drop 1 else t)) (if t.head? = some 45 then -1 else 1)
def jZ (l : List UInt8) : V := oA (Lib.trimS l aO)
theorem XT (l : List UInt8) : (Lib.trimS l aO).length ≤ l.length := by
  unfold Lib.trimS Lib.trimLeftS Lib.trimRightS
  have h1 := (List.dropWhile_sublist (aO.contains ·) (l := List.reverse (List.dropWhile (aO.contains ·) l.reverse))).length_le
  have h2 := (List.dropWhile_sublist (aO.contains ·) (l := l.reverse)).length_le
  simp only [List.length_reverse] at h1 h2
  omega
theorem tZ (base : Int) (l : List UInt8) (hb : base = 10 ∨ base = 16) : 0 ≤ (dE base l).1 ∧ (dE base l).1 ≤ 9007199254740992 := by
  have key : ∀ (l : List UInt8) (n : Int), 0 ≤ n → n ≤ 9007199254740992 → ∀ m, eF base l n = some m → 0 ≤ m ∧ m ≤ 9007199254740992 := by
    intro l
    induction l with
    | nil => intro n h0 h1 m h; simp only [eF, Option.some.injEq] at h; omega
    | cons b l ih =>
      intro n h0 h1 m h
      rw [eF] at h
      split at h
      · cases h
      · split at h
        · cases h
        · have := nG (c := b.toNat) (by omega)
          refine ih _ ?_ ?_ m h
          · rcases hb with rfl | rfl <;> omega
          · omega
  unfold dE
  split
  · rename_i n h; exact key l 0 (by omega) (by omega) n h
  · simp
attribute [local irreducible] G GC GQ GA bO Calls IntKind.wrap Int.decLt Int.decLe
theorem UK (s : ByteArray) (hs : s.size ≤ 9223372036854775807) (w : World) :
    Calls Tryz.prog 86 #[.string s, .string ⟨#[9, 10, 13, 32]⟩] w fun e w' => e = .returned (.string ⟨(Lib.trimS (bl s) aO).toArray⟩) ∧ Below w.heap.size w w' :=
  Any.strings_Trim_laid Tryz.lays160 (by kernel_rfl) s ⟨#[9, 10, 13, 32]⟩ w hs (by decide) (ascii_of_all (by decide))
theorem SQ {r : Int × Bool} {sign : Int} (h : r.2 = true) : lQ r sign = ofF (sign * r.1) := by unfold lQ; rw [if_pos h]
theorem SR {r : Int × Bool} {sign : Int} (h : r.2 = false) : lQ r sign = yE := by unfold lQ; rw [if_neg (by simp [h])]
theorem sM {s : ByteArray} {b : UInt8} (h : 0 < s.size) : (bl s).head? = some b ↔ bAt s 0 = b.toNat := by
  obtain ⟨c, h1, h2⟩ := gY h
  rw [List.head?_eq_getElem?, h1, h2]
  constructor
  · intro e; cases e; rfl
  · intro e
    have : c = b := UInt8.toNat_inj.1 (by omega)
    rw [this]
theorem CE (s : ByteArray) (hs : s.size ≤ 9223372036854775807) (w : World) (μ : Mem) (hμ : MOk μ w) :
    Calls Tryz.prog 60 #[.string s] w fun e w' => e = .returned (.agg (sT (jZ (bl s))).toArray) ∧ Below w.heap.size w w' := by
  refine aC Tryz.func60 rfl Tryz.ntmps60 (by simp) hμ ?_
  unfold jZ
  have hl := XT (bl s)
  rw [aZ] at hl
  generalize ht : (⟨(Lib.trimS (bl s) aO).toArray⟩ : ByteArray) = t
  have hbt : Lib.trimS (bl s) aO = bl t := by rw [← ht]
  have htl : t.size ≤ 9223372036854775807 := by rw [← aZ, ← hbt]; omega
  rw [hbt]
  have htrim : ∀ w, Calls Tryz.prog 86 #[.string s, .string ⟨#[9, 10, 13, 32]⟩] w fun e w' => e = .returned (.string t) ∧ Below w.heap.size w w' := fun w => by
    have := UK s hs w
    rw [ht] at this
    exact this
  clear ht hbt hl
  by_cases h0 : t = ⟨#[]⟩
  · subst h0
    have hr : oA (bl ⟨#[]⟩) = ofF 0 := by unfold oA; exact if_pos rfl
    rw [hr]
    repeat' (first | refine KO ?_ | ((with_reducible apply F1 86); exact rfl; exact EN; exact fun w μc hw hse => htrim w) | ((with_reducible apply F1 73); exact rfl; exact EN; exact fun w μc hw hse => FP _ w μc hw) | refine KI ?_ | refine NB fun b => ?_ | fail)
    exact bL rfl (RG 0 rfl rfl rfl rfl rfl) rfl
  · have h0' : bl t ≠ [] := fun h => h0 ((jA t).2 h)
    have hpos : 0 < t.size := by
      rw [← aZ]
      exact List.length_pos_iff.2 h0'
    by_cases h16 : (bl t).take 2 = [48, 120] ∨ (bl t).take 2 = [48, 88]
    · have h2 : 2 ≤ t.size := by
        have : ((bl t).take 2).length = 2 := by rcases h16 with h | h <;> rw [h] <;> rfl
        rw [List.length_take, aZ] at this
        omega
      have hr : oA (bl t) = lQ (dE 16 ((bl t).drop 2)) 1 := by unfold oA; rw [if_neg h0', if_pos h16]
      rw [hr]
      have hu : bl (t.extract 2 t.size) = (bl t).drop 2 := by
        rw [bX]
        exact List.take_of_length_le (by rw [List.length_drop, aZ]; omega)
      have hus : (t.extract 2 t.size).size ≤ 9223372036854775807 := by rw [← aZ, hu, List.length_drop, aZ]; omega
      have hcnt : ∀ (w : World) (μ : Mem), MOk μ w → Calls Tryz.prog 88 #[.string (t.extract 2 t.size), .int .i64 16] w fun e w' => e = .returned (.tuple #[.int .i64 (dE 16 ((bl t).drop 2)).1, .bool (dE 16 ((bl t).drop 2)).2]) ∧ Below w.heap.size w w' := fun w μ hμ => by
        have := mE (t.extract 2 t.size) 16 (.inr rfl) hus w μ hμ
        rw [hu] at this
        exact this
      generalize dE 16 ((bl t).drop 2) = r at hcnt
      have q : ((bl t).take (ByteArray.size ⟨#[48, 120]⟩) = bl ⟨#[48, 120]⟩) ∨ (¬ (bl t).take (ByteArray.size ⟨#[48, 120]⟩) = bl ⟨#[48, 120]⟩ ∧ (bl t).take (ByteArray.size ⟨#[48, 88]⟩) = bl ⟨#[48, 88]⟩) := by
        by_cases h : (bl t).take 2 = [48, 120]
        · exact .inl h
        · exact .inr ⟨h, h16.resolve_left h⟩
      rcases q with q | ⟨q, q'⟩
      all_goals repeat' (first | refine KO ?_ | ((with_reducible apply F1 86); exact rfl; exact EN; exact fun w μc hw hse => htrim w) | ((with_reducible apply F1 73); exact rfl; exact EN; exact fun w μc hw hse => FP _ w μc hw) | ((with_reducible apply F1 89); exact rfl; exact EN; exact fun w μc hw hse => tO w μc hw) | ((with_reducible apply F1 87); exact rfl; exact EN; exact fun w μc hw hse => pD t _ htl (by decide) w μc hw) | ((with_reducible apply F1 88); exact rfl; exact EN; exact fun w μc hw hse => hcnt w μc hw) | (refine KV (b := by ((with_reducible apply iP 2); (iterate 4 exact rfl); omega)) (c := ?_)) | refine KI ?_ | refine NB fun b => ?_ | (refine KB ?_ ?_ <;> intro hp) | refine KG ?_ | fail)
      all_goals first
        | (rw [SQ (by assumption), Int.one_mul]; exact bL rfl (RG 0 rfl rfl rfl rfl rfl) rfl)
        | (rw [SR (by assumption)]; exact bL rfl (RG 0 rfl rfl rfl rfl rfl) rfl)
    · have hr : oA (bl t) = lQ (dE 10 (if (bl t).head? = some 45 ∨ (bl t).head? = some 43 then (bl t).drop 1 else bl t)) (if (bl t).head? = some 45 then -1 else 1) := by unfold oA; rw [if_neg h0', if_neg h16]
      rw [hr]
      have hh := sM (s := t) (b := 45) hpos
      have hh' := sM (s := t) (b := 43) hpos
      simp only [hh, hh']
      rw [show (45 : UInt8).toNat = 45 from rfl, show (43 : UInt8).toNat = 43 from rfl]
      clear hr hh hh'
      have hu : bl (t.extract 1 t.size) = (bl t).drop 1 := by
        rw [bX]
        exact List.take_of_length_le (by rw [List.length_drop, aZ]; omega)
      have hus : (t.extract 1 t.size).size ≤ 9223372036854775807 := by rw [← aZ, hu, List.length_drop, aZ]; omega
      have hcnt : ∀ (w : World) (μ : Mem), MOk μ w → Calls Tryz.prog 88 #[.string (t.extract 1 t.size), .int .i64 10] w fun e w' => e = .returned (.tuple #[.int .i64 (dE 10 ((bl t).drop 1)).1, .bool (dE 10 ((bl t).drop 1)).2]) ∧ Below w.heap.size w w' := fun w μ hμ => by
        have := mE (t.extract 1 t.size) 10 (.inl rfl) hus w μ hμ
        rw [hu] at this
        exact this
      have c1 := tZ 10 ((bl t).drop 1) (.inl rfl)
      have c2 := tZ 10 (bl t) (.inl rfl)
      have hb0 := QW t 0
      have n1 : ¬ (bl t).take (ByteArray.size ⟨#[48, 120]⟩) = bl ⟨#[48, 120]⟩ := fun h => h16 (.inl h)
      have n2 : ¬ (bl t).take (ByteArray.size ⟨#[48, 88]⟩) = bl ⟨#[48, 88]⟩ := fun h => h16 (.inr h)
      repeat' (first | refine KO ?_ | ((with_reducible apply F1 86); exact rfl; exact EN; exact fun w μc hw hse => htrim w) | ((with_reducible apply F1 73); exact rfl; exact EN; exact fun w μc hw hse => FP _ w μc hw) | ((with_reducible apply F1 89); exact rfl; exact EN; exact fun w μc hw hse => tO w μc hw) | ((with_reducible apply F1 87); exact rfl; exact EN; exact fun w μc hw hse => pD t _ htl (by decide) w μc hw) | ((with_reducible apply F1 88); exact rfl; exact EN; exact fun w μc hw hse => hcnt w μc hw) | ((with_reducible apply F1 88); exact rfl; exact EN; exact fun w μc hw hse => mE t 10 (.inl rfl) htl w μc hw) | (refine KV (b := by first | exact U2 0 | ((with_reducible apply iP 1); (iterate 4 exact rfl); omega)) (c := ?_)) | refine KI ?_ | refine NB fun b => ?_ | (refine KB ?_ ?_ <;> intro hp) | refine KG ?_ | fail)
      all_goals first | rw [if_pos (by omega)] | rw [if_neg (by omega)]
      all_goals first | rw [if_pos (by omega)] | rw [if_neg (by omega)]
      all_goals first
        | (rw [SQ (by assumption)]; exact bL rfl (RG 0 rfl rfl rfl rfl rfl) rfl)
        | (rw [SR (by assumption)]; exact bL rfl (RG 0 rfl rfl rfl rfl rfl) rfl)
end
end Go.Proofs.YtoclmkdfcafhfaaGreatDoor
