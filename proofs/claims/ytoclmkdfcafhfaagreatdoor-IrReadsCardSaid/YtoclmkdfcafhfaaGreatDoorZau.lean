/- Package ir: the check of a function and of those it makes, the program's side. -/
import Derived.Test.YtoclmkdfcafhfaaGreatDoorZat
set_option maxRecDepth 20000
set_option maxHeartbeats 2000000
namespace Go.Proofs.YtoclmkdfcafhfaaGreatDoor
open Go.RowKit Go.Vcg Ou
def jD (n : Nat) (c : Iq.CkS) (b : Bool) (μ : Mem) (v : Value) (i : CIx) : Prop := fW c b μ v i ∧ (b = true → CkB n c ∧ Iq.Nx n c)
section
variable {P : Program} {μ μ0 : Mem} {l : aF} {L Lr : List Bk} {w : World} {n m : Nat} {M : List Nat}
theorem zD {fn : Func} {r : ResultVar} {Ls : CIx → List Bk} {c : Iq.CkS} {b b' : Bool} (hM : ∀ D, M.count D ≤ 1) (hr : fn.results = #[r]) (h : RV P μ l L r (.bool b')) (i : CIx) (hL : splitB 4 L = some (Ls i, Lr)) (hb : b' = b) (hi : CkI μ c i) (hx : b = true → CkB m c ∧ Iq.Nx m c) :
    GQ ⟨w, μ0, M, n⟩ (bodyPost P fn (fun e w' => ∃ v μ' i, e = .returned v ∧ fH M w w' μ0 (Ls i) μ' ∧ jD m c b μ' v i)) .ret μ l L :=
  aS 4 i hM hr h hL rfl (fun μ' hle => ⟨⟨by rw [hb], hi.mono hle⟩, hx⟩)
end
theorem MA {n : Nat} {c : Iq.CkS} {x : Int} {r : List Int} (h : CkB n c) (hn : c.next = x :: r) : CkB n { c with next := r } := ⟨h.ck, h.sl, by
  have := h.me
  unfold Iq.qF at this ⊢
  rw [hn, List.length_cons] at this
  show Iq.vZ c + r.length ≤ 100000
  omega⟩
theorem CN {c : Iq.CkS} {x : Int} {r : List Int} (hn : c.next = x :: r) : Iq.qF { c with next := r } + 1 = Iq.qF c := by
  unfold Iq.qF
  rw [hn, List.length_cons]
  show Iq.vZ c + r.length + 1 = Iq.vZ c + (r.length + 1)
  omega
theorem UC {ps : List (F × Value)} {k : Nat} {y : F × Value} (h : ps[k]? = some y) : (ps.map fun p => p.1.body).getD k (.mk 0 0 0 0 ⟨#[]⟩ []) = y.1.body := by
  rw [List.getD_eq_getElem?_getD, List.getElem?_map, h]
  rfl
attribute [local irreducible] Iq.dI Iq.gT aH G GC GQ GA bO Calls IntKind.wrap Int.decLt Int.decLe
theorem OZ (ps : List (F × Value)) (A : Option Addr) (cc n fb gm gs f : Nat) (c : Iq.CkS) (i : CIx) (w : World) (μ : Mem) (hμ : MOk μ w) (hO : Go.Vcg.Own μ (ckP fb gm gs n (.slice A n cc) c i) w) (hmq : fY μ) (hU : UOk μ A n ps) (hall : ∀ p ∈ ps, gU qN p.1.body) (hf : f < n) (hi : CkI μ c i) (hB : CkB n c) (hnx : Iq.Nx n c) (hmt : c.met.getD f false = false) :
    Calls Tryz.prog 48 #[.pointer (some ⟨fb, 0, none⟩), .int .i64 (f : Int)] w fun e w' => ∃ v μ' i', e = .returned v ∧ fH (bS (ckP fb gm gs n (.slice A n cc) c i)) w w' μ (ckP fb gm gs n (.slice A n cc) (Iq.nD aH (bM ps) (ps.map fun p => p.1.body) f c).1 i') μ' ∧ jD n (Iq.nD aH (bM ps) (ps.map fun p => p.1.body) f c).1 (Iq.nD aH (bM ps) (ps.map fun p => p.1.body) f c).2 μ' v i' := by
  have hcnt := bE hO.diff
  have hpl : ps.length = n := hU.fs.1.1
  have hfl : (bM ps).length = n := by rw [List.length_map]; exact hpl
  have hbl : (ps.map fun p => p.1.body).length = n := by rw [List.length_map]; exact hpl
  have hn1 := hU.n1
  have hloc := FX hU
  have hml := hB.met
  obtain ⟨adU, y0, rfl, -, -⟩ := hU.fs.1.get hf
  obtain ⟨isl, iq, ix⟩ := i
  obtain ⟨QA, QC, qx, hqle, hq0, hval⟩ := hi.q.cut
  dsimp only at hqle hval
  have hrl : (c.met.map Value.bool).length = n := by rw [List.length_map]; exact hml
  have hcb := Iq.aA7 hB.ck hf hmt
  have hcm := Iq.MH (by rw [hml]; exact hf) hmt
  rw [hml] at hcm
  have hB0 : CkB n (Iq.qH f c) := ⟨hcb.1, hB.sl, by omega⟩
  have hnx0 := Iq.aA6 hnx hf
  have hiq := hi.q.one
  dsimp only at hiq
  generalize hR : Iq.nD aH (bM ps) (ps.map fun p => p.1.body) f c = R
  have hR0 : Iq.gT aH (bM ps) (ps.map fun p => p.1.body) (n + 1) (Iq.qH f c) = R := by rw [← hR, ← hbl]; rfl
  clear hR
  refine aQ (args := [.pointer (some ⟨fb, 0, none⟩), .int .i64 (f : Int)]) Tryz.func48 rfl Tryz.ntmps48 (by simp) hμ hO ?_
  repeat' (first | refine KO ?_ | ((with_reducible apply gG 1); (iterate 7 exact rfl); (simp; omega); (dsimp only [dY])) | ((with_reducible show G _ _ _ _ (Oper.mk _ (Op.call (Call.mk (Callee.builtin Builtin.append) _ _)) _ _ _ _ :: _) _ _ _); (with_reducible apply aHg 4); exact rfl; (exact hqle); (dsimp only [dY]); (with_reducible apply TS 4); (iterate 9 exact rfl); exact hq0; ((with_reducible apply eZ); exact rfl; (repeat with_reducible exact bG); exact rfl); exact rfl; (simp); (simp); (intro qv qx2 hQ2); (obtain ⟨QA2, QC2, rfl, hql2⟩ := hQ2.form); (dsimp only [dY])) | (refine KV (b := by first | exact U1 f | ((apply hval); (iterate 4 exact rfl))) (c := ?_)) | refine KI ?_ | refine NB fun b => ?_ | fail)
  refine aX (ι := Iq.CkS × CIx × Mem × Nat) (fun q => CkI q.2.2.1 q.1 q.2.1 ∧ CkB n q.1 ∧ Iq.Nx n q.1 ∧ MLe μ q.2.2.1 ∧ Iq.qF q.1 ≤ q.2.2.2 ∧ Iq.gT aH (bM ps) (ps.map fun p => p.1.body) q.2.2.2 q.1 = R) (fun q => Iq.qF q.1) (fun q => q.2.2.1) (fun _ => [(0, .pointer (some ⟨fb, 0, none⟩))]) (fun q => ckP fb gm gs n (.slice (some adU) n cc) q.1 q.2.1) (Iq.qH f c, (isl, .slice QA2 ([] ++ [Value.int .i64 (f : Int)]).length QC2, qx2), μ, n + 1) ⟨⟨hQ2, hi.len, hi.ints⟩, hB0, hnx0, MLe.refl _, by dsimp only; omega, hR0⟩ (fun a w hs => (St.SB (i := 2) (xs' := (Iq.qH f c).met.map Value.bool) hs rfl rfl (vC (by omega))).sel PU PS) ?_
  rintro ⟨ck, ik, μk, g⟩ ⟨hik, hBk, hnk, hlek, hmk, hRk⟩
  dsimp only at hik hBk hnk hlek hmk hRk ⊢
  obtain ⟨isk, qk, xk⟩ := ik
  have hqk := hik.q
  dsimp only at hqk
  have hmlk := hBk.met
  have hslk := hBk.sl
  have hilk : isk.length = n := hik.len.trans hslk
  cases hnx1 : ck.next with
  | nil =>
    obtain ⟨QA5, QC5, rfl, -⟩ := hqk.form
    have hl0 : (ck.next.flatMap aW).length = 0 := by rw [hnx1]; rfl
    rw [Iq.CJ _ _ _ hnx1] at hRk
    subst hRk
    repeat' (first | refine KK ?_ | fail)
    all_goals (refine aM (l' := [(4, .bool true)]) (L' := ckP fb gm gs n (.slice (some adU) n cc) ck (isk, .slice QA5 (ck.next.flatMap aW).length QC5, xk)) PU PS ?_; exact zD hcnt rfl (aB rfl) (isk, .slice QA5 (ck.next.flatMap aW).length QC5, xk) rfl rfl hik (fun _ => ⟨hBk, hnk⟩))
  | cons x r =>
    have hx := hnk.1 x (by rw [hnx1]; exact List.mem_cons_self ..)
    obtain ⟨k, rfl⟩ : ∃ k : Nat, x = k := ⟨x.toNat, by omega⟩
    have hkn : k < n := by omega
    have hq2 : Qu 3 qk xk (Value.int .i64 (k : Int) :: r.flatMap aW) := by rw [hnx1] at hqk; exact hqk
    obtain ⟨QA3, QC3, x3, hle3, hq3, hpop⟩ := hq2.pop
    obtain ⟨qg, qoff, qc, rfl, hhd⟩ := hq2.hd
    have hi3 : CkI μk { ck with next := r } (isk, .slice QA3 (r.flatMap aW).length QC3, x3) := ⟨hq3, hik.len, hik.ints⟩
    have hB3 := MA hBk hnx1
    have hm3 := CN hnx1
    obtain ⟨g1, rfl⟩ : ∃ g1, g = g1 + 1 := ⟨g - 1, by omega⟩
    obtain ⟨ad2, y, e2, hy, hmU⟩ := (hU.mono hlek).fs.1.get hkn
    cases e2
    have hyb := (hU.mono hlek).fs.2.2 y (List.mem_of_getElem? hy)
    have hyo := hyb.1.one
    rw [Iq.xM _ _ _ hnx1, Int.toNat_natCast, UC hy] at hRk
    have hmB : gI μk ((adU.add (k * 10)).add 4) (aR y.1.body y.2) := fun j v hj => by
      have h1 : (dS y.1 y.2)[4 + j]? = some v := by
        show ([Value.string y.1.name, .int .i64 y.1.kind, .int .i64 y.1.len, .int .i64 y.1.loc] ++ aR y.1.body y.2)[4 + j]? = some v
        rw [List.getElem?_append_right (by simp)]
        simpa using hj
      have h2 := hmU (4 + j) v h1
      rw [jB]
      rw [jB] at h2 ⊢
      exact h2
    repeat' (first | ((with_reducible show GC _ _ (Code.seq (Code.region 4 _ _) _) _ _ _ _); (apply aY)) | refine KK ?_ | fail)
    all_goals try (exfalso; omega)
    refine gcs ?_
    refine cM (ι := Unit) (fun _ => True) (fun _ => μk) (fun _ => [(0, .pointer (some ⟨fb, 0, none⟩)), (1, .int .i64 (k : Int))]) (fun _ => ckP fb gm gs n (.slice (some adU) n cc) { ck with next := r } (isk, .slice QA3 (r.flatMap aW).length QC3, x3)) ?_ ?_
    · refine bN 16 ([xk]) (by kernel_rfl) rfl PS ?_
      all_goals (first | refine D1 0 ?_ | fail)
      all_goals (first | refine D1 1 ?_ | fail)
      all_goals (first | refine D1 2 ?_ | fail)
      all_goals (first | refine D1 3 ?_ | fail)
      all_goals (first | refine D1 7 ?_ | fail)
      all_goals (first | refine D1 8 ?_ | fail)
      all_goals (first | refine D1 9 ?_ | fail)
      refine bT 4 10 (by kernel_rfl) ?dr9_4 ?dr9_10
      case' dr9_4 =>
        (((with_reducible apply bJ); (iterate 4 exact rfl); (((with_reducible apply iQ); exact rfl; (repeat with_reducible exact bG); exact rfl))))
        all_goals (first | (refine DV (k := 5) (b := by exact U1 0) (c := ?_)) | fail)
        all_goals (first | (refine DV (k := 6) (b := by ((apply hhd 0); (iterate 3 exact rfl))) (c := ?_)) | fail)
        all_goals (first | refine D1 12 ?_ | fail)
        all_goals ((refine D3 10 ?_; (with_reducible apply bJ); (iterate 4 exact rfl); (((with_reducible apply iQ); exact rfl; (repeat with_reducible exact bG); exact rfl))))
        all_goals (first | (refine DV (k := 11) (b := by ((apply hpop); (iterate 4 exact rfl))) (c := ?_)) | fail)
        all_goals (first | refine D1 13 ?_ | fail)
        all_goals (first | refine D1 14 ?_ | fail)
        all_goals ((refine D3 15 ?_; refine D5 ?_; refine Y0 ?_; refine D9S ?_))
        all_goals refine D8 ?_
      case' dr9_10 =>
        (((with_reducible apply bJ); (iterate 4 exact rfl); (((with_reducible apply iQ); exact rfl; (repeat with_reducible exact bG); exact rfl))))
        all_goals (first | (refine DV (k := 11) (b := by ((apply hpop); (iterate 4 exact rfl))) (c := ?_)) | fail)
        all_goals ((refine D3 4 ?_; (with_reducible apply bJ); (iterate 4 exact rfl); (((with_reducible apply iQ); exact rfl; (repeat with_reducible exact bG); exact rfl))))
        all_goals (first | (refine DV (k := 5) (b := by exact U1 0) (c := ?_)) | fail)
        all_goals (first | (refine DV (k := 6) (b := by ((apply hhd 0); (iterate 3 exact rfl))) (c := ?_)) | fail)
        all_goals (first | refine D1 12 ?_ | fail)
        all_goals (first | refine D1 13 ?_ | fail)
        all_goals (first | refine D1 14 ?_ | fail)
        all_goals ((refine D3 15 ?_; refine D5 ?_; refine Y0 ?_; refine D9S ?_))
        all_goals refine D8 ?_
      all_goals refine aGn 3 rfl hle3 ?_
      all_goals exact J1 () trivial
    rintro ⟨⟩ -
    try dsimp only
    repeat' (first | ((with_reducible show GC _ _ (Code.seq (Code.region 6 _ _) _) _ _ _ _); (apply aY)) | refine KO ?_ | (refine KV (b := by first | exact U1 k | exact U4 hmB) (c := ?_)) | refine KI ?_ | refine NB fun b => ?_ | fail)
    obtain ⟨bb, hbb⟩ : ∃ x, x = b := ⟨_, rfl⟩
    rw [← hbb]
    clear hbb
    refine gcs (bY (l' := [(0, .pointer (some ⟨fb, 0, none⟩)), (1, .int .i64 (k : Int)), (5, .pointer (some ⟨bb, 0, none⟩))]) (L' := ckP fb gm gs n (.slice (some adU) n cc) { ck with next := r } (isk, .slice QA3 (r.flatMap aW).length QC3, x3) ++ [.inl ⟨bb, 42, 6, idx 0 (aR y.1.body y.2)⟩]) PU PS ?_)
    dsimp only [List.cons_append, List.nil_append]
    refine tU ?_
    cases hS : Iq.isS y.1.body.op
    · rw [hS, if_neg (by simp)] at hRk
      subst hRk
      refine bN 19 ([.inl ⟨fb, 86, 4, [(0, (.slice (some adU) n cc)), (2, .slice (some ⟨gs, 0, none⟩) n n)]⟩, .inl ⟨bb, 42, 6, idx 0 (aR y.1.body y.2)⟩]) (by kernel_rfl) rfl PS ?_
      all_goals (first | refine D1 0 ?_ | fail)
      all_goals (first | refine DD 1 ?_ | fail)
      all_goals ((refine D3 2 ?_; refine D5 ?_; (first | ((with_reducible apply F1 75); exact rfl; exact EN; (exact fun w μc hw hse => xP _ _ hS w μc hw)) | fail); refine D9S ?_))
      all_goals refine DD 3 ?_
      all_goals refine DD 4 ?_
      all_goals (try (refine D7 5 ?_; (repeat' (refine KO ?_))))
      all_goals refine DD 5 ?_
      all_goals (first | refine D1 6 ?_ | fail)
      all_goals refine DD 7 ?_
      all_goals refine DD 8 ?_
      all_goals refine DD 9 ?_
      all_goals (first | refine D1 10 ?_ | fail)
      all_goals (first | refine D1 11 ?_ | fail)
      all_goals refine DD 12 ?_
      all_goals (first | refine D1 13 ?_ | fail)
      all_goals (refine D3 14 (D6 ?_))
      all_goals refine DD 15 ?_
      all_goals (refine D3 16 (D6 ?_))
      all_goals refine DD 17 ?_
      all_goals refine DD 18 ?_
      all_goals refine D8 ?_
      all_goals repeat' (first | refine KK ?_ | fail)
      all_goals (refine aM (l' := [(4, .bool false)]) (L' := ckP fb gm gs n (.slice (some adU) n cc) { ck with next := r } (isk, .slice QA3 (r.flatMap aW).length QC3, x3)) PU PS ?_; exact zD hcnt rfl (aB rfl) (isk, .slice QA3 (r.flatMap aW).length QC3, x3) rfl rfl hi3 (fun h => by cases h))
    rw [hS, if_pos rfl] at hRk
    have hgs : isk[k]? = some isk[k] := List.getElem?_eq_getElem (by omega)
    have hgc : ck.slots[k]? = some ck.slots[k] := List.getElem?_eq_getElem (by omega)
    have hgi := hik.ints k _ _ hgs hgc
    have hgd : ck.slots.getD k [] = ck.slots[k] := by rw [List.getD_eq_getElem?_getD, hgc]; rfl
    have hpo := Iq.MB hBk.ck k
    rw [hgd] at hRk hpo
    generalize isk[k] = v0 at hgs hgi
    obtain ⟨A5, c5, rfl, hS5⟩ := hgi
    have hgs1 : isk[k * 1]? = some (.slice A5 ck.slots[k].length c5) := by rw [Nat.mul_one]; exact hgs
    have hPk : PlB ⟨ck.slots[k], [], [], false⟩ 1 { ck with next := r } := ⟨hpo, by simp, by simp⟩
    have hz := wG y.1.body (hall y (List.mem_of_getElem? hy)) hyb.2
    have hnd := fun (w2 : World) (hw2 : MOk μk w2) (hO2 : Go.Vcg.Own μk (ckP fb gm gs n (.slice (some adU) n cc) { ck with next := r } (isk, .slice QA3 (r.flatMap aW).length QC3, x3)) w2) => OV y.1.body.size ps (some adU) cc n fb gm gs y.1.body y.2 k ⟨ck.slots[k], [], [], false⟩ (.slice A5 ck.slots[k].length c5) (.slice none 0 0) (.slice none 0 0) 1 { ck with next := r } (isk, .slice QA3 (r.flatMap aW).length QC3, x3) w2 μk hw2 hO2 (hmq.mono hlek) (hU.mono hlek) hkn hyb.1 (hall y (List.mem_of_getElem? hy)) (Nat.le_refl _) hyb.2 ⟨⟨A5, c5, rfl, hS5⟩, bK.nil _, bK.nil _⟩ hi3 hB3 hPk (by omega) (by omega)
    have hckb := fun (c' : Iq.CkS) (b : Bool) => sZ (row := aH) (fs := bM ps) (t := y.1.body) (f := k) (p := ⟨ck.slots[k], [], [], false⟩) (deep := 1) (c' := c') (b := b) hfl hn1 hloc hB3 hPk hz
    have hlen := Iq.oY (row := aH) (fs := bM ps) y.1.body k ⟨ck.slots[k], [], [], false⟩ 1 { ck with next := r } (hmlk.trans hfl.symm)
    have hnxt := Iq.FT (row := aH) (fs := bM ps) y.1.body k ⟨ck.slots[k], [], [], false⟩ 1 { ck with next := r } (hmlk.trans hfl.symm) ⟨fun z hz => by rw [hfl]; exact hnk.1 z (by rw [hnx1]; exact List.mem_cons_of_mem _ hz), hnk.2⟩
    rw [hfl] at hnxt
    generalize Iq.dI aH (bM ps) k y.1.body ⟨ck.slots[k], [], [], false⟩ 1 { ck with next := r } = S2 at hnd hRk hckb hlen hnxt
    obtain ⟨s2, b2⟩ := S2
    try dsimp only at hnd hRk hlen hnxt
    cases b2
    · rw [if_neg (by simp)] at hRk
      subst hRk
      refine bN 19 ([.inl ⟨fb, 86, 4, [(0, (.slice (some adU) n cc)), (2, .slice (some ⟨gs, 0, none⟩) n n)]⟩, .inl ⟨bb, 42, 6, idx 0 (aR y.1.body y.2)⟩]) (by kernel_rfl) rfl PS ?_
      all_goals (first | refine D1 0 ?_ | fail)
      all_goals (first | refine DD 1 ?_ | fail)
      all_goals ((refine D3 2 ?_; refine D5 ?_; (((with_reducible apply F1 75); exact rfl; exact EN; (exact fun w μc hw hse => xP _ _ hS w μc hw))); refine D9S ?_))
      all_goals refine DD 3 ?_
      all_goals refine DD 4 ?_
      all_goals (try (refine D7 5 ?_; (repeat' (refine KO ?_))))
      all_goals refine DD 5 ?_
      all_goals (first | refine DD 6 ?_ | fail)
      all_goals refine DD 7 ?_
      all_goals refine DD 8 ?_
      all_goals refine DD 9 ?_
      all_goals (first | refine D1 10 ?_ | fail)
      all_goals (first | refine DD 11 ?_ | fail)
      all_goals refine DD 12 ?_
      all_goals (first | (refine DV (k := 13) (b := by exact U1 k) (c := ?_)) | fail)
      all_goals ((refine D3 14 ?_; (with_reducible apply bJ); (iterate 4 exact rfl); (exact UR2 hgs1)))
      all_goals refine DD 15 ?_
      all_goals ((refine D3 16 ?_; refine D5 ?_; ((refine CF 76 ?_; (with_reducible apply aA (Ls := fun i2 => ckP fb gm gs n (.slice (some adU) n cc) s2 i2) (Post := fW s2 false) 4); (iterate 3 exact rfl); ((with_reducible apply vR); kernel_rfl; (iterate 5 exact rfl)); exact rfl; (exact hnd); (rintro v6 μ7 i2 hle7 ⟨rfl, hi2⟩); (dsimp only [List.cons_append, List.nil_append]))); refine D9S ?_))
      all_goals refine DD 17 ?_
      all_goals refine DD 18 ?_
      all_goals refine D8 ?_
      all_goals repeat' (first | refine KK ?_ | fail)
      all_goals (refine aM (l' := [(4, .bool false)]) (L' := ckP fb gm gs n (.slice (some adU) n cc) s2 i2) PU PS ?_; exact zD hcnt rfl (aB rfl) i2 rfl rfl hi2 (fun h => by cases h))
    · rw [if_pos rfl] at hRk
      obtain ⟨hB2, hcm2⟩ := hckb s2 true rfl rfl
      refine bN 19 ([.inl ⟨fb, 86, 4, [(0, (.slice (some adU) n cc)), (2, .slice (some ⟨gs, 0, none⟩) n n)]⟩, .inl ⟨bb, 42, 6, idx 0 (aR y.1.body y.2)⟩]) (by kernel_rfl) rfl PS ?_
      all_goals (first | refine D1 0 ?_ | fail)
      all_goals (first | refine DD 1 ?_ | fail)
      all_goals ((refine D3 2 ?_; refine D5 ?_; (((with_reducible apply F1 75); exact rfl; exact EN; (exact fun w μc hw hse => xP _ _ hS w μc hw))); refine D9S ?_))
      all_goals refine DD 3 ?_
      all_goals refine DD 4 ?_
      all_goals (try (refine D7 5 ?_; (repeat' (refine KO ?_))))
      all_goals refine DD 5 ?_
      all_goals (first | refine DD 6 ?_ | fail)
      all_goals refine DD 7 ?_
      all_goals refine DD 8 ?_
      all_goals refine DD 9 ?_
      all_goals (first | refine D1 10 ?_ | fail)
      all_goals (first | refine DD 11 ?_ | fail)
      all_goals refine DD 12 ?_
      all_goals (first | (refine DV (k := 13) (b := by exact U1 k) (c := ?_)) | fail)
      all_goals ((refine D3 14 ?_; (with_reducible apply bJ); (iterate 4 exact rfl); (exact UR2 hgs1)))
      all_goals refine DD 15 ?_
      all_goals ((refine D3 16 ?_; refine D5 ?_; ((refine CF 76 ?_; (with_reducible apply aA (Ls := fun i2 => ckP fb gm gs n (.slice (some adU) n cc) s2 i2) (Post := fW s2 true) 4); (iterate 3 exact rfl); ((with_reducible apply vR); kernel_rfl; (iterate 5 exact rfl)); exact rfl; (exact hnd); (rintro v6 μ7 i2 hle7 ⟨rfl, hi2⟩); (dsimp only [List.cons_append, List.nil_append]))); refine D9S ?_))
      all_goals refine DD 17 ?_
      all_goals refine DD 18 ?_
      all_goals refine D8 ?_
      all_goals repeat' (first | refine KK ?_ | fail)
      all_goals exact J2 (s2, i2, μ7, g1) ⟨hi2, hB2, hnxt, hlek.trans hle7, by have := hlen.2.2; dsimp only; omega, hRk⟩ (by have := hlen.2.2; dsimp only; omega)
end Go.Proofs.YtoclmkdfcafhfaaGreatDoor
namespace Go.Vcg
open Go.RowKit
section
variable {P : Program} {μ : Mem} {l : aF} {L : List Bk} {ty : TypeId} {pos : String} {af : Array Edge} {gd : Option (Nat × Bool)} {ds : Option Nat}
theorem XO {p q : Operand} {t t2 : TypeId} {k : IntKind} {x y : Int} (hx0 : ev l p = some (.int k x)) (hx1 : ev l q = some (.int k y)) : Val P μ l L ⟨ds, .binOp .and t p q t2, ty, pos, af, gd⟩ (.int k (k.wrap ((BitVec.ofInt k.bits x &&& BitVec.ofInt k.bits y).toNat : Int))) :=
  fun a w hs => by have e0 := hs.eval hx0; have e1 := hs.eval hx1; generalize a.eval = ρ at e0 e1; simp [execOp, e0, e1, eqGuard, binOp, Op.intBits]
end
end Go.Vcg
namespace Go.Proofs.YtoclmkdfcafhfaaGreatDoor
open Go.RowKit Go.Vcg Ou
abbrev fnP (f : F) : Iq.FnP := ⟨f.name, f.kind, f.len, f.loc, f.body⟩
def bQ (f : F) : Bool := decide (f.name.size ≤ 65536) && (Iq.inI f.kind 0 255 && (Iq.inI f.len 0 1024 && Iq.inI f.loc 0 4096))
theorem nU {f : F} (h : bQ f = true) : (0 ≤ f.kind ∧ f.kind ≤ 255) ∧ (0 ≤ f.loc ∧ f.loc ≤ 4096) := by
  unfold bQ at h
  simp only [Bool.and_eq_true] at h
  exact ⟨Iq.gQ h.2.1, Iq.gQ h.2.2.2⟩
section
variable {row : Int → List UInt8 × List UInt8} {ps : List (F × Value)}
theorem BY (h : Iq.inI (ps.length : Int) 1 4096 = false) : Iq.bV row (ps.map fun p => fnP p.1) = false := by
  unfold Iq.bV Iq.KW
  rw [List.length_map, h]
  rfl
theorem oQ {p : F × Value} (hp : p ∈ ps) (h : bQ p.1 = false) : Iq.bV row (ps.map fun p => fnP p.1) = false := by
  have h2 : (ps.map fun p => fnP p.1).all (fun f => decide (f.name.size ≤ 65536) && (Iq.inI f.kind 0 255 && (Iq.inI f.len 0 1024 && Iq.inI f.loc 0 4096))) = false := by
    rw [List.all_eq_false]
    refine ⟨fnP p.1, List.mem_map.2 ⟨p, hp, rfl⟩, ?_⟩
    unfold bQ at h
    rw [h]
    simp
  unfold Iq.bV Iq.KW
  rw [h2]
  simp
theorem xF {p : F × Value} (hp : ps[0]? = some p) (h : ¬ (0 ≤ p.1.kind ∧ p.1.kind ≤ 255)) : Iq.bV row (ps.map fun p => fnP p.1) = false := by
  refine oQ (List.mem_of_getElem? hp) ?_
  unfold bQ
  have : Iq.inI p.1.kind 0 255 = false := by rw [kB]; exact decide_eq_false h
  rw [this]
  simp
theorem DE {p : F × Value} (hp : ps[0]? = some p) : ((ps.map fun p => fnP p.1).head?.map (·.kind) |>.getD 0) = p.1.kind := by
  rw [List.head?_map, List.head?_eq_getElem?, hp]
  rfl
theorem BZ {p : F × Value} (hp : ps[0]? = some p) (h : Iq.KZ p.1.kind = true) : Iq.bV row (ps.map fun p => fnP p.1) = false := by
  unfold Iq.bV Iq.KW
  rw [DE hp, h]
  simp
theorem CA {n : Nat} (hpl : ps.length = n) (hn : 1 ≤ n ∧ n ≤ 4096) (hk : ∀ p ∈ ps, bQ p.1 = true) (hg : ∀ p, ps[0]? = some p → Iq.KZ p.1.kind = false) : Iq.bV row (ps.map fun p => fnP p.1) = Iq.uZ row (bM ps) (ps.map fun p => p.1.body) (List.range n) (Iq.dD n) := by
  have h0 : ps[0]? = some ps[0] := List.getElem?_eq_getElem (by omega)
  have h2 : (ps.map fun p => fnP p.1).all (fun f => decide (f.name.size ≤ 65536) && (Iq.inI f.kind 0 255 && (Iq.inI f.len 0 1024 && Iq.inI f.loc 0 4096))) = true := by
    rw [List.all_eq_true]
    intro x hx
    obtain ⟨p, hp, rfl⟩ := List.mem_map.1 hx
    exact hk p hp
  have h3 : Iq.inI (ps.length : Int) 1 4096 = true := by rw [kB, decide_eq_true_iff]; omega
  unfold Iq.bV Iq.KW
  rw [h2, DE h0, hg _ h0, List.length_map, h3, hpl]
  have e1 : Iq.aAq (ps.map fun p => fnP p.1) = bM ps := by unfold Iq.aAq bM; rw [List.map_map]; rfl
  have e2 : (ps.map fun p => fnP p.1).map (·.body) = ps.map fun p => p.1.body := by rw [List.map_map]; rfl
  rw [e1, e2]
  rfl
end
theorem BD {n : Nat} (hn : n ≤ 4096) : CkB n (Iq.dD n) := ⟨⟨by simp [Iq.dD], fun l hl => by
  have : l = [] := by simpa [Iq.dD] using List.eq_of_mem_replicate hl
  subst this
  exact ⟨Nat.zero_le _, fun x hx => by cases hx⟩⟩, by simp [Iq.dD], by
  unfold Iq.qF Iq.vZ Iq.dD
  rw [List.count_replicate]
  simp
  omega⟩
theorem HO (n : Nat) : Iq.Nx n (Iq.dD n) := ⟨fun x hx => by simp [Iq.dD] at hx, fun k _ => by
  unfold Iq.dD
  rw [List.getD_eq_getElem?_getD, List.getElem?_replicate]
  split <;> rfl⟩
theorem BC {μ : Mem} (n : Nat) : CkI μ (Iq.dD n) (List.replicate n (.slice none 0 0), .slice none 0 0, .inr ⟨.slice none 0 0, 3, 1, 0, []⟩) := ⟨Qu.nil, by simp [Iq.dD], fun k v xs h1 h2 => by
  have e1 := List.eq_of_mem_replicate (List.mem_of_getElem? h1)
  have e2 : xs = [] := List.eq_of_mem_replicate (List.mem_of_getElem? h2)
  subst e1 e2
  exact bK.nil _⟩
attribute [local irreducible] Iq.dI Iq.gT Iq.nD aH G GC GQ GA bO Calls IntKind.wrap Int.decLt Int.decLe
theorem IY (ps : List (F × Value)) (A : Option Addr) (cc n : Nat) (w : World) (μ : Mem) (hμ : MOk μ w) (hF : Fs μ A n ps) (hmq : fY μ) (hall : ∀ p ∈ ps, gU qN p.1.body) : Calls Tryz.prog 19 #[.agg #[.slice A n cc]] w fun e w' => e = .returned (.bool (Iq.bV aH (ps.map fun p => fnP p.1))) ∧ Below w.heap.size w w' := by
  have hpl : ps.length = n := hF.1.1
  have hnb := hF.2.1
  generalize hR : Iq.bV aH (ps.map fun p => fnP p.1) = R
  refine aC (args := [.agg #[.slice A n cc]]) Tryz.func19 rfl Tryz.ntmps19 (by simp) hμ ?_
  repeat' (first | ((with_reducible show GC _ _ (Code.seq (Code.seq (Code.region 1 _ _) _) _) _ _ _ _); (apply aY)) | refine KK ?_ | refine NB fun b => ?_ | fail)
  obtain ⟨bu, hbu⟩ : ∃ x, x = b := ⟨_, rfl⟩
  rw [← hbu]
  clear hbu
  refine gcs (bY (l' := [(1, .pointer (some ⟨bu, 0, none⟩))]) (L' := [.inl ⟨bu, 27, 1, idx 0 [.slice A n cc]⟩]) PU PS ?_)
  refine cM (ι := Unit) (fun _ => (1 ≤ n ∧ n ≤ 4096) ∧ ∀ p0, ps[0]? = some p0 → (0 ≤ p0.1.kind ∧ p0.1.kind ≤ 255) → Iq.KZ p0.1.kind = false) (fun _ => μ) (fun _ => [(1, .pointer (some ⟨bu, 0, none⟩))]) (fun _ => [.inl ⟨bu, 27, 1, idx 0 [.slice A n cc]⟩]) ?_ ?_
  · by_cases hn : 1 ≤ n ∧ n ≤ 4096
    rotate_left
    · have hin : Iq.inI (n : Int) 1 4096 = false := by rw [kB, decide_eq_false_iff_not]; omega
      have hF0 : false = R := by rw [← hR]; symm; exact BY (by rw [hpl]; exact hin)
      by_cases hn0 : n < 1
      all_goals repeat' (first | refine KO ?_ | ((with_reducible apply F1 47); exact rfl; exact EN; (exact fun w μc hw hse => oU _ _ _ _ (by exact hin) w μc hw)) | refine KI ?_ | fail)
      all_goals exact aD rfl rfl (congrArg _ hF0)
    have hin : Iq.inI (n : Int) 1 4096 = true := by rw [kB, decide_eq_true_iff]; omega
    obtain ⟨ad, y0, rfl, hy0, hm0⟩ := hF.1.get (show 0 < n by omega)
    by_cases hk0 : 0 ≤ y0.1.kind ∧ y0.1.kind ≤ 255
    · by_cases hg : y0.1.kind / 4 % 2 = 1
      · have hF0 : false = R := by rw [← hR]; symm; exact BZ hy0 (decide_eq_true hg)
        repeat' (first | refine KO ?_ | ((with_reducible apply F1 47); exact rfl; exact EN; (exact fun w μc hw hse => oU _ _ _ _ (by exact hin) w μc hw)) | (refine KV (b := by first | exact U1 0 | exact U4 hm0 | ((with_reducible apply DZ); exact rfl; (exact hk0); (exact if_pos hg))) (c := ?_)) | refine KI ?_ | fail)
        all_goals exact aD rfl rfl (congrArg _ hF0)
      · repeat' (first | refine KO ?_ | ((with_reducible apply F1 47); exact rfl; exact EN; (exact fun w μc hw hse => oU _ _ _ _ (by exact hin) w μc hw)) | (refine KV (b := by first | exact U1 0 | exact U4 hm0 | ((with_reducible apply DZ); exact rfl; (exact hk0); (exact if_neg hg))) (c := ?_)) | refine KI ?_ | fail)
        all_goals exact J1 () ⟨hn, fun p0 hp0 _ => by rw [hy0] at hp0; cases hp0; exact decide_eq_false hg⟩
    · have hF0 : false = R := by rw [← hR]; symm; exact xF hy0 hk0
      repeat' (first | refine KO ?_ | ((with_reducible apply F1 47); exact rfl; exact EN; (exact fun w μc hw hse => oU _ _ _ _ (by exact hin) w μc hw)) | (refine KV (b := by first | exact U1 0 | exact U4 hm0 | ((with_reducible apply XO); exact rfl; exact rfl)) (c := ?_)) | refine KI ?_ | (refine KB ?_ ?_ <;> intro hp) | fail)
      all_goals first | exact aD rfl rfl (congrArg _ hF0) | exact J1 () ⟨hn, fun p0 hp0 h => by rw [hy0] at hp0; cases hp0; exact absurd h hk0⟩
  rintro ⟨⟩ ⟨hn, hgen⟩
  repeat' (first | refine KK ?_ | fail)
  refine aX (ι := Nat) (fun k => k ≤ n ∧ ∀ (j : Nat) (p : F × Value), j < k → ps[j]? = some p → bQ p.1 = true) (fun k => n - k) (fun _ => μ) (fun k => [(24, .int .i64 (k : Int)), (23, .int .i64 (n : Int)), (22, .slice A n cc), (1, .pointer (some ⟨bu, 0, none⟩))]) (fun _ => [.inl ⟨bu, 27, 1, idx 0 [.slice A n cc]⟩]) 0 ⟨by omega, fun j p h => absurd h (by omega)⟩ (fun a w hs => hs.sel PU PS) ?_
  rintro k ⟨hk, hok⟩
  by_cases hlt : k < n
  · obtain ⟨ad, y, rfl, hy, hm⟩ := hF.1.get hlt
    have hyo := (hF.2.2 y (List.mem_of_getElem? hy)).1.one
    have hno : bQ y.1 = false → false = R := fun h => by rw [← hR]; symm; exact oQ (List.mem_of_getElem? hy) h
    have hfo : bQ y.1 = (decide (y.1.name.size ≤ 65536) && (Iq.inI y.1.kind 0 255 && (Iq.inI y.1.len 0 1024 && Iq.inI y.1.loc 0 4096))) := rfl
    by_cases h1 : y.1.name.size ≤ 65536
    rotate_left
    · have hF0 := hno (by rw [hfo, decide_eq_false h1]; rfl)
      repeat' (first | refine KO ?_ | (refine KV (b := by first | exact U1 k | exact U4 hm) (c := ?_)) | refine KI ?_ | refine NB fun b => ?_ | refine KG ?_ | fail)
      all_goals exact aD rfl rfl (congrArg _ hF0)
    cases h2 : Iq.inI y.1.kind 0 255
    · have hF0 := hno (by rw [hfo, h2]; simp)
      repeat' (first | refine KO ?_ | ((with_reducible apply F1 47); exact rfl; exact EN; (exact fun w μc hw hse => oU _ _ _ _ (by exact h2) w μc hw)) | (refine KV (b := by first | exact U1 k | exact U4 hm) (c := ?_)) | refine KI ?_ | refine NB fun b => ?_ | refine KG ?_ | fail)
      all_goals exact aD rfl rfl (congrArg _ hF0)
    cases h3 : Iq.inI y.1.len 0 1024
    · have hF0 := hno (by rw [hfo, h3]; simp)
      repeat' (first | refine KO ?_ | ((with_reducible apply F1 47); exact rfl; exact EN; (exact fun w μc hw hse => oU _ _ _ _ (by first | exact h2 | exact h3) w μc hw)) | (refine KV (b := by first | exact U1 k | exact U4 hm) (c := ?_)) | refine KI ?_ | refine NB fun b => ?_ | refine KG ?_ | fail)
      all_goals exact aD rfl rfl (congrArg _ hF0)
    cases h4 : Iq.inI y.1.loc 0 4096
    · have hF0 := hno (by rw [hfo, h4]; simp)
      repeat' (first | refine KO ?_ | ((with_reducible apply F1 47); exact rfl; exact EN; (exact fun w μc hw hse => oU _ _ _ _ (by first | exact h2 | exact h3 | exact h4) w μc hw)) | (refine KV (b := by first | exact U1 k | exact U4 hm) (c := ?_)) | refine KI ?_ | refine NB fun b => ?_ | refine KG ?_ | fail)
      all_goals exact aD rfl rfl (congrArg _ hF0)
    have hyes : bQ y.1 = true := by rw [hfo, h2, h3, h4, decide_eq_true h1]; rfl
    repeat' (first | refine KO ?_ | ((with_reducible apply F1 47); exact rfl; exact EN; (exact fun w μc hw hse => oU _ _ _ _ (by first | exact h2 | exact h3 | exact h4) w μc hw)) | (refine KV (b := by first | exact U1 k | exact U4 hm) (c := ?_)) | refine KI ?_ | refine NB fun b => ?_ | refine KG ?_ | fail)
    all_goals try (exfalso; omega)
    all_goals refine J2 (k + 1) ⟨by omega, fun j p hj hp => ?_⟩ (by omega)
    all_goals
      rcases Nat.lt_or_ge j k with h | h
      · exact hok j p h hp
      · have : j = k := by omega
        subst this
        rw [hy] at hp
        cases hp
        exact hyes
  have hkd : ∀ p ∈ ps, bQ p.1 = true := fun p hp => by
    obtain ⟨j, hj⟩ := List.mem_iff_getElem?.1 hp
    have := (List.getElem?_eq_some_iff.1 hj).1
    exact hok j p (by omega) hj
  have hU : UOk μ A n ps := ⟨hF, hn.2, fun p hp => nU (hkd p hp)⟩
  have hfl : (bM ps).length = n := by rw [List.length_map]; exact hpl
  have hR1 : Iq.uZ aH (bM ps) (ps.map fun p => p.1.body) (List.range n) (Iq.dD n) = R := by
    rw [← hR, CA hpl hn hkd (fun p0 hp0 => hgen p0 hp0 (nU (hkd p0 (List.mem_of_getElem? hp0))).1)]
  have hB0 : CkB n (Iq.dD n) := BD hn.2
  have hnx0 := HO n
  have hmr : List.replicate n (Value.bool false) = (Iq.dD n).met.map Value.bool := by simp [Iq.dD]
  repeat' (first | ((with_reducible show GC _ _ (Code.seq (Code.region 9 _ _) _) _ _ _ _); (apply aY)) | refine KK ?_ | fail)
  all_goals try (exfalso; omega)
  refine gcs (bY (l' := [(1, .pointer (some ⟨bu, 0, none⟩))]) (L' := [.inl ⟨bu, 27, 1, idx 0 [.slice A n cc]⟩]) PU PS ?_)
  refine cM (ι := Nat × Nat × Nat) (fun _ => True) (fun _ => μ) (fun y => [(5, .pointer (some ⟨y.1, 0, none⟩)), (1, .pointer (some ⟨bu, 0, none⟩))]) (fun y => ckP y.1 y.2.1 y.2.2 n (.slice A n cc) (Iq.dD n) (List.replicate n (.slice none 0 0), .slice none 0 0, .inr ⟨.slice none 0 0, 3, 1, 0, []⟩) ++ [.inl ⟨bu, 27, 1, idx 0 [.slice A n cc]⟩]) ?_ ?_
  · refine bN 12 ([.inl ⟨bu, 27, 1, idx 0 [.slice A n cc]⟩]) (by kernel_rfl) rfl PS ?_
    all_goals refine DD 0 ?_
    all_goals refine DD 1 ?_
    all_goals refine DD 2 ?_
    all_goals refine DD 3 ?_
    all_goals refine DD 5 ?_
    all_goals refine DD 6 ?_
    all_goals refine DD 7 ?_
    refine bT 4 8 (by kernel_rfl) ?dr10_4 ?dr10_8
    case' dr10_4 =>
      ((refine D5 ?_; ((((with_reducible apply lT (z := .bool false) (bytes := 1) n (List.replicate n (.bool false))); (iterate 7 exact rfl); exact rfl; exact rfl; omega; omega; exact rfl; intro gx))); refine D9S ?_))
      all_goals ((refine D3 8 ?_; refine D5 ?_; ((((with_reducible apply lT (z := .slice none 0 0) (bytes := 24) n (List.replicate n (.slice none 0 0))); (iterate 7 exact rfl); exact rfl; exact rfl; omega; omega; exact rfl; intro gy))); refine D9S ?_))
      all_goals refine DD 9 ?_
      all_goals ((refine D3 10 ?_; refine D5 ?_; refine NB fun b => ?_; refine D9S ?_))
      all_goals refine DD 11 ?_
      all_goals refine D8 ?_
    case' dr10_8 =>
      ((refine D5 ?_; ((((with_reducible apply lT (z := .slice none 0 0) (bytes := 24) n (List.replicate n (.slice none 0 0))); (iterate 7 exact rfl); exact rfl; exact rfl; omega; omega; exact rfl; intro gy))); refine D9S ?_))
      all_goals ((refine D3 4 ?_; refine D5 ?_; ((((with_reducible apply lT (z := .bool false) (bytes := 1) n (List.replicate n (.bool false))); (iterate 7 exact rfl); exact rfl; exact rfl; omega; omega; exact rfl; intro gx))); refine D9S ?_))
      all_goals refine DD 9 ?_
      all_goals ((refine D3 10 ?_; refine D5 ?_; refine NB fun b => ?_; refine D9S ?_))
      all_goals refine DD 11 ?_
      all_goals refine D8 ?_
    all_goals refine tT 3 1 ?_
    all_goals first | refine dQ (n' := n) (xs' := (Iq.dD n).met.map Value.bool) 2 rfl rfl hmr ?_ | refine dQ (n' := n) (xs' := (Iq.dD n).met.map Value.bool) 3 rfl rfl hmr ?_
    all_goals exact J1 (b, gx, gy) trivial
  rintro ⟨cb, gm, gs⟩ -
  dsimp only [List.cons_append, List.nil_append]
  repeat' (first | refine KK ?_ | fail)
  refine aX (ι := Nat × Iq.CkS × CIx × Mem) (fun q => q.1 ≤ n ∧ CkI q.2.2.2 q.2.1 q.2.2.1 ∧ CkB n q.2.1 ∧ Iq.Nx n q.2.1 ∧ MLe μ q.2.2.2 ∧ Iq.uZ aH (bM ps) (ps.map fun p => p.1.body) ((List.range n).drop q.1) q.2.1 = R) (fun q => n - q.1) (fun q => q.2.2.2) (fun q => [(65, .int .i64 (q.1 : Int)), (64, .int .i64 (n : Int)), (5, .pointer (some ⟨cb, 0, none⟩)), (1, .pointer (some ⟨bu, 0, none⟩))]) (fun q => ckP cb gm gs n (.slice A n cc) q.2.1 q.2.2.1 ++ [.inl ⟨bu, 27, 1, idx 0 [.slice A n cc]⟩]) (0, Iq.dD n, (List.replicate n (.slice none 0 0), .slice none 0 0, .inr ⟨.slice none 0 0, 3, 1, 0, []⟩), μ) ⟨by simp, BC n, hB0, hnx0, MLe.refl _, by simpa using hR1⟩ (fun a w hs => hs.sel PU PS) ?_
  rintro ⟨k, c, i, μk⟩ ⟨hk2, hi, hB, hnx, hle, hRk⟩
  dsimp only [List.cons_append, List.nil_append] at hk2 hi hB hnx hle hRk ⊢
  by_cases hlt : k < n
  rotate_left
  · rw [List.drop_of_length_le (by rw [List.length_range]; omega), Iq.uZ] at hRk
    repeat' (first | refine KK ?_ | fail)
    all_goals exact aD rfl rfl (congrArg _ hRk)
  have hml := hB.met
  have hrl : (c.met.map Value.bool).length = n := by rw [List.length_map]; exact hml
  have hdr : (List.range n).drop k = k :: (List.range n).drop (k + 1) := by rw [lV (t := k) (by rw [List.getElem?_range hlt])]
  rw [hdr, Iq.uZ] at hRk
  cases hmt : c.met.getD k false
  rotate_left
  · rw [if_pos hmt] at hRk
    repeat' (first | refine KO ?_ | (refine KV (b := by first | exact U1 k | exact UR1 (mB (by omega) hmt)) (c := ?_)) | refine KI ?_ | fail)
    all_goals exact J2 (k + 1, c, i, μk) ⟨by dsimp only; omega, hi, hB, hnx, hle, hRk⟩ (by dsimp only; omega)
  rw [if_neg (by rw [hmt]; simp)] at hRk
  have hfr := fun (w2 : World) (hw2 : MOk μk w2) (hO2 : Go.Vcg.Own μk (ckP cb gm gs n (.slice A n cc) c i) w2) => OZ ps A cc n cb gm gs k c i w2 μk hw2 hO2 (hmq.mono hle) (hU.mono hle) hall hlt hi hB hnx hmt
  generalize Iq.nD aH (bM ps) (ps.map fun p => p.1.body) k c = S at hfr hRk
  obtain ⟨s2, b2⟩ := S
  try dsimp only at hfr hRk
  cases b2
  · rw [if_neg (by simp)] at hRk
    repeat' (first | refine KO ?_ | (refine CF 48 ?_; (with_reducible apply aA (Ls := fun i2 => ckP cb gm gs n (.slice A n cc) s2 i2) (Post := jD n s2 false) 4); (iterate 3 exact rfl); ((with_reducible apply aL); kernel_rfl; exact rfl; exact rfl); exact rfl; (exact hfr); (rintro v6 μ7 i2 hle7 ⟨⟨rfl, hi2⟩, hx2⟩); (dsimp only [List.cons_append, List.nil_append])) | (refine KV (b := by first | exact U1 k | exact UR1 (mB (by omega) hmt)) (c := ?_)) | refine KI ?_ | fail)
    all_goals exact aD rfl rfl (congrArg _ hRk)
  · rw [if_pos rfl] at hRk
    repeat' (first | refine KO ?_ | (refine CF 48 ?_; (with_reducible apply aA (Ls := fun i2 => ckP cb gm gs n (.slice A n cc) s2 i2) (Post := jD n s2 true) 4); (iterate 3 exact rfl); ((with_reducible apply aL); kernel_rfl; exact rfl; exact rfl); exact rfl; (exact hfr); (rintro v6 μ7 i2 hle7 ⟨⟨rfl, hi2⟩, hx2⟩); (dsimp only [List.cons_append, List.nil_append])) | (refine KV (b := by first | exact U1 k | exact UR1 (mB (by omega) hmt)) (c := ?_)) | refine KI ?_ | fail)
    all_goals exact J2 (k + 1, s2, i2, μ7) ⟨by dsimp only; omega, hi2, (hx2 rfl).1, (hx2 rfl).2, hle.trans hle7, hRk⟩ (by dsimp only; omega)
end Go.Proofs.YtoclmkdfcafhfaaGreatDoor
