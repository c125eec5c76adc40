/- Package scope: Uses, walked. No statement of the seat is proved here. -/
import Derived.Test.YtocidaibmadekaaGreatDoorQaq
set_option maxRecDepth 20000
set_option maxHeartbeats 2000000
namespace Go.Proofs.YtocidaibmadekaaGreatDoor
open Go.RowKit Go.Vcg Go.MapKept
def UsV (μ : Mem) (l : List Us) (v : Value) : Prop := ∃ A c, v = .slice A l.length c ∧ Sl HN 8 μ A l.length l
def lR (f : Nat) (t : T) (μ : Mem) (v : Value) : Prop := (4096 < eN (dA f t).scopes ∧ v = .tuple #[.slice none 0 0, .int .i64 9]) ∨ (¬ 4096 < eN (dA f t).scopes ∧ ∃ r, v = .tuple #[r, .int .i64 0] ∧ UsV μ ((dA f t).uses.map (iW (kR (dA f t)))) r)
theorem aCv (f : Nat) (t : T) : (nB f t).scopes = kR (dA f t) ∧ (nB f t).uses = (dA f t).uses ∧ (nB f t).funcs = (dA f t).funcs := by unfold nB; exact ⟨rfl, rfl, rfl⟩
theorem wU (f : Nat) (t : T) (hts : t.size ≤ 2000) (hf : t.size ≤ f) (hq : dF qS t) : (dA f t).uses.length ≤ 9000 := by
  have hsz := aP t
  have hsl := eF t.kids false []
  rw [List.length_nil, Nat.zero_add] at hsl
  have hgo := mO (kind := 0) (at' := t.at') (w := ⟨-1, 0, false⟩) (l := bA t.kids false []) s00 (by omega)
  have hgR := kI (N := nbS f f) t.kids (fun k hk => yC f f k (hq.kid hk) (by
    have : k.size ≤ szs t.kids := T.bN (List.mem_map.2 ⟨k, hk, rfl⟩)
    omega)) ⟨0, 0, false⟩ (gX t)
  have h1 := hgo.wt
  have h2 : wtS s00 = 0 := rfl
  have h3 : wtS (dA f t) ≤ wtS (gX t) + 3 * szs t.kids := hgR.wt
  have h4 : wtS (gX t) ≤ 1 := by rw [tW]; omega
  unfold wtS at h3 h4
  omega
attribute [local irreducible] nB dA rtB eW dP iW kR
attribute [local irreducible] fM cM cH bA bY cK anI fU eG G GC GQ GA bX Calls IntKind.wrap Int.decLt Int.decLe
theorem wV (f : Nat) (t : T) (u : Value) (w : World) (μ : Mem) (hμ : MOk μ w) (hk : KR μ t.kids u) (hts : t.size ≤ 2000) (hf : t.size ≤ f) (hsh : Sh t) (hT : kX μ) (hop1 : t.op = 1) (hrt : rtB t 1 false = true) :
    Calls Tryz.prog 10 #[.agg (aD t u).toArray] w fun e w' => ∃ v μ', e = .returned v ∧ oM w w' μ μ' ∧ lR f t μ' v := by
  have ou := hk.one
  obtain ⟨hb1, hb2⟩ := yK f t hts hf (qD t 1 false (dZ hrt) hsh)
  obtain ⟨hfs, hfu, -⟩ := aCv f t
  refine aA (args := [.agg (aD t u).toArray]) Tryz.func10 rfl Tryz.ntmps10 (by simp) hμ ?_
  repeat' (first | ((with_reducible show GC _ _ (Code.seq (Code.region 4 _ _) _) _ _ _ _); (apply bF)) | refine KO ?_ | (refine CF 22 ?_; (with_reducible apply UK f t); (iterate 3 exact rfl); ((with_reducible apply aQ); kernel_rfl; exact rfl); (exact hk); (exact hts); (exact hf); (exact hsh); (exact hT); (exact hop1); (exact hrt); (rintro μ1 hle1 hn1); rotate_left; (rintro μ1 xb cb hb db q hle1 hn1 hR); (unfold FB1)) | refine KI ?_ | refine NB fun b => ?_ | fail)
  all_goals try (exfalso; first | fail)
  · refine gcs (vM fun μ2 hle2 hL => ?_)
    have hFB := UZ (L := _) hL
    obtain ⟨A, c, e, hS⟩ := IT hR hFB hb1 hb2
    have hxs := hFB _ (List.mem_cons_self ..)
    have hms := xA hxs (vs := [q.sv, q.uv, .int .i64 ((nB f t).funcs : Int), .map (some cb), .map (some hb), .map (some db)]) (fun j v hj => kF hj)
    have hus := hFB _ (List.mem_cons_of_mem _ (List.mem_cons_of_mem _ (List.mem_cons_self ..)))
    obtain ⟨Au, cu, eu, hU⟩ := rX (enc := mR) (xs := (nB f t).uses) hus rfl (by simp) rfl
    rw [e, eu] at hms
    rw [hfu] at hU hms
    refine qT 36 8 ?_
    have hsi : SI (dA f t) := IV f t
    have hsE := xB (dA f t)
    have hul : (dA f t).uses.length ≤ 9000 := (wU f t hts hf (qD t 1 false (dZ hrt) hsh))
    have hscs : scs q.cs = kR (dA f t) := by rw [hR.sc, hfs]
    have hm1 : iF μ2 ⟨xb, 0 + 1, none⟩ (.slice Au (dA f t).uses.length cu) := by
      have h := hms 1 _ rfl
      rw [zK] at h
      exact h
    generalize (nB f t).funcs = fcs at hms
    generalize hlE : kR (dA f t) = lE at hscs hsE
    rw [hfu] at eu
    repeat' (first | refine KO ?_ | (refine KV (b := by ((with_reducible apply eC); exact rfl; exact rfl; exact hm1)) (c := ?_)) | fail)
    refine aX (ι := Nat × Value) (fun j => j.1 ≤ (dA f t).uses.length) (fun j => (dA f t).uses.length - j.1) (fun _ => μ2) (fun j => [(23, .int .i64 (j.1 : Int)), (22, .int .i64 ((dA f t).uses.length : Int)), (21, .slice Au (dA f t).uses.length cu), (6, j.2), (4, .pointer (some ⟨xb, 0, none⟩))]) (fun j => [.inr ⟨j.2, 36, 8, (((dA f t).uses.take j.1).map (iW lE)).length, (((dA f t).uses.take j.1).map (iW lE)).flatMap HN⟩]) (0, .slice none 0 0) (Nat.zero_le _) (fun a w hs => hs.sel PU (cR _)) ?_
    rintro ⟨i, v⟩ hi
    dsimp only at hi ⊢
    by_cases hlt : i < (dA f t).uses.length
    · obtain ⟨adu, y, rfl, hy, hmU⟩ := hU.get hlt
      have hok := hsi.uses y (List.mem_of_getElem? hy)
      have hst : ((dA f t).uses.take (i + 1)).map (iW lE) = ((dA f t).uses.take i).map (iW lE) ++ [iW lE y] := by
        rw [List.take_add_one, hy, List.map_append]
        rfl
      have hln : (((dA f t).uses.take i).map (iW lE)).length = i := by
        rw [List.length_map, List.length_take]
        omega
      obtain ⟨u9, ts, tb, found, fn⟩ := y
      cases found with
      | false =>
        have ho : iW lE ⟨u9, ts, tb, false, fn⟩ = u9 := by
          unfold iW
          rw [if_neg (by simp)]
        rw [ho] at hst
        generalize ((dA f t).uses.take i).map (iW lE) = acc at hst hln ⊢
        repeat' (first | refine KO ?_ | (((with_reducible apply oG); (iterate 3 exact rfl); (repeat first | with_reducible exact dT | with_reducible apply eI); (iterate 6 exact rfl); (((with_reducible apply gH); exact rfl; (repeat with_reducible exact cU); exact rfl)); (exact rfl); ((exact eJ (by (repeat first | with_reducible exact dU | ((with_reducible apply dC); (exact rfl)))))); omega; omega; intro v)) | (refine KV (b := by first | exact U1 i | exact U4 hmU) (c := ?_)) | refine KI ?_ | refine NB fun b => ?_ | fail)
        all_goals try (exfalso; first | fail)
        all_goals refine fT (L' := [_]) (oN (.refl _) (.nil _)) ?_
        all_goals refine fF (n' := (acc ++ [u9]).length) (xs' := (acc ++ [u9]).flatMap HN) 0 rfl (by simp) (by simp) ?_
        all_goals exact bD (i + 1, _) (by dsimp only; omega) (by dsimp only; omega) rfl PU (by dsimp only; rw [hst]; exact cR _)
      | true =>
        obtain ⟨hf1, -⟩ := hok.yes rfl
        dsimp only at hf1
        have hf2 := BI hsE u9.scope u9.name
        rw [hf1] at hf2
        unfold iC at hf2
        have hch := zC hf2
        obtain ⟨c9, d9, hc9, hd9, -, -⟩ := iL hf2
        have hhi := hok.hi
        have hlo := hok.lo
        dsimp only at hhi hlo
        have hb9 : zE lE ts tb = d9 := by
          unfold zE
          rw [hc9]
          simp [hd9]
        rw [← hscs] at hc9 hch
        have htl : ts < q.cs.length := by rw [← gQ]; exact (List.getElem?_eq_some_iff.1 hc9).1
        have hS0 := hS
        obtain ⟨hSs, hSl, hSa⟩ := hS
        obtain ⟨ads, cy, rfl, hcy, hm5⟩ := hSs.get htl
        obtain ⟨cc, v9⟩ := cy
        obtain rfl : cc = c9 := by
          have h9 := gR hcy
          rw [hc9] at h9
          cases h9
          rfl
        obtain ⟨A4, c4, e4, hS4, hl4, -⟩ := hSa _ (List.mem_of_getElem? hcy)
        dsimp only at e4 hS4 hm5
        subst e4
        have htb : tb < cc.names.length := (List.getElem?_eq_some_iff.1 hd9).1
        obtain ⟨adb, dd, rfl, hdd, hm6⟩ := hS4.get htb
        rw [hd9] at hdd
        cases hdd
        have hm0 : iF μ2 ⟨xb, 0 + 0, none⟩ (.slice (some ads) q.cs.length c) := by
          have h := hms 0 _ rfl
          rw [zK] at h
          exact h
        have hho := fun (w : World) (μc : Mem) (hw : MOk μc w) (hle : MLe μ2 μc) => IQ w μc hw xb (some ads) c q.cs _ _ _ _ _ (fun j y hj => (hms j y hj).mono hle) (hS0.mono hle) u9.scope ts hch (by have := hsE.1; rw [← gQ, hscs] at hSl; omega)
        rw [hscs] at hho
        have ho : iW lE ⟨u9, ts, tb, true, fn⟩ = if d9.held = true then { u9 with wh := 1, slot := d9.slot, hops := (eW lE (u9.scope.toNat + 1) u9.scope ts : Nat) } else { u9 with wh := 0, slot := d9.slot } := by
          unfold iW
          rw [if_pos rfl]
          dsimp only
          rw [hb9]
        rw [ho] at hst
        generalize ((dA f t).uses.take i).map (iW lE) = acc at hst hln ⊢
        generalize eW lE (u9.scope.toNat + 1) u9.scope ts = hn9 at hho hst
        obtain ⟨nm, kd, hd, sl⟩ := d9
        dsimp only at hst hm6
        cases hd with
        | false =>
          rw [if_neg (by simp)] at hst
          repeat' (first | refine KO ?_ | (refine KV (b := by first | exact U1 i | exact U4 hmU) (c := ?_)) | refine KI ?_ | refine NB fun b => ?_ | fail)
          all_goals try (exfalso; first | fail)
          refine aC 17 _ (by kernel_rfl) rfl (List.Sublist.cons_cons _ (List.nil_sublist _)) ?_
          all_goals (first | refine D1 0 ?_ | fail)
          all_goals (first | refine D1 1 ?_ | fail)
          all_goals (first | refine D1 2 ?_ | fail)
          all_goals (first | (refine DV (k := 3) (b := by ((with_reducible apply eC); exact rfl; exact rfl; exact hm0)) (c := ?_)) | fail)
          all_goals (first | refine D1 4 ?_ | fail)
          all_goals (first | refine D1 5 ?_ | fail)
          all_goals (first | refine DD 6 ?_ | fail)
          all_goals (first | (refine DV (k := 7) (b := by exact U1 ts) (c := ?_)) | fail)
          all_goals (first | refine DD 8 ?_ | fail)
          all_goals (first | (refine DV (k := 9) (b := by exact U4 hm5) (c := ?_)) | fail)
          all_goals (first | refine D1 10 ?_ | fail)
          all_goals (first | refine D1 11 ?_ | fail)
          all_goals (first | refine DD 12 ?_ | fail)
          all_goals (first | (refine DV (k := 13) (b := by exact U1 tb) (c := ?_)) | fail)
          all_goals (first | (refine DV (k := 14) (b := by exact U4 hm6) (c := ?_)) | fail)
          all_goals ((refine D3 15 ?_; refine D5 ?_; refine NB fun b => ?_; refine D9 ?_))
          all_goals ((refine D3 16 ?_; refine D5 ?_; refine Y0 ?_; refine D9 ?_))
          all_goals refine D8 ?_
          all_goals repeat' (first | refine KK ?_ | fail)
          all_goals
            refine aC 8 _ (by kernel_rfl) rfl (List.Sublist.cons_cons _ (List.Sublist.cons _ (List.nil_sublist _))) ?_
            all_goals refine DD 0 ?_
            all_goals refine DD 1 ?_
            all_goals refine DD 2 ?_
            all_goals refine DD 3 ?_
            all_goals ((refine D3 4 ?_; refine D5 ?_; refine Y0 ?_; refine D9 ?_))
            all_goals refine DD 5 ?_
            all_goals refine DD 6 ?_
            all_goals ((refine D3 7 ?_; refine D5 ?_; refine Y0 ?_; refine D9 ?_))
            all_goals refine D8 ?_
          all_goals repeat' (first | refine KO ?_ | (((with_reducible apply oG); (iterate 3 exact rfl); (repeat first | with_reducible exact dT | with_reducible apply eI); (iterate 6 exact rfl); (((with_reducible apply gH); exact rfl; (repeat with_reducible exact cU); exact rfl)); (exact rfl); ((exact eJ (by (repeat first | with_reducible exact dU | ((with_reducible apply dC); (exact rfl)))))); omega; omega; intro v)) | refine KI ?_ | refine NB fun b => ?_ | fail)
          all_goals try (exfalso; first | fail)
          all_goals refine fT (L' := [_]) (AD (.refl _) (.nil _)) ?_
          all_goals refine fF (n' := (acc ++ [{ u9 with wh := 0, slot := sl }]).length) (xs' := (acc ++ [{ u9 with wh := 0, slot := sl }]).flatMap HN) 0 rfl (by simp) (by simp) ?_
          all_goals exact bD (i + 1, _) (by dsimp only; omega) (by dsimp only; omega) rfl PU (by dsimp only; rw [hst]; exact cR _)
        | true =>
          rw [if_pos rfl] at hst
          repeat' (first | refine KO ?_ | (refine KV (b := by first | exact U1 i | exact U4 hmU) (c := ?_)) | refine KI ?_ | refine NB fun b => ?_ | fail)
          all_goals try (exfalso; first | fail)
          refine aC 17 _ (by kernel_rfl) rfl (List.Sublist.cons_cons _ (List.nil_sublist _)) ?_
          all_goals (first | refine D1 0 ?_ | fail)
          all_goals (first | refine D1 1 ?_ | fail)
          all_goals (first | refine D1 2 ?_ | fail)
          all_goals (first | (refine DV (k := 3) (b := by ((with_reducible apply eC); exact rfl; exact rfl; exact hm0)) (c := ?_)) | fail)
          all_goals (first | refine D1 4 ?_ | fail)
          all_goals (first | refine D1 5 ?_ | fail)
          all_goals (first | refine DD 6 ?_ | fail)
          all_goals (first | (refine DV (k := 7) (b := by exact U1 ts) (c := ?_)) | fail)
          all_goals (first | refine DD 8 ?_ | fail)
          all_goals (first | (refine DV (k := 9) (b := by exact U4 hm5) (c := ?_)) | fail)
          all_goals (first | refine D1 10 ?_ | fail)
          all_goals (first | refine D1 11 ?_ | fail)
          all_goals (first | refine DD 12 ?_ | fail)
          all_goals (first | (refine DV (k := 13) (b := by exact U1 tb) (c := ?_)) | fail)
          all_goals (first | (refine DV (k := 14) (b := by exact U4 hm6) (c := ?_)) | fail)
          all_goals ((refine D3 15 ?_; refine D5 ?_; refine NB fun b => ?_; refine D9 ?_))
          all_goals ((refine D3 16 ?_; refine D5 ?_; refine Y0 ?_; refine D9 ?_))
          all_goals refine D8 ?_
          all_goals repeat' (first | refine KK ?_ | fail)
          all_goals
            refine aC 8 _ (by kernel_rfl) rfl (List.Sublist.cons_cons _ (List.Sublist.cons _ (List.nil_sublist _))) ?_
            all_goals refine DD 0 ?_
            all_goals refine DD 1 ?_
            all_goals refine DD 2 ?_
            all_goals refine DD 3 ?_
            all_goals ((refine D3 4 ?_; refine D5 ?_; refine Y0 ?_; refine D9 ?_))
            all_goals refine DD 5 ?_
            all_goals refine DD 6 ?_
            all_goals ((refine D3 7 ?_; refine D5 ?_; refine Y0 ?_; refine D9 ?_))
            all_goals refine D8 ?_
          all_goals repeat' (first | refine KO ?_ | (((with_reducible apply oG); (iterate 3 exact rfl); (repeat first | with_reducible exact dT | with_reducible apply eI); (iterate 6 exact rfl); (((with_reducible apply gH); exact rfl; (repeat with_reducible exact cU); exact rfl)); (exact rfl); ((exact eJ (by (repeat first | with_reducible exact dU | ((with_reducible apply dC); (exact rfl)))))); omega; omega; intro v)) | ((with_reducible apply F1 23); exact rfl; exact EN; (exact fun w μc hw hse => hho w μc hw hse.le)) | refine KI ?_ | refine NB fun b => ?_ | fail)
          all_goals try (exfalso; first | fail)
          all_goals refine fT (L' := [_]) (AD (.refl _) (.nil _)) ?_
          all_goals refine fF (n' := (acc ++ [{ u9 with wh := 1, slot := sl, hops := (hn9 : Int) }]).length) (xs' := (acc ++ [{ u9 with wh := 1, slot := sl, hops := (hn9 : Int) }]).flatMap HN) 0 rfl (by simp) (by simp) ?_
          all_goals exact bD (i + 1, _) (by dsimp only; omega) (by dsimp only; omega) rfl PU (by dsimp only; rw [hst]; exact cR _)
    · have hil : i = (dA f t).uses.length := by omega
      subst hil
      rw [List.take_of_length_le (Nat.le_refl _)]
      repeat' (first | refine KK ?_ | fail)
      all_goals try (exfalso; first | fail)
      refine CR rfl (bJ rfl) (bJ rfl) (fun μ' hle3 hL3 => .inr ⟨hn1, _, rfl, ?_⟩)
      rw [hlE]
      obtain ⟨A9, c9, e9, hS9⟩ := rX (enc := HN) (xs := (dA f t).uses.map (iW lE)) (hL3 _ (List.mem_cons_self ..)) rfl (by simp) rfl
      exact ⟨A9, c9, e9, hS9⟩
  · exact CR rfl (bJ rfl) (bJ rfl) (fun μ' _ _ => .inl ⟨hn1, rfl⟩)
end Go.Proofs.YtocidaibmadekaaGreatDoor
namespace Go.Proofs.YtocidaibmadekaaGreatDoor
open Go.RowKit Go.Vcg Go.MapKept
attribute [local irreducible] eW dP
attribute [local irreducible] fM cM cH bA bY cK anI fU eG G GC GQ GA bX Calls IntKind.wrap Int.decLt Int.decLe
theorem JP (w : World) (μ : Mem) (hμ : MOk μ w) (A : Option Addr) (c : Nat) (ps : List (Sc × Value)) (hps : ScR μ A ps) (a : Int) (bb : Nat) (hch : lA (scs ps) bb a) (hal : a < ps.length) :
    Calls Tryz.prog 12 #[.slice A ps.length c, .int .i64 a, .int .i64 (bb : Int)] w fun e w' => e = .returned (.int .i64 ((eW (scs ps) (a.toNat + 1) a bb : Nat) : Int)) ∧ Below w.heap.size w w' := by
  obtain ⟨hS, hl, hall⟩ := hps
  generalize hT : eW (scs ps) (a.toNat + 1) a bb = tot
  have hTl := xY (scs ps) bb (a.toNat + 1) a
  rw [hT] at hTl
  refine aA (args := [.slice A ps.length c, .int .i64 a, .int .i64 (bb : Int)]) Tryz.func12 rfl Tryz.ntmps12 (by simp) hμ ?_
  repeat' (first | refine KK ?_ | fail)
  refine aX (ι := Int × Nat × Nat) (fun j => lA (scs ps) bb j.1 ∧ j.2.1 + eW (scs ps) (j.1.toNat + 1) j.1 bb = tot ∧ (j.2.2 : Int) + j.1 ≤ a) (fun j => j.1.toNat) (fun _ => μ) (fun j => [(0, .slice A ps.length c), (1, .int .i64 j.1), (2, .int .i64 (bb : Int)), (7, .int .i64 (j.2.1 : Int)), (8, .int .i64 (j.2.2 : Int))]) (fun _ => []) (a, 0, 0) ⟨hch, by dsimp only; omega, by dsimp only; omega⟩ (fun a w hs => J5 hs) ?_
  rintro ⟨a', n, kk⟩ ⟨hch', hsum, hka⟩
  dsimp only at hch' hsum hka ⊢
  have hnn := hch'.uI
  by_cases hab : a' = (bb : Int)
  · subst hab
    have h0 : eW (scs ps) ((bb : Int).toNat + 1) (bb : Int) (bb : Int) = 0 := by rw [eW, if_pos rfl]
    rw [h0, Nat.add_zero] at hsum
    subst hsum
    repeat' (first | refine KK ?_ | refine KG ?_ | fail)
    all_goals try (exfalso; first | fail)
    all_goals exact aB rfl rfl rfl
  · cases hch' with
    | here => exact absurd rfl hab
    | @up _ c9 h0 hc hlt hne h =>
      have hup := GY h0 hc hlt hne h
      rw [hup] at hsum
      have h1 := h.uI
      obtain ⟨k, rfl⟩ : ∃ k : Nat, a' = k := ⟨a'.toNat, by omega⟩
      rw [Int.toNat_natCast] at hc
      have hkl : k < ps.length := by
        have := (List.getElem?_eq_some_iff.1 hc).1
        rw [gQ] at this
        exact this
      obtain ⟨ad, y, rfl, hy, hm2⟩ := hS.get hkl
      obtain ⟨cy, v⟩ := y
      obtain rfl : cy = c9 := by
        have h9 := gR hy
        rw [hc] at h9
        cases h9
        rfl
      have hbv := hall _ (List.mem_of_getElem? hy)
      dsimp only at hbv hm2
      have hsp := fun (w : World) (μc : Mem) (hw : MOk μc w) (hle : MLe μ μc) => pE w μc hw cy v (hbv.mono hle)
      obtain ⟨A2, c2, rfl, hS2, hl2⟩ := hbv
      by_cases hh : 0 < dP cy.names
      · rw [if_pos hh] at hsum
        repeat' (first | refine KO ?_ | ((with_reducible apply F1 24); exact rfl; exact EN; exact fun w μc hw hse => hsp w μc hw hse.le) | (refine KV (b := by first | exact U1 k | exact U4 hm2) (c := ?_)) | refine KI ?_ | refine KG ?_ | fail)
        all_goals try (exfalso; first | fail)
        all_goals exact J2 (cy.up, n + 1, kk + 1) ⟨h, by dsimp only; omega, by dsimp only; omega⟩ (by dsimp only; omega)
      · rw [if_neg hh] at hsum
        repeat' (first | refine KO ?_ | ((with_reducible apply F1 24); exact rfl; exact EN; exact fun w μc hw hse => hsp w μc hw hse.le) | (refine KV (b := by first | exact U1 k | exact U4 hm2) (c := ?_)) | refine KI ?_ | refine KG ?_ | fail)
        all_goals try (exfalso; first | fail)
        all_goals exact J2 (cy.up, n, kk + 1) ⟨h, by dsimp only; omega, by dsimp only; omega⟩ (by dsimp only; omega)
end Go.Proofs.YtocidaibmadekaaGreatDoor
namespace Go.Proofs.YtocidaibmadekaaGreatDoor
open Go.RowKit Go.Vcg Go.MapKept
noncomputable def JM (t : T) : Bool := decide (t.op = 1) && rtB t 1 false && decide ((uQ 1600 t).2 = 0)
attribute [local irreducible] rtB uQ
attribute [local irreducible] fM cM cH bA bY cK anI fU eG G GC GQ GA bX Calls IntKind.wrap Int.decLt Int.decLe
theorem PA (t : T) (u : Value) (w : World) (μ : Mem) (hμ : MOk μ w) (hk : KR μ t.kids u) (hts : t.size ≤ 1600) (hsh : Sh t) (hT : kX μ) (hm : mF μ) :
    Calls Tryz.prog 8 #[.agg (aD t u).toArray] w fun e w' => e = .returned (.bool (JM t)) ∧ Below w.heap.size w w' := by
  have ou := hk.one
  have hri := fun (w : World) (μc : Mem) (hw : MOk μc w) (hle : MLe μ μc) => FE t u w μc hw (hk.mono hle) (by omega) hsh
  have hck := fun (w : World) (μc : Mem) (hw : MOk μc w) (hle : MLe μ μc) => HO 1600 t u w μc hw (hk.mono hle) (by omega) hts hsh (hT.mono hle) (hm.mono hle)
  generalize hR : JM t = R
  unfold JM at hR
  generalize uQ 1600 t = ck at hck hR
  obtain ⟨c1, c2⟩ := ck
  dsimp only at hck hR
  refine aA (args := [.agg (aD t u).toArray]) Tryz.func8 rfl Tryz.ntmps8 (by simp) hμ ?_
  by_cases hop : t.op = 1
  rotate_left
  · repeat' (first | refine KK ?_ | refine NB fun b => ?_ | refine KG ?_ | fail)
    all_goals try (exfalso; first | fail)
    all_goals exact aB rfl rfl (by rw [← hR]; simp [hop])
  cases hrt : rtB t 1 false with
  | false =>
    rw [hrt] at hri hR
    repeat' (first | refine KO ?_ | ((with_reducible apply F1 14); exact rfl; exact EN; (exact fun w μc hw hse => hri w μc hw hse.le)) | refine KI ?_ | refine NB fun b => ?_ | refine KG ?_ | fail)
    all_goals try (exfalso; first | fail)
    all_goals exact aB rfl rfl (by rw [← hR]; simp)
  | true =>
    rw [hrt] at hri hR
    repeat' (first | refine KO ?_ | ((with_reducible apply F1 14); exact rfl; exact EN; (exact fun w μc hw hse => hri w μc hw hse.le)) | ((with_reducible apply F1 21); exact rfl; exact EN; (exact fun w μc hw hse => hck w μc hw hse.le)) | refine KI ?_ | refine NB fun b => ?_ | refine KG ?_ | fail)
    all_goals try (exfalso; first | fail)
    all_goals exact aB rfl rfl (by rw [← hR]; simp [hop])
end Go.Proofs.YtocidaibmadekaaGreatDoor
namespace Go.Proofs.YtocidaibmadekaaGreatDoor
open Go.RowKit Go.Vcg Go.MapKept
def vR : T := T.mk 34 33 0 0 ⟨#[120]⟩ []
def jL : T := T.mk 17 26 0 0 ⟨#[]⟩ [vR]
def jE : T := T.mk 6 24 0 0 ⟨#[]⟩ [jL]
def rJ : T := T.mk 5 21 0 0 ⟨#[]⟩ []
def fO : T := T.mk 4 11 1 0 ⟨#[102]⟩ [rJ, jE]
def DR : T := T.mk 34 4 0 0 ⟨#[120]⟩ []
def rK : T := T.mk 30 8 1 0 ⟨#[]⟩ []
def jM : T := T.mk 3 4 0 0 ⟨#[]⟩ [DR, rK]
def jD : T := T.mk 2 0 1 0 ⟨#[]⟩ [jM]
def gE : T := T.mk 1 0 0 0 ⟨#[]⟩ [jD, fO]
attribute [local irreducible] fM cM cH bA bY cK anI fU eG G GC GQ GA bX Calls IntKind.wrap Int.decLt Int.decLe
theorem rI (w : World) (μ : Mem) (hμ : MOk μ w) :
    Calls Tryz.prog 19 #[] w fun e w' => ∃ v μ', e = .returned v ∧ oM w w' μ μ' ∧ ∃ u, v = .agg (aD gE u).toArray ∧ KR μ' gE.kids u := by
  refine aA (args := []) Tryz.func19 rfl Tryz.ntmps19 (by simp) hμ ?_
  repeat' (first | refine KK ?_ | refine NB fun b => ?_ | fail)
  rename_i b0 bx s6 s8 s10 b2 s14 s16
  refine mZ rfl (nT (vs := aD gE (.slice (some ⟨b, 0, none⟩) 2 2)) 8 rfl rfl rfl rfl rfl (by repeat first | exact aJ | refine aF rfl ?_)) (fun μ' hle' hL => ?_)
  have h19 := hL _ (List.mem_cons_self ..)
  have h16 := hL _ (List.mem_cons_of_mem _ (List.mem_cons_self ..))
  have h14 := hL _ (List.mem_cons_of_mem _ (List.mem_cons_of_mem _ (List.mem_cons_self ..)))
  have h10 := hL _ (List.mem_cons_of_mem _ (List.mem_cons_of_mem _ (List.mem_cons_of_mem _ (List.mem_cons_of_mem _ (List.mem_cons_self ..)))))
  have h8 := hL _ (List.mem_cons_of_mem _ (List.mem_cons_of_mem _ (List.mem_cons_of_mem _ (List.mem_cons_of_mem _ (List.mem_cons_of_mem _ (List.mem_cons_self ..))))))
  have h6 := hL _ (List.mem_cons_of_mem _ (List.mem_cons_of_mem _ (List.mem_cons_of_mem _ (List.mem_cons_of_mem _ (List.mem_cons_of_mem _ (List.mem_cons_of_mem _ (List.mem_cons_self ..)))))))
  have k6 : KR μ' jL.kids (Value.slice (some ⟨s6, 0, none⟩) 1 1) := KR.iA (c := 1) (ps := [(vR, Value.slice none 0 0)]) (oK h6 (fun i v hv => kF hv)) (Nat.le_refl _) (fun p hp => by rw [List.mem_singleton.1 hp]; exact KR.nil _ _ _)
  have k8 : KR μ' jE.kids (Value.slice (some ⟨s8, 0, none⟩) 1 1) := KR.iA (c := 1) (ps := [(jL, Value.slice (some ⟨s6, 0, none⟩) 1 1)]) (oK h8 (fun i v hv => kF hv)) (Nat.le_refl _) (fun p hp => by rw [List.mem_singleton.1 hp]; exact k6)
  have k10 : KR μ' fO.kids (Value.slice (some ⟨s10, 0, none⟩) 2 2) := KR.iA (c := 2) (ps := [(rJ, Value.slice none 0 0), (jE, Value.slice (some ⟨s8, 0, none⟩) 1 1)]) (oK h10 (fun i v hv => kF hv)) (Nat.le_refl _) (fun p hp => by
    rcases List.mem_cons.1 hp with rfl | hp
    · exact KR.nil _ _ _
    · rw [List.mem_singleton.1 hp]; exact k8)
  have k14 : KR μ' jM.kids (Value.slice (some ⟨s14, 0, none⟩) 2 2) := KR.iA (c := 2) (ps := [(DR, Value.slice none 0 0), (rK, Value.slice none 0 0)]) (oK h14 (fun i v hv => kF hv)) (Nat.le_refl _) (fun p hp => by
    rcases List.mem_cons.1 hp with rfl | hp
    · exact KR.nil _ _ _
    · rw [List.mem_singleton.1 hp]; exact KR.nil _ _ _)
  have k16 : KR μ' jD.kids (Value.slice (some ⟨s16, 0, none⟩) 1 1) := KR.iA (c := 1) (ps := [(jM, Value.slice (some ⟨s14, 0, none⟩) 2 2)]) (oK h16 (fun i v hv => kF hv)) (Nat.le_refl _) (fun p hp => by rw [List.mem_singleton.1 hp]; exact k14)
  exact ⟨_, rfl, KR.iA (c := 2) (ps := [(jD, Value.slice (some ⟨s16, 0, none⟩) 1 1), (fO, Value.slice (some ⟨s10, 0, none⟩) 2 2)]) (oK h19 (fun i v hv => kF hv)) (Nat.le_refl _) (fun p hp => by
    rcases List.mem_cons.1 hp with rfl | hp
    · exact k16
    · rw [List.mem_singleton.1 hp]; exact k10)⟩
end Go.Proofs.YtocidaibmadekaaGreatDoor
namespace Go.Proofs.YtocidaibmadekaaGreatDoor
open Go.RowKit Go.Vcg
attribute [local irreducible] G GC GQ GA bX Calls IntKind.wrap Int.decLt Int.decLe
end Go.Proofs.YtocidaibmadekaaGreatDoor
namespace Go.Proofs.YtocidaibmadekaaGreatDoor
open Go.RowKit Go.Vcg
def UN : ByteArray := "fresh9".toUTF8
theorem WA (a e : Int) (s : ES) : dN false a e s = s := by unfold dN; rw [if_neg (by simp)]
def sg (r : Int) : Int := if 0 < r then r + 1 else r
theorem IR {a c : Int} : sg a = sg c ↔ a = c := by unfold sg; split <;> split <;> omega
theorem SC (a : Int) : sg a ≠ 1 := by unfold sg; split <;> omega
def sgD (d : ED) : ED := ⟨d.lex, d.ins.map sg, sg d.par, d.twice⟩
theorem HR (r : Int) (l : List Int) : (l.map sg).contains (sg r) = l.contains r := by
  induction l with
  | nil => rfl
  | cons a l ih =>
    rw [List.map_cons, List.contains_cons, List.contains_cons, ih]
    congr 1
    by_cases h : r = a
    · subst h; simp
    · rw [beq_false_of_ne h, beq_false_of_ne (fun e => h (IR.1 e))]
theorem VU (a c : ED) : gO (sgD a) (sgD c) = gO a c := by
  unfold gO sgD
  dsimp only
  have h1 : sg c.par ≠ 0 ↔ c.par ≠ 0 := by
    exact not_congr ((show sg c.par = 0 ↔ sg c.par = sg 0 from Iff.rfl).trans IR)
  simp only [h1, IR]
  congr 2
  rw [List.any_map]
  congr 1
  funext r
  exact HR r c.ins
def fr1 : ED := ⟨false, [1], 0, false⟩
theorem VV (c : ED) : gO fr1 (sgD c) = false := by
  unfold gO fr1 sgD
  dsimp only
  rw [if_neg (fun h => h.2.1 h.2.2.symm)]
  have : (c.ins.map sg).contains 1 = false := by
    rw [List.contains_eq_mem, decide_eq_false_iff_not, List.mem_map]
    rintro ⟨a, -, h⟩
    exact SC a h
  simp [this]
  intro _ x _ h
  exact absurd h (SC x)
def SR (s s' : ES) : Prop := s.e ≠ 0 ∨ (s.e = 0 ∧ s'.e = 0 ∧ s'.at' = 0 ∧ s'.regs = s.regs + 1 ∧ ∀ x, gZ x s'.names = (if x = UN then [fr1] else []) ++ (gZ x s.names).map sgD)
theorem SR.bad {s s' : ES} (h : SR s s') {c c' : Bool} (hc : s.e = 0 → c' = true → c = true) {e : Int} (he : e ≠ 0) (a : Int) : SR (dN c a e s) (dN c' a e s') := by
  rcases h with h | ⟨h0, h1, h2, h3, h4⟩
  · rw [BX h]; exact .inl h
  cases c with
  | true =>
    left
    unfold dN
    rw [if_pos ⟨rfl, h0⟩]
    exact he
  | false =>
    cases c' with
    | true => cases hc h0 rfl
    | false =>
      rw [WA, WA]
      exact .inr ⟨h0, h1, h2, h3, h4⟩
theorem SR.decl {s s' : ES} (h : SR s s') (a : Int) (x : ByteArray) (d : ED) : SR (nO a x d s) (nO a x (sgD d) s') := by
  have hb : SR (dN ((gZ x s.names).any fun o => gO o d) a 30 s) (dN ((gZ x s'.names).any fun o => gO o (sgD d)) a 30 s') := by
    by_cases he : s.e = 0
    · have h' := h
      rcases h with h | ⟨h0, h1, h2, h3, h4⟩
      · exact absurd he h
      refine h'.bad (fun _ => ?_) (by decide) a
      rw [h4 x, List.any_append, List.any_map]
      have e1 : ((if x = UN then [fr1] else []) : List ED).any (fun o => gO o (sgD d)) = false := by
        split
        · simp [VV]
        · rfl
      have e2 : ((fun o => gO o (sgD d)) ∘ sgD) = fun o => gO o d := by
        funext o
        exact VU o d
      rw [e1, e2, Bool.false_or]
      exact fun h => h
    · exact h.bad (fun h => absurd h he) (by decide) a
  unfold nO
  dsimp only
  rcases hb with hb | ⟨h0, h1, h2, h3, h4⟩
  · exact .inl hb
  refine .inr ⟨h0, h1, h2, h3, fun y => ?_⟩
  dsimp only
  rw [tH, tH]
  by_cases hy : y = x
  · subst hy
    rw [if_pos rfl, if_pos rfl, h4 y, List.map_append, List.append_assoc]
    rfl
  · rw [if_neg hy, if_neg hy]
    exact h4 y
theorem SR.name {s s' : ES} (h : SR s s') (wd : ByteArray → Int) (t : T) (x : ByteArray) {p p' : EP} (hg : p'.gen = p.gen) (hs : p'.strict = p.strict) : SR (iR wd t x p s) (iR wd t x p' s') := by
  unfold iR
  dsimp only
  rw [hg, hs]
  refine SR.bad ?_ (fun _ h => h) (by decide) _
  split
  · exact (h.bad (fun _ h => h) (by decide) _).bad (fun _ h => h) (by decide) _
  · exact h.bad (fun _ h => h) (by decide) _
theorem SR.with {s s' : ES} (h : SR s s') : SR (cG s) (cG s') := by
  rcases h with h | ⟨h0, h1, h2, h3, h4⟩
  · exact .inl h
  · exact .inr ⟨h0, h1, h2, by show s'.regs + 1 = s.regs + 1 + 1; omega, h4⟩
end Go.Proofs.YtocidaibmadekaaGreatDoor
namespace Go.Proofs.YtocidaibmadekaaGreatDoor
open Go.RowKit Go.Vcg Ou
theorem NC {x : ByteArray} (h : bl x ≠ [] ∧ (bl x).all (fun c => decide (EG c.toNat ∨ HY c.toNat)) = true ∧ ∀ c, (bl x)[0]? = some c → EG c.toNat) : eK x = true := by
  refine DM ⟨h.1, fun i c hc => ?_⟩
  cases i with
  | zero => exact .inl (h.2.2 c hc)
  | succ i =>
    rcases of_decide_eq_true (List.all_eq_true.1 h.2.1 c (List.mem_of_getElem? hc)) with h1 | h1
    · exact .inl h1
    · exact .inr ⟨by simp, h1⟩
theorem UO : eK ⟨#[120]⟩ = true := NC ⟨by decide +kernel, by decide +kernel, fun c hc => by
  have e : (bl ⟨#[120]⟩)[0]? = some 120 := by decide +kernel
  rw [e] at hc
  cases hc
  decide +kernel⟩
theorem vH {t : T} {s : Bool} (hkn : knR t.op) (ha : 0 ≤ t.at') (hm : t.m = 0) (h4 : t.op ≠ 4) (hn : 0 ≤ t.n ∧ t.n ≤ eB t.op) (hw : gC t = true) (hl : cW t = false) : Nd t s := by
  refine ⟨(qP _).2 hkn, ?_, fun h => by rw [hl] at h; cases h.1⟩
  unfold gD
  have hb : zH t = false := by
    unfold zH
    rw [decide_eq_false (show ¬t.at' < 0 by omega), decide_eq_false (fun h => h hm)]
    rfl
  rw [if_neg (by rw [hb]; simp), if_neg h4, decide_eq_true hn.1, decide_eq_true hn.2, hw]
  rfl
theorem ME {x : ByteArray} {at' : Int} (ha : 0 ≤ at') (hx : eK x = true) {d : Nat} (hd : d ≤ 200) (s : Bool) : Rt (.mk 34 at' 0 0 x []) d s := by
  refine .mk hd (vH (by unfold knR; simp [T.op]) ha rfl (by simp [T.op]) ⟨Int.le_refl _, by simp [eB, T.op, T.n]⟩ ?_ (by simp [cW, T.op])) ?_ fun i k hk => by simp [T.kids] at hk
  · unfold gC
    simp [T.op, T.s, hx]
  · unfold aE exB
    simp [T.op, T.kids]
theorem dF.and {p q : T → Prop} {t : T} (h : dF p t) (h2 : dF q t) : dF (fun t => p t ∧ q t) t := by
  induction h with
  | mk h _ ih => exact .mk ⟨h, h2.here⟩ fun k hk => ih k hk (h2.kid hk)
theorem wZ {t : T} (h : dF (fun t => t.s.size ≤ 4000 ∧ eH t.op ∧ eH t.n ∧ eH t.m) t) : Sh t := by
  induction h with
  | mk h _ ih => exact .mk h.1 h.2.1 h.2.2.1 h.2.2.2 ih
end Go.Proofs.YtocidaibmadekaaGreatDoor
namespace Go.Proofs.YtocidaibmadekaaGreatDoor
open Go.RowKit Go.Vcg
theorem aAy : Sh gE := wZ (by
  have h0 : (⟨#[]⟩ : ByteArray).size ≤ 4000 := by decide
  have hx : (⟨#[120]⟩ : ByteArray).size ≤ 4000 := by decide
  have hf : (⟨#[102]⟩ : ByteArray).size ≤ 4000 := by decide
  have q : ∀ {s : ByteArray} {a b c : Int}, s.size ≤ 4000 → eH a → eH b → eH c → s.size ≤ 4000 ∧ eH a ∧ eH b ∧ eH c := fun a b c d => ⟨a, b, c, d⟩
  have z0 : eH 0 := by unfold eH; omega
  have z1 : eH 1 := by unfold eH; omega
  refine .mk (q h0 z1 z0 z0) fun k hk => ?_
  rcases List.mem_cons.1 hk with rfl | hk
  · refine .mk (q h0 (by unfold eH; simp [jD, T.op]) (by unfold eH; simp [jD, T.n]) (by unfold eH; simp [jD, T.m])) fun k hk => ?_
    rw [List.mem_singleton.1 hk]
    refine .mk (q h0 (by unfold eH; simp [jM, T.op]) (by unfold eH; simp [jM, T.n]) (by unfold eH; simp [jM, T.m])) fun k hk => ?_
    rcases List.mem_cons.1 hk with rfl | hk
    · exact .mk (q hx (by unfold eH; simp [DR, T.op]) (by unfold eH; simp [DR, T.n]) (by unfold eH; simp [DR, T.m])) fun k hk => by cases hk
    · rw [List.mem_singleton.1 hk]
      exact .mk (q h0 (by unfold eH; simp [rK, T.op]) (by unfold eH; simp [rK, T.n]) (by unfold eH; simp [rK, T.m])) fun k hk => by cases hk
  · rw [List.mem_singleton.1 hk]
    refine .mk (q hf (by unfold eH; simp [fO, T.op]) (by unfold eH; simp [fO, T.n]) (by unfold eH; simp [fO, T.m])) fun k hk => ?_
    rcases List.mem_cons.1 hk with rfl | hk
    · exact .mk (q h0 (by unfold eH; simp [rJ, T.op]) (by unfold eH; simp [rJ, T.n]) (by unfold eH; simp [rJ, T.m])) fun k hk => by cases hk
    · rw [List.mem_singleton.1 hk]
      refine .mk (q h0 (by unfold eH; simp [jE, T.op]) (by unfold eH; simp [jE, T.n]) (by unfold eH; simp [jE, T.m])) fun k hk => ?_
      rw [List.mem_singleton.1 hk]
      refine .mk (q h0 (by unfold eH; simp [jL, T.op]) (by unfold eH; simp [jL, T.n]) (by unfold eH; simp [jL, T.m])) fun k hk => ?_
      rw [List.mem_singleton.1 hk]
      exact .mk (q hx (by unfold eH; simp [vR, T.op]) (by unfold eH; simp [vR, T.n]) (by unfold eH; simp [vR, T.m])) fun k hk => by cases hk)
theorem wO : gE.size ≤ 20 := by simp [gE, jD, jM, DR, rK, fO, rJ, jE, jL, vR, T.size_eq, T.kids]
theorem aCr : eK ⟨#[102]⟩ = true := NC ⟨by decide +kernel, by decide +kernel, fun c hc => by
  have e : (bl ⟨#[102]⟩)[0]? = some 102 := by decide +kernel
  rw [e] at hc
  cases hc
  decide +kernel⟩
theorem wd0 {t : T} (h : t.s = ⟨#[]⟩) (h1 : t.op ≠ 23 ∧ t.op ≠ 34 ∧ t.op ≠ 51 ∧ ¬(42 ≤ t.op ∧ t.op ≤ 46)) : gC t = true := by
  unfold gC
  rw [h]
  split
  · rfl
  · rw [if_neg (by omega)]
    split
    · rfl
    · rw [if_neg (by omega), if_neg (by omega), if_neg (by omega), if_neg (by omega), if_neg (by omega)]
      rfl
theorem DN : bQ (cL fO) 5 = 1 ∧ cL fO 1 = true ∧ cL fO 4 = false ∧ cL fO 128 = false := by decide +kernel
theorem aB2 (s : Bool) : Nd fO s := by
  refine ⟨(qP _).2 (by unfold knR; simp [fO, T.op]), ?_, fun h => by have : cW fO = false := rfl; rw [this] at h; cases h.1⟩
  have hb : zH fO = false := rfl
  obtain ⟨f1, f2, f3, f4⟩ := DN
  unfold gD
  rw [if_neg (by rw [hb]; simp), if_pos (show fO.op = 4 from rfl)]
  unfold rP
  rw [f1, f2, f3, f4]
  have hff : eK fO.s = true := aCr
  have hn : fO.n = 1 := rfl
  rw [hff, hn]
  rw [if_neg (by simp), if_neg (by simp), if_pos rfl]
  decide
theorem aCh : aE fO = true := by
  have h4 : cL fO 128 = false := DN.2.2.2
  unfold aE stB
  simp only [fO, T.op, T.kids]
  simp only [show (4 : Int) ≤ 23 by omega, show ¬((4 : Int) = 1 ∨ (4 : Int) = 6) by omega, show ¬(4 : Int) = 2 by omega, show ¬(4 : Int) = 3 by omega, if_false, if_true]
  unfold bM rO
  rw [show cL (T.mk 4 11 1 0 ⟨#[102]⟩ [rJ, jE]) 128 = false from h4]
  simp only [List.map_cons, List.map_nil]
  rw [jX]
  dsimp only
  rw [if_pos (by simp [ofT, rJ, T.op]), jX]
  dsimp only
  rw [if_pos (by simp [ofT, jE, T.op])]
  exact fC []
theorem MF {op at' n : Int} {s : ByteArray} {d : Nat} {sp : Bool} (hd : d ≤ 200) (hn : Nd (.mk op at' n 0 s []) sp) (hk : aE (.mk op at' n 0 s []) = true) : Rt (.mk op at' n 0 s []) d sp := .mk hd hn hk fun i k h => by simp [T.kids] at h
theorem aBr {d : Nat} (hd : d ≤ 200) (s : Bool) : Rt rK d s := MF hd (vH (by unfold knR; simp [T.op]) (by simp [T.at']) rfl (by simp [T.op]) (by simp [eB, T.op, T.n]) (wd0 rfl (by simp [T.op])) (by simp [cW, T.op])) (by unfold aE exB; simp [T.op, T.kids])
theorem aBq {d : Nat} (hd : d ≤ 200) (s : Bool) : Rt rJ d s := MF hd (vH (by unfold knR; simp [T.op]) (by simp [T.at']) rfl (by simp [T.op]) (by simp [eB, T.op, T.n]) (wd0 rfl (by simp [T.op])) (by simp [cW, T.op])) (by
  unfold aE stB
  simp only [T.op, T.kids]
  simp only [show (5 : Int) ≤ 23 by omega, show ¬((5 : Int) = 1 ∨ (5 : Int) = 6) by omega, show ¬(5 : Int) = 2 by omega, show ¬(5 : Int) = 3 by omega, show ¬(5 : Int) = 4 by omega, if_false, if_true]
  rw [KJ, List.dropWhile_nil, DO]
  exact fC [])
theorem aBp {d : Nat} (hd : d ≤ 199) (s : Bool) : Rt jL d s := .mk (by omega) (vH (by unfold knR; simp [jL, T.op]) (by simp [jL, T.at']) rfl (by simp [jL, T.op]) (by simp [eB, jL, T.op, T.n]) (wd0 rfl (by simp [jL, T.op])) (by simp [jL, cW, T.op])) (by
  unfold aE stB
  simp [jL, T.op, T.kids, dQ, aK, vR]) fun i k h => by
    cases i with
    | zero =>
      have h : some vR = some k := h
      cases h
      exact ME (by omega) UO (by omega) _
    | succ i => simp [jL, T.kids] at h
theorem aBu {d : Nat} (hd : d ≤ 198) (s : Bool) : Rt jE d s := .mk (by omega) (vH (by unfold knR; simp [jE, T.op]) (by simp [jE, T.at']) rfl (by simp [jE, T.op]) (by simp [eB, jE, T.op, T.n]) (wd0 rfl (by simp [jE, T.op])) (by simp [jE, cW, T.op])) (by
  unfold aE stB
  simp [jE, T.op, T.kids, dQ, cB, jL]) fun i k h => by
    cases i with
    | zero =>
      have h : some jL = some k := h
      cases h
      exact aBp (by omega) _
    | succ i => simp [jE, T.kids] at h
theorem aBs {d : Nat} (hd : d ≤ 197) (s : Bool) : Rt fO d s := .mk (by omega) (aB2 s) aCh fun i k h => by
  cases i with
  | zero =>
    have h : some rJ = some k := h
    cases h
    exact aBq (by omega) _
  | succ i =>
    cases i with
    | zero =>
      have h : some jE = some k := h
      cases h
      exact aBu (by omega) _
    | succ i => simp [fO, T.kids] at h
theorem aBt {d : Nat} (hd : d ≤ 199) (s : Bool) : Rt jM d s := by
  refine .mk (by omega) (vH (by unfold knR; simp [jM, T.op]) (by simp [jM, T.at']) rfl (by simp [jM, T.op]) (by simp [eB, jM, T.op, T.n]) (wd0 rfl (by simp [jM, T.op])) (by simp [jM, cW, T.op])) ?_ fun i k h => ?_
  · unfold aE stB
    simp only [jM, T.op, T.kids]
    simp only [show ¬((3 : Int) = 1 ∨ (3 : Int) = 6) by omega, show ¬(3 : Int) = 2 by omega, if_false, if_true, show (3 : Int) ≤ 23 by omega]
    rw [jX]
    dsimp only
    rw [if_pos (show aV DR = true by simp [aV, dS, DR, T.op]), DO]
    dsimp only
    rw [if_pos (show aK rK = true by simp [aK, rK, T.op])]
    exact fC []
  · cases i with
    | zero =>
      have h : some DR = some k := h
      cases h
      exact ME (by omega) UO (by omega) _
    | succ i =>
      cases i with
      | zero =>
        have h : some rK = some k := h
        cases h
        exact aBr (by omega) _
      | succ i => simp [jM, T.kids] at h
theorem aBo {d : Nat} (hd : d ≤ 198) (s : Bool) : Rt jD d s := by
  refine .mk (by omega) (vH (by unfold knR; simp [jD, T.op]) (by simp [jD, T.at']) rfl (by simp [jD, T.op]) (by simp [eB, jD, T.op, T.n]) (wd0 rfl (by simp [jD, T.op])) (by simp [jD, cW, T.op])) ?_ fun i k h => ?_
  · unfold aE stB
    simp [jD, T.op, T.kids, dQ, ofT, jM]
  · cases i with
    | zero =>
      have h : some jM = some k := h
      cases h
      exact aBt (by omega) _
    | succ i => simp [jD, T.kids] at h
theorem aAz : rtB gE 1 false = true := MG (by
  refine .mk (by omega) (vH (by unfold knR; simp [gE, T.op]) (by simp [gE, T.at']) rfl (by simp [gE, T.op]) (by simp [eB, gE, T.op, T.n]) (wd0 rfl (by simp [gE, T.op])) (by simp [gE, cW, T.op])) ?_ fun i k h => ?_
  · unfold aE stB
    have h1 : cB jD = true := by simp [cB, jD, T.op]
    have h2 : cB fO = true := by
      unfold cB
      rw [if_pos (show fO.op = 4 from rfl)]
      exact DN.2.1
    simp only [gE, T.op, T.kids]
    simp only [show (1 : Int) ≤ 23 by omega, if_true, true_or]
    unfold dQ
    simp [h1, h2]
  · cases i with
    | zero =>
      have h : some jD = some k := h
      cases h
      exact aBo (by omega) _
    | succ i =>
      cases i with
      | zero =>
        have h : some fO = some k := h
        cases h
        exact aBs (by omega) _
      | succ i => simp [gE, T.kids] at h)
def exL : List Sc := [⟨-1, 0, 0, 0, [⟨⟨#[120]⟩, 1, true, 0⟩]⟩, ⟨0, 1, 1, 11, []⟩]
def aEy : Us := ⟨4, 0, 1, 0, 0, 1, ⟨#[120]⟩, false⟩
def aCz : Us := ⟨33, 1, 1, 0, 0, 1, ⟨#[120]⟩, true⟩
theorem BN : kR (dA 20 gE) = exL := by kernel_rfl
theorem ZP : (dA 20 gE).uses.map (iW exL) = [aEy, aCz] := by kernel_rfl
theorem VJ : ¬4096 < eN (dA 20 gE).scopes := by decide +kernel
open Go.MapKept
theorem aD4 {μ : Mem} {v : Value} (h : qW 20 gE μ v) : ∃ ad c ad2 c2, v = .tuple #[.slice (some ad) 2 c, .int .i64 0] ∧ cQ μ (ad.add (0 * 5)) [.int .i64 (-1), .int .i64 0, .int .i64 0, .int .i64 0, .slice (some ad2) 1 c2] ∧ cQ μ (ad2.add (0 * 4)) [.string ⟨#[120]⟩, .int .i64 1, .bool true, .int .i64 0] := by
  rcases h with ⟨h, -⟩ | ⟨-, A, c, ps, rfl, ⟨hS, -, hall⟩, hsc⟩
  · exact absurd h VJ
  rw [BN] at hsc
  have hl : ps.length = 2 := by
    have := congrArg List.length hsc
    rw [gQ] at this
    exact this
  obtain ⟨ad, y, rfl, hy, hm⟩ := hS.get (show 0 < ps.length by omega)
  obtain ⟨cy, v⟩ := y
  have h9 := gR hy
  rw [hsc] at h9
  have h9 : some (⟨-1, 0, 0, 0, [⟨⟨#[120]⟩, 1, true, 0⟩]⟩ : Sc) = some cy := h9
  cases h9
  have hbv := hall _ (List.mem_of_getElem? hy)
  dsimp only at hbv hm
  obtain ⟨A2, c2, rfl, hS2, -⟩ := hbv
  obtain ⟨ad2, y2, rfl, hy2, hm2⟩ := hS2.get (show 0 < 1 by omega)
  have hy2 : some (⟨⟨#[120]⟩, 1, true, 0⟩ : Bd) = some y2 := hy2
  cases hy2
  rw [hl]
  exact ⟨ad, c, ad2, c2, rfl, hm, hm2⟩
theorem WR {μ : Mem} {v : Value} (h : lR 20 gE μ v) : ∃ ad c, v = .tuple #[.slice (some ad) 2 c, .int .i64 0] ∧ cQ μ (ad.add (1 * 8)) [.int .i64 33, .int .i64 1, .int .i64 1, .int .i64 0, .int .i64 0, .int .i64 1, .string ⟨#[120]⟩, .bool true] := by
  rcases h with ⟨h, -⟩ | ⟨-, r, rfl, A, c, rfl, hS⟩
  · exact absurd h VJ
  rw [BN, ZP] at hS ⊢
  obtain ⟨ad, y, rfl, hy, hm⟩ := hS.get (show 1 < [aEy, aCz].length by decide)
  have hy : some aCz = some y := hy
  cases hy
  exact ⟨ad, c, rfl, hm⟩
theorem aA0 : gE.op = 1 := rfl
attribute [local irreducible] kR dA rtB qW lR gE
attribute [local irreducible] fM cM cH bA bY cK anI fU eG G GC GQ GA bX Calls IntKind.wrap Int.decLt Int.decLe
theorem GJ (w : World) (μ : Mem) (hμ : MOk μ w) (hT : kX μ) :
    Calls Tryz.prog 6 #[] w fun e w' => e = .returned (.bool true) ∧ Below w.heap.size w w' := by
  refine aA (args := []) Tryz.func6 rfl Tryz.ntmps6 (by simp) hμ ?_
  repeat' (first | ((with_reducible show GC _ _ (Code.seq (Code.region 2 _ _) _) _ _ _ _); (apply bF)) | refine KO ?_ | ((with_reducible apply F2 19); exact rfl; exact EN; (exact fun w hw => rI w _ hw); (rintro vA μA hleA ⟨uA, rfl, hkA⟩); (have hoA := hkA.one); (have hT := hT.mono hleA)) | ((with_reducible apply F2 9); exact rfl; exact EN; (exact fun w hw => EQ 20 gE uA w _ hw hkA (Nat.le_trans wO (by decide)) wO aAy hT aA0 aAz); (rintro vB μB hleB hpB); (obtain ⟨ad, c, ad2, c2, rfl, hm1, hm2⟩ := aD4 hpB); (have hT := hT.mono hleB)) | fail)
  refine gcs ?_
  repeat' (first | ((with_reducible show GC _ _ (Code.seq (Code.region 3 _ _) _) _ _ _ _); (apply bF)) | refine KO ?_ | ((with_reducible apply F2 19); exact rfl; exact EN; (exact fun w hw => rI w _ hw); (rintro vC μC hleC ⟨uC, rfl, hkC⟩); (have hoC := hkC.one); (have hT := hT.mono hleC); (have hm1 := hm1.mono hleC); (have hm2 := hm2.mono hleC)) | ((with_reducible apply F2 10); exact rfl; exact EN; (exact fun w hw => wV 20 gE uC w _ hw hkC (Nat.le_trans wO (by decide)) wO aAy hT aA0 aAz); (rintro vD μD hleD hpD); (obtain ⟨ad3, c3, rfl, hm3⟩ := WR hpD); (have hm1 := hm1.mono hleD); (have hm2 := hm2.mono hleD)) | fail)
  refine gcs ?_
  repeat' (first | refine KO ?_ | (refine KV (b := by first | exact U1 0 | exact U1 1 | exact U4 hm1 | exact U4 hm2 | exact U4 hm3) (c := ?_)) | refine KI ?_ | fail)
  all_goals try (exfalso; first | fail)
  all_goals exact aB rfl rfl rfl
end Go.Proofs.YtocidaibmadekaaGreatDoor
