/- The law ScopeMeans, walked. No statement of the seat is proved here. -/
import Derived.Test.YtocidaibmadekaaGreatDoorQar
import Derived.Lay
import Derived.LaidOnce
import Derived.SevenTiedAt
import Derived.Test.YtocidaibmadekaaGreatDoorTie
import Derived.Test.YtocidaibmadekaaGreatDoorCards
import Derived.Lib.LaidU8
import Derived.Lib.LaidTab
import Derived.Shelf.Vars
set_option maxRecDepth 20000
set_option maxHeartbeats 2000000
namespace Go.Proofs.YtocidaibmadekaaGreatDoor
open Go.RowKit Go.Vcg Go.MapKept
theorem aB5 {t : T} (h : JM t = true) : t.op = 1 ∧ rtB t 1 false = true := by
  unfold JM at h
  rw [Bool.and_eq_true, Bool.and_eq_true] at h
  exact ⟨of_decide_eq_true h.1.1, h.1.2⟩
theorem aD3 {f : Nat} {t : T} {μ : Mem} {v : Value} (h : qW f t μ v) (hn : 4096 < eN (dA f t).scopes) : v = .tuple #[.slice none 0 0, .int .i64 9] := by
  rcases h with h | h
  · exact h.2
  · exact absurd hn h.1
theorem aB0 {f : Nat} {t : T} {μ : Mem} {v : Value} (h : qW f t μ v) (hn : ¬4096 < eN (dA f t).scopes) : ∃ A c ps, v = .tuple #[.slice A ps.length c, .int .i64 0] ∧ ScR μ A ps ∧ scs ps = kR (dA f t) := by
  rcases h with h | h
  · exact absurd h.1 hn
  · exact h.2
theorem WQ {f : Nat} {t : T} {μ : Mem} {v : Value} (h : lR f t μ v) (hn : 4096 < eN (dA f t).scopes) : v = .tuple #[.slice none 0 0, .int .i64 9] := by
  rcases h with h | h
  · exact h.2
  · exact absurd hn h.1
theorem RR {f : Nat} {t : T} {μ : Mem} {v : Value} (h : lR f t μ v) (hn : ¬4096 < eN (dA f t).scopes) : ∃ A c, v = .tuple #[.slice A ((dA f t).uses.map (iW (kR (dA f t)))).length c, .int .i64 0] ∧ Sl HN 8 μ A ((dA f t).uses.map (iW (kR (dA f t)))).length ((dA f t).uses.map (iW (kR (dA f t)))) := by
  rcases h with h | ⟨-, r, rfl, A, c, rfl, hS⟩
  · exact absurd h.1 hn
  · exact ⟨A, c, rfl, hS⟩
attribute [local irreducible] kR dA rtB qW lR JM eW iZ findF
attribute [local irreducible] fM cM cH bA bY cK anI fU eG G GC GQ GA bX Calls IntKind.wrap Int.decLt Int.decLe
theorem JL (t : T) (v : Value) (w : World) (μ : Mem) (hμ : MOk μ w) (hm : mF μ) (hT : kX μ) (ht : TV μ t v) (hr : Ri t) :
    Calls Tryz.prog 3 #[v] w fun e w' => e = .returned (.bool true) ∧ Below w.heap.size w w' := by
  obtain ⟨u, rfl, hk⟩ := ht
  have ho := hk.one
  refine aA (args := [.agg (aD t u).toArray]) Tryz.func3 rfl Tryz.ntmps3 (by simp) hμ ?_
  repeat' (first | ((with_reducible show GC _ _ (Code.seq (Code.seq (Code.region 4 _ _) _) _) _ _ _ _); (apply bF)) | refine KO ?_ | ((with_reducible apply F1 6); exact rfl; exact EN; (exact fun w μc hw hse => GJ w μc hw (hT.mono hse.le))) | ((with_reducible apply F2 7); exact rfl; exact EN; (exact fun w hw => QN t _ w _ hw ⟨_, rfl, hk⟩); rintro v2 μ2 hle2 ⟨t2, ⟨u2, rfl, hk2⟩, hs2, hsh2⟩; (have ho2 := hk2.one)) | refine KI ?_ | refine NB fun b => ?_ | fail)
  have hsh := hsh2 hr
  have hT := hT.mono hle2
  have hm := hm.mono hle2
  have hmy := fun (w : World) (μc : Mem) (hw : MOk μc w) (hle : MLe μ2 μc) => PA t2 u2 w μc hw (hk2.mono hle) (by omega) hsh (hT.mono hle) (hm.mono hle)
  refine gcs ?_
  cases hmay : JM t2 with
  | false =>
    rw [hmay] at hmy
    repeat' (first | refine KO ?_ | ((with_reducible apply F1 8); exact rfl; exact EN; (exact fun w μc hw hse => hmy w μc hw hse.le)) | refine KI ?_ | fail)
    all_goals exact aB rfl rfl rfl
  | true =>
  rw [hmay] at hmy
  obtain ⟨hop, hrt⟩ := aB5 hmay
  have hof := fun (w : World) (μc : Mem) (hw : MOk μc w) (hle : MLe μ2 μc) => EQ 2000 t2 u2 w μc hw (hk2.mono hle) (by omega) (by omega) hsh (hT.mono hle) hop hrt
  have hus := fun (w : World) (μc : Mem) (hw : MOk μc w) (hle : MLe μ2 μc) => wV 2000 t2 u2 w μc hw (hk2.mono hle) (by omega) (by omega) hsh (hT.mono hle) hop hrt
  have hq := qD t2 1 false (dZ hrt) hsh
  have hub := wU 2000 t2 (by omega) (by omega) hq
  have hok := IV 2000 t2
  generalize hRn : dA 2000 t2 = rn at hub hok
  by_cases hn : 4096 < eN rn.scopes
  · rw [← hRn] at hn
    repeat' (first | refine KO ?_ | ((with_reducible apply F1 8); exact rfl; exact EN; (exact fun w μc hw hse => hmy w μc hw hse.le)) | ((with_reducible apply F2 9); exact rfl; exact EN; (exact fun w hw => hof w _ hw (MLe.refl _)); (rintro v3 μ3 hle3 hp3); (obtain rfl := aD3 hp3 hn)) | ((with_reducible apply F2 10); exact rfl; exact EN; (exact fun w hw => hus w _ hw hle3); (rintro v4 μ4 hle4 hp4); (obtain rfl := WQ hp4 hn)) | refine KI ?_ | fail)
    all_goals try (exfalso; first | fail)
    all_goals exact aB rfl rfl rfl
  · rw [← hRn] at hn
    repeat' (first | ((with_reducible show GC _ _ (Code.seq (Code.region 8 _ _) _) _ _ _ _); (apply bF)) | refine KO ?_ | ((with_reducible apply F1 8); exact rfl; exact EN; (exact fun w μc hw hse => hmy w μc hw hse.le)) | ((with_reducible apply F2 9); exact rfl; exact EN; (exact fun w hw => hof w _ hw (MLe.refl _)); (rintro v3 μ3 hle3 hp3); (obtain ⟨A, c, ps, rfl, hps, hsc⟩ := aB0 hp3 hn)) | ((with_reducible apply F2 10); exact rfl; exact EN; (exact fun w hw => hus w _ hw hle3); (rintro v4 μ4 hle4 hp4); (obtain ⟨Au, cu, rfl, hU⟩ := RR hp4 hn)) | refine KI ?_ | fail)
    have hps := hps.mono hle4
    rw [hRn] at hsc hU ⊢
    generalize hlE : kR rn = lE at hsc hU
    have hme : ∀ y ∈ rn.uses.map (iW lE), WD lE y := fun y hy => by
      obtain ⟨x, hx, rfl⟩ := List.mem_map.1 hy
      rw [← hlE]
      exact OY (hok.uses x hx)
    have hul : (rn.uses.map (iW lE)).length ≤ 9000 := by rw [List.length_map]; exact hub
    generalize rn.uses.map (iW lE) = us at hU hme hul
    have hpl : ps.length = lE.length := by rw [← hsc, gQ]
    have hfnd := fun (at' : Int) (x : ByteArray) (w : World) (μc : Mem) (hw : MOk μc w) (hle : MLe μ4 μc) => xP w μc hw ps A c (hps.mono hle) at' x
    have hhop := fun (a : Int) (bb : Nat) (hch : lA lE bb a) (hal : a < ps.length) (w : World) (μc : Mem) (hw : MOk μc w) (hle : MLe μ4 μc) => JP w μc hw A c ps (hps.mono hle) a bb (by rw [hsc]; exact hch) hal
    have hloc := fun (w : World) (μc : Mem) (hw : MOk μc w) (hle : MLe μ4 μc) => CV w μc hw ps A c (hps.mono hle) 0
    rw [hsc] at hfnd hhop hloc
    obtain ⟨hS, hp9, hall⟩ := hps
    refine gcs ?_
    repeat' (first | refine KK ?_ | fail)
    all_goals try (exfalso; first | fail)
    refine aX (ι := Nat) (fun i => i ≤ us.length) (fun i => us.length - i) (fun _ => μ4) (fun i => [(3, .slice A ps.length c), (5, .slice Au us.length cu), (7, .int .i64 (i : Int))]) (fun _ => []) 0 (Nat.zero_le _) (fun a w hs => J5 hs) ?_
    rintro i hi
    by_cases hlt : i < us.length
    · obtain ⟨ad, y, rfl, hy, hmy⟩ := hU.get hlt
      obtain ⟨h1, h2, h3, h4⟩ := hme y (List.mem_of_getElem? hy)
      obtain ⟨uat, usc, uwh, uho, usl, uki, una, uck⟩ := y
      dsimp only [HN] at h1 h2 h3 h4 hmy
      have hf := hfnd usc una
      cases hfi : iC lE usc una with
      | none =>
        obtain rfl := h3 hfi
        have hfi : findF lE una (usc.toNat + 1) usc = none := hfi
        rw [hfi] at hf
        repeat' (first | refine KO ?_ | (refine KV (b := by first | exact U1 i | exact U4 hmy) (c := ?_)) | refine KI ?_ | refine KG ?_ | fail)
        all_goals try (exfalso; first | fail)
        refine aC 19 ([]) (by kernel_rfl) rfl (by exact List.Sublist.refl _) ?_
        all_goals refine DD 0 ?_
        all_goals refine DD 1 ?_
        all_goals refine DD 2 ?_
        all_goals (first | (refine DV (k := 3) (b := by exact U1 i) (c := ?_)) | fail)
        all_goals (first | refine DD 4 ?_ | fail)
        all_goals (first | (refine DV (k := 5) (b := by exact U4 hmy) (c := ?_)) | fail)
        all_goals refine DD 6 ?_
        all_goals refine DD 7 ?_
        all_goals (first | (refine DV (k := 8) (b := by exact U1 i) (c := ?_)) | fail)
        all_goals (first | refine DD 9 ?_ | fail)
        all_goals (first | (refine DV (k := 10) (b := by exact U4 hmy) (c := ?_)) | fail)
        all_goals ((refine D3 11 ?_; refine D5 ?_; (with_reducible apply F1 11); exact rfl; exact EN; (exact fun w μc hw hse => hf w μc hw hse.le); refine D9 ?_))
        all_goals refine DD 12 ?_
        all_goals refine DD 13 ?_
        all_goals refine DD 14 ?_
        all_goals refine DD 15 ?_
        all_goals refine DD 16 ?_
        all_goals refine DD 17 ?_
        all_goals refine DD 18 ?_
        all_goals refine D8 ?_
        all_goals repeat' (first | refine KO ?_ | (refine KV (b := by first | exact U1 i | exact U4 hmy) (c := ?_)) | refine KI ?_ | fail)
        all_goals try (exfalso; first | fail)
        all_goals exact J2 (i + 1) (by omega) (by omega)
      | some ab =>
        obtain ⟨a, bb⟩ := ab
        obtain ⟨hwh, hal, ca, xb, hca, hxb, hxn, hxk, hxs, hxh, hck, hho, hch⟩ := h4 a bb hfi
        have hfi : findF lE una (usc.toNat + 1) usc = some (a, bb) := hfi
        rw [hfi] at hf
        obtain ⟨bna, bki, bhe, bsl⟩ := xb
        dsimp only at hxn hxk hxs hxh hho
        subst hxn hxk hxs
        obtain ⟨ad1, ya, e1, hya, hma⟩ := hS.get (show a < ps.length by omega)
        cases e1
        obtain ⟨cy, va⟩ := ya
        obtain rfl : cy = ca := by
          have h9 := gR hya
          rw [hsc, hca] at h9
          cases h9
          rfl
        have hbv := hall _ (List.mem_of_getElem? hya)
        dsimp only at hbv hma
        obtain ⟨A2, c2, rfl, hS2, hl2, -⟩ := hbv
        have hbl := (List.getElem?_eq_some_iff.1 hxb).1
        obtain ⟨ad2, yb, rfl, hyb, hmb⟩ := hS2.get hbl
        rw [hxb] at hyb
        cases hyb
        have hhp := hhop usc a hch (by omega)
        have hch2 := hch.uI
        rw [sA hch (usc.toNat + 1) (lE.length + 1) (by omega) (by omega)] at hhp
        generalize eW lE (lE.length + 1) usc a = hn9 at hhp hho
        have hcc : uck = false ∨ (uck = true ∧ bki = 1) ∨ (uck = true ∧ bki = 2) := by
          cases uck with
          | false => exact .inl rfl
          | true => exact .inr ((hck rfl).imp (fun h => ⟨rfl, h⟩) fun h => ⟨rfl, h⟩)
        cases bhe with
        | true =>
          obtain rfl : uwh = 1 := of_decide_eq_true hxh.symm
          obtain rfl := hho rfl
          rcases hcc with rfl | ⟨rfl, rfl⟩ | ⟨rfl, rfl⟩
          · repeat' (first | refine KO ?_ | (refine KV (b := by first | exact U1 i | exact U4 hmy) (c := ?_)) | refine KI ?_ | refine KG ?_ | fail)
            all_goals try (exfalso; first | fail)
            refine aC 19 ([]) (by kernel_rfl) rfl (by exact List.Sublist.refl _) ?_
            all_goals refine DD 0 ?_
            all_goals refine DD 1 ?_
            all_goals refine DD 2 ?_
            all_goals (first | (refine DV (k := 3) (b := by exact U1 i) (c := ?_)) | fail)
            all_goals (first | refine DD 4 ?_ | fail)
            all_goals (first | (refine DV (k := 5) (b := by exact U4 hmy) (c := ?_)) | fail)
            all_goals refine DD 6 ?_
            all_goals refine DD 7 ?_
            all_goals (first | (refine DV (k := 8) (b := by exact U1 i) (c := ?_)) | fail)
            all_goals (first | refine DD 9 ?_ | fail)
            all_goals (first | (refine DV (k := 10) (b := by exact U4 hmy) (c := ?_)) | fail)
            all_goals ((refine D3 11 ?_; refine D5 ?_; (with_reducible apply F1 11); exact rfl; exact EN; (exact fun w μc hw hse => hf w μc hw hse.le); refine D9 ?_))
            all_goals refine DD 12 ?_
            all_goals refine DD 13 ?_
            all_goals refine DD 14 ?_
            all_goals refine DD 15 ?_
            all_goals refine DD 16 ?_
            all_goals refine DD 17 ?_
            all_goals refine DD 18 ?_
            all_goals refine D8 ?_
            all_goals repeat' (first | refine KO ?_ | (refine KV (b := by first | exact U1 i | exact U1 a | exact U1 bb | exact U4 hmy | exact U4 hma | exact U4 hmb) (c := ?_)) | refine KI ?_ | refine NB fun b => ?_ | fail)
            all_goals try (exfalso; first | fail)
            refine aC 56 _ (by kernel_rfl) rfl (List.Sublist.cons_cons _ (List.nil_sublist _)) ?_
            all_goals (first | refine D1 0 ?_ | fail)
            all_goals (first | refine DD 1 ?_ | fail)
            all_goals refine DD 2 ?_
            all_goals refine DD 3 ?_
            all_goals (first | (refine DV (k := 4) (b := by exact U1 i) (c := ?_)) | fail)
            all_goals (first | refine DD 5 ?_ | fail)
            all_goals (first | (refine DV (k := 6) (b := by exact U4 hmy) (c := ?_)) | fail)
            all_goals (first | refine D1 7 ?_ | fail)
            all_goals refine DD 8 ?_
            all_goals (try (refine D7 9 ?_; (repeat' (refine KO ?_))))
            all_goals (first | refine D1 9 ?_ | fail)
            all_goals (first | refine DD 10 ?_ | fail)
            all_goals refine DD 11 ?_
            all_goals refine DD 12 ?_
            all_goals (first | (refine DV (k := 13) (b := by exact U1 i) (c := ?_)) | fail)
            all_goals (first | refine DD 14 ?_ | fail)
            all_goals (first | (refine DV (k := 15) (b := by exact U4 hmy) (c := ?_)) | fail)
            all_goals (first | refine D1 16 ?_ | fail)
            all_goals refine DD 17 ?_
            all_goals refine DD 18 ?_
            all_goals (try (refine D7 19 ?_; (repeat' (refine KO ?_))))
            all_goals (first | refine D1 19 ?_ | fail)
            all_goals (first | refine DD 20 ?_ | fail)
            all_goals refine DD 21 ?_
            all_goals refine DD 22 ?_
            all_goals (first | (refine DV (k := 23) (b := by exact U1 i) (c := ?_)) | fail)
            all_goals (first | refine DD 24 ?_ | fail)
            all_goals (first | (refine DV (k := 25) (b := by exact U4 hmy) (c := ?_)) | fail)
            all_goals (first | refine D1 26 ?_ | fail)
            all_goals refine DD 27 ?_
            all_goals refine DD 28 ?_
            all_goals (try (refine D7 29 ?_; (repeat' (refine KO ?_))))
            all_goals (first | refine D1 29 ?_ | fail)
            all_goals (first | refine DD 30 ?_ | fail)
            all_goals refine DD 31 ?_
            all_goals refine DD 32 ?_
            all_goals (first | (refine DV (k := 33) (b := by exact U1 i) (c := ?_)) | fail)
            all_goals (first | refine DD 34 ?_ | fail)
            all_goals (first | (refine DV (k := 35) (b := by exact U4 hmy) (c := ?_)) | fail)
            all_goals (first | refine D1 36 ?_ | fail)
            all_goals (first | refine D1 37 ?_ | fail)
            all_goals refine DD 38 ?_
            all_goals refine DD 39 ?_
            all_goals (try (refine D7 40 ?_; (repeat' (refine KO ?_))))
            all_goals refine DD 40 ?_
            all_goals refine DD 41 ?_
            all_goals (first | (refine DV (k := 42) (b := by exact U1 i) (c := ?_)) | fail)
            all_goals (first | refine DD 43 ?_ | fail)
            all_goals (first | (refine DV (k := 44) (b := by exact U4 hmy) (c := ?_)) | fail)
            all_goals refine DD 45 ?_
            all_goals (try (refine D7 46 ?_; (repeat' (first | fail))))
            all_goals (first | refine D1 46 ?_ | fail)
            all_goals (first | refine D1 47 ?_ | fail)
            all_goals (first | refine D1 48 ?_ | fail)
            all_goals refine DD 49 ?_
            all_goals refine DD 50 ?_
            all_goals (try (refine D7 51 ?_; (repeat' (first | fail))))
            all_goals (first | refine D1 51 ?_ | fail)
            all_goals (first | refine D1 52 ?_ | fail)
            all_goals (first | refine D1 53 ?_ | fail)
            all_goals refine DD 54 ?_
            all_goals refine DD 55 ?_
            all_goals refine D8 ?_
            all_goals repeat' (first | refine KK ?_ | fail)
            all_goals try (exfalso; first | fail)
            refine aC 14 _ (by kernel_rfl) rfl (List.Sublist.cons _ (List.nil_sublist _)) ?_
            all_goals refine DD 0 ?_
            all_goals refine DD 1 ?_
            all_goals (first | (refine DV (k := 2) (b := by exact U1 i) (c := ?_)) | fail)
            all_goals (first | refine DD 3 ?_ | fail)
            all_goals (first | (refine DV (k := 4) (b := by exact U4 hmy) (c := ?_)) | fail)
            all_goals refine DD 5 ?_
            all_goals refine DD 6 ?_
            all_goals refine DD 7 ?_
            all_goals (first | (refine DV (k := 8) (b := by exact U1 i) (c := ?_)) | fail)
            all_goals (first | refine DD 9 ?_ | fail)
            all_goals (first | (refine DV (k := 10) (b := by exact U4 hmy) (c := ?_)) | fail)
            all_goals refine DD 11 ?_
            all_goals ((refine D3 12 ?_; refine D5 ?_; (with_reducible apply F1 12); exact rfl; exact EN; (exact fun w μc hw hse => hhp w μc hw hse.le); refine D9 ?_))
            all_goals (first | refine D1 13 ?_ | fail)
            all_goals refine D8 ?_
            all_goals repeat' (first | refine KK ?_ | fail)
            all_goals try (exfalso; first | fail)
            all_goals exact J2 (i + 1) (by omega) (by omega)
          · repeat' (first | refine KO ?_ | (refine KV (b := by first | exact U1 i | exact U4 hmy) (c := ?_)) | refine KI ?_ | refine KG ?_ | fail)
            all_goals try (exfalso; first | fail)
            refine aC 19 ([]) (by kernel_rfl) rfl (by exact List.Sublist.refl _) ?_
            all_goals refine DD 0 ?_
            all_goals refine DD 1 ?_
            all_goals refine DD 2 ?_
            all_goals (first | (refine DV (k := 3) (b := by exact U1 i) (c := ?_)) | fail)
            all_goals (first | refine DD 4 ?_ | fail)
            all_goals (first | (refine DV (k := 5) (b := by exact U4 hmy) (c := ?_)) | fail)
            all_goals refine DD 6 ?_
            all_goals refine DD 7 ?_
            all_goals (first | (refine DV (k := 8) (b := by exact U1 i) (c := ?_)) | fail)
            all_goals (first | refine DD 9 ?_ | fail)
            all_goals (first | (refine DV (k := 10) (b := by exact U4 hmy) (c := ?_)) | fail)
            all_goals ((refine D3 11 ?_; refine D5 ?_; (with_reducible apply F1 11); exact rfl; exact EN; (exact fun w μc hw hse => hf w μc hw hse.le); refine D9 ?_))
            all_goals refine DD 12 ?_
            all_goals refine DD 13 ?_
            all_goals refine DD 14 ?_
            all_goals refine DD 15 ?_
            all_goals refine DD 16 ?_
            all_goals refine DD 17 ?_
            all_goals refine DD 18 ?_
            all_goals refine D8 ?_
            all_goals repeat' (first | refine KO ?_ | (refine KV (b := by first | exact U1 i | exact U1 a | exact U1 bb | exact U4 hmy | exact U4 hma | exact U4 hmb) (c := ?_)) | refine KI ?_ | refine NB fun b => ?_ | fail)
            all_goals try (exfalso; first | fail)
            refine aC 56 _ (by kernel_rfl) rfl (List.Sublist.cons_cons _ (List.nil_sublist _)) ?_
            all_goals (first | refine D1 0 ?_ | fail)
            all_goals (first | refine DD 1 ?_ | fail)
            all_goals refine DD 2 ?_
            all_goals refine DD 3 ?_
            all_goals (first | (refine DV (k := 4) (b := by exact U1 i) (c := ?_)) | fail)
            all_goals (first | refine DD 5 ?_ | fail)
            all_goals (first | (refine DV (k := 6) (b := by exact U4 hmy) (c := ?_)) | fail)
            all_goals (first | refine D1 7 ?_ | fail)
            all_goals refine DD 8 ?_
            all_goals (try (refine D7 9 ?_; (repeat' (refine KO ?_))))
            all_goals (first | refine D1 9 ?_ | fail)
            all_goals (first | refine DD 10 ?_ | fail)
            all_goals refine DD 11 ?_
            all_goals refine DD 12 ?_
            all_goals (first | (refine DV (k := 13) (b := by exact U1 i) (c := ?_)) | fail)
            all_goals (first | refine DD 14 ?_ | fail)
            all_goals (first | (refine DV (k := 15) (b := by exact U4 hmy) (c := ?_)) | fail)
            all_goals (first | refine D1 16 ?_ | fail)
            all_goals refine DD 17 ?_
            all_goals refine DD 18 ?_
            all_goals (try (refine D7 19 ?_; (repeat' (refine KO ?_))))
            all_goals (first | refine D1 19 ?_ | fail)
            all_goals (first | refine DD 20 ?_ | fail)
            all_goals refine DD 21 ?_
            all_goals refine DD 22 ?_
            all_goals (first | (refine DV (k := 23) (b := by exact U1 i) (c := ?_)) | fail)
            all_goals (first | refine DD 24 ?_ | fail)
            all_goals (first | (refine DV (k := 25) (b := by exact U4 hmy) (c := ?_)) | fail)
            all_goals (first | refine D1 26 ?_ | fail)
            all_goals refine DD 27 ?_
            all_goals refine DD 28 ?_
            all_goals (try (refine D7 29 ?_; (repeat' (refine KO ?_))))
            all_goals (first | refine D1 29 ?_ | fail)
            all_goals (first | refine DD 30 ?_ | fail)
            all_goals refine DD 31 ?_
            all_goals refine DD 32 ?_
            all_goals (first | (refine DV (k := 33) (b := by exact U1 i) (c := ?_)) | fail)
            all_goals (first | refine DD 34 ?_ | fail)
            all_goals (first | (refine DV (k := 35) (b := by exact U4 hmy) (c := ?_)) | fail)
            all_goals (first | refine D1 36 ?_ | fail)
            all_goals (first | refine D1 37 ?_ | fail)
            all_goals refine DD 38 ?_
            all_goals refine DD 39 ?_
            all_goals (try (refine D7 40 ?_; (repeat' (refine KO ?_))))
            all_goals refine DD 40 ?_
            all_goals refine DD 41 ?_
            all_goals (first | (refine DV (k := 42) (b := by exact U1 i) (c := ?_)) | fail)
            all_goals (first | refine DD 43 ?_ | fail)
            all_goals (first | (refine DV (k := 44) (b := by exact U4 hmy) (c := ?_)) | fail)
            all_goals refine DD 45 ?_
            all_goals (try (refine D7 46 ?_; (repeat' (first | fail))))
            all_goals (first | refine D1 46 ?_ | fail)
            all_goals (first | refine DD 47 ?_ | fail)
            all_goals (first | refine D1 48 ?_ | fail)
            all_goals refine DD 49 ?_
            all_goals refine DD 50 ?_
            all_goals (try (refine D7 51 ?_; (repeat' (refine KO ?_))))
            all_goals (first | refine D1 51 ?_ | fail)
            all_goals (first | refine D1 52 ?_ | fail)
            all_goals (first | refine D1 53 ?_ | fail)
            all_goals refine DD 54 ?_
            all_goals refine DD 55 ?_
            all_goals refine D8 ?_
            all_goals repeat' (first | refine KK ?_ | fail)
            all_goals try (exfalso; first | fail)
            refine aC 14 _ (by kernel_rfl) rfl (List.Sublist.cons _ (List.nil_sublist _)) ?_
            all_goals refine DD 0 ?_
            all_goals refine DD 1 ?_
            all_goals (first | (refine DV (k := 2) (b := by exact U1 i) (c := ?_)) | fail)
            all_goals (first | refine DD 3 ?_ | fail)
            all_goals (first | (refine DV (k := 4) (b := by exact U4 hmy) (c := ?_)) | fail)
            all_goals refine DD 5 ?_
            all_goals refine DD 6 ?_
            all_goals refine DD 7 ?_
            all_goals (first | (refine DV (k := 8) (b := by exact U1 i) (c := ?_)) | fail)
            all_goals (first | refine DD 9 ?_ | fail)
            all_goals (first | (refine DV (k := 10) (b := by exact U4 hmy) (c := ?_)) | fail)
            all_goals refine DD 11 ?_
            all_goals ((refine D3 12 ?_; refine D5 ?_; (with_reducible apply F1 12); exact rfl; exact EN; (exact fun w μc hw hse => hhp w μc hw hse.le); refine D9 ?_))
            all_goals (first | refine D1 13 ?_ | fail)
            all_goals refine D8 ?_
            all_goals repeat' (first | refine KK ?_ | fail)
            all_goals try (exfalso; first | fail)
            all_goals exact J2 (i + 1) (by omega) (by omega)
          · repeat' (first | refine KO ?_ | (refine KV (b := by first | exact U1 i | exact U4 hmy) (c := ?_)) | refine KI ?_ | refine KG ?_ | fail)
            all_goals try (exfalso; first | fail)
            refine aC 19 ([]) (by kernel_rfl) rfl (by exact List.Sublist.refl _) ?_
            all_goals refine DD 0 ?_
            all_goals refine DD 1 ?_
            all_goals refine DD 2 ?_
            all_goals (first | (refine DV (k := 3) (b := by exact U1 i) (c := ?_)) | fail)
            all_goals (first | refine DD 4 ?_ | fail)
            all_goals (first | (refine DV (k := 5) (b := by exact U4 hmy) (c := ?_)) | fail)
            all_goals refine DD 6 ?_
            all_goals refine DD 7 ?_
            all_goals (first | (refine DV (k := 8) (b := by exact U1 i) (c := ?_)) | fail)
            all_goals (first | refine DD 9 ?_ | fail)
            all_goals (first | (refine DV (k := 10) (b := by exact U4 hmy) (c := ?_)) | fail)
            all_goals ((refine D3 11 ?_; refine D5 ?_; (with_reducible apply F1 11); exact rfl; exact EN; (exact fun w μc hw hse => hf w μc hw hse.le); refine D9 ?_))
            all_goals refine DD 12 ?_
            all_goals refine DD 13 ?_
            all_goals refine DD 14 ?_
            all_goals refine DD 15 ?_
            all_goals refine DD 16 ?_
            all_goals refine DD 17 ?_
            all_goals refine DD 18 ?_
            all_goals refine D8 ?_
            all_goals repeat' (first | refine KO ?_ | (refine KV (b := by first | exact U1 i | exact U1 a | exact U1 bb | exact U4 hmy | exact U4 hma | exact U4 hmb) (c := ?_)) | refine KI ?_ | refine NB fun b => ?_ | fail)
            all_goals try (exfalso; first | fail)
            refine aC 56 _ (by kernel_rfl) rfl (List.Sublist.cons_cons _ (List.nil_sublist _)) ?_
            all_goals (first | refine D1 0 ?_ | fail)
            all_goals (first | refine DD 1 ?_ | fail)
            all_goals refine DD 2 ?_
            all_goals refine DD 3 ?_
            all_goals (first | (refine DV (k := 4) (b := by exact U1 i) (c := ?_)) | fail)
            all_goals (first | refine DD 5 ?_ | fail)
            all_goals (first | (refine DV (k := 6) (b := by exact U4 hmy) (c := ?_)) | fail)
            all_goals (first | refine D1 7 ?_ | fail)
            all_goals refine DD 8 ?_
            all_goals (try (refine D7 9 ?_; (repeat' (refine KO ?_))))
            all_goals (first | refine D1 9 ?_ | fail)
            all_goals (first | refine DD 10 ?_ | fail)
            all_goals refine DD 11 ?_
            all_goals refine DD 12 ?_
            all_goals (first | (refine DV (k := 13) (b := by exact U1 i) (c := ?_)) | fail)
            all_goals (first | refine DD 14 ?_ | fail)
            all_goals (first | (refine DV (k := 15) (b := by exact U4 hmy) (c := ?_)) | fail)
            all_goals (first | refine D1 16 ?_ | fail)
            all_goals refine DD 17 ?_
            all_goals refine DD 18 ?_
            all_goals (try (refine D7 19 ?_; (repeat' (refine KO ?_))))
            all_goals (first | refine D1 19 ?_ | fail)
            all_goals (first | refine DD 20 ?_ | fail)
            all_goals refine DD 21 ?_
            all_goals refine DD 22 ?_
            all_goals (first | (refine DV (k := 23) (b := by exact U1 i) (c := ?_)) | fail)
            all_goals (first | refine DD 24 ?_ | fail)
            all_goals (first | (refine DV (k := 25) (b := by exact U4 hmy) (c := ?_)) | fail)
            all_goals (first | refine D1 26 ?_ | fail)
            all_goals refine DD 27 ?_
            all_goals refine DD 28 ?_
            all_goals (try (refine D7 29 ?_; (repeat' (refine KO ?_))))
            all_goals (first | refine D1 29 ?_ | fail)
            all_goals (first | refine DD 30 ?_ | fail)
            all_goals refine DD 31 ?_
            all_goals refine DD 32 ?_
            all_goals (first | (refine DV (k := 33) (b := by exact U1 i) (c := ?_)) | fail)
            all_goals (first | refine DD 34 ?_ | fail)
            all_goals (first | (refine DV (k := 35) (b := by exact U4 hmy) (c := ?_)) | fail)
            all_goals (first | refine D1 36 ?_ | fail)
            all_goals (first | refine D1 37 ?_ | fail)
            all_goals refine DD 38 ?_
            all_goals refine DD 39 ?_
            all_goals (try (refine D7 40 ?_; (repeat' (refine KO ?_))))
            all_goals refine DD 40 ?_
            all_goals refine DD 41 ?_
            all_goals (first | (refine DV (k := 42) (b := by exact U1 i) (c := ?_)) | fail)
            all_goals (first | refine DD 43 ?_ | fail)
            all_goals (first | (refine DV (k := 44) (b := by exact U4 hmy) (c := ?_)) | fail)
            all_goals refine DD 45 ?_
            all_goals (try (refine D7 46 ?_; (repeat' (first | fail))))
            all_goals (first | refine D1 46 ?_ | fail)
            all_goals (first | refine DD 47 ?_ | fail)
            all_goals (first | refine D1 48 ?_ | fail)
            all_goals refine DD 49 ?_
            all_goals refine DD 50 ?_
            all_goals (try (refine D7 51 ?_; (repeat' (refine KO ?_))))
            all_goals (first | refine D1 51 ?_ | fail)
            all_goals (first | refine DD 52 ?_ | fail)
            all_goals (first | refine D1 53 ?_ | fail)
            all_goals refine DD 54 ?_
            all_goals refine DD 55 ?_
            all_goals refine D8 ?_
            all_goals repeat' (first | refine KK ?_ | fail)
            all_goals try (exfalso; first | fail)
            refine aC 14 _ (by kernel_rfl) rfl (List.Sublist.cons _ (List.nil_sublist _)) ?_
            all_goals refine DD 0 ?_
            all_goals refine DD 1 ?_
            all_goals (first | (refine DV (k := 2) (b := by exact U1 i) (c := ?_)) | fail)
            all_goals (first | refine DD 3 ?_ | fail)
            all_goals (first | (refine DV (k := 4) (b := by exact U4 hmy) (c := ?_)) | fail)
            all_goals refine DD 5 ?_
            all_goals refine DD 6 ?_
            all_goals refine DD 7 ?_
            all_goals (first | (refine DV (k := 8) (b := by exact U1 i) (c := ?_)) | fail)
            all_goals (first | refine DD 9 ?_ | fail)
            all_goals (first | (refine DV (k := 10) (b := by exact U4 hmy) (c := ?_)) | fail)
            all_goals refine DD 11 ?_
            all_goals ((refine D3 12 ?_; refine D5 ?_; (with_reducible apply F1 12); exact rfl; exact EN; (exact fun w μc hw hse => hhp w μc hw hse.le); refine D9 ?_))
            all_goals (first | refine D1 13 ?_ | fail)
            all_goals refine D8 ?_
            all_goals repeat' (first | refine KK ?_ | fail)
            all_goals try (exfalso; first | fail)
            all_goals exact J2 (i + 1) (by omega) (by omega)
        | false =>
          have hw1 : uwh ≠ 1 := of_decide_eq_false hxh.symm
          rcases hcc with rfl | ⟨rfl, rfl⟩ | ⟨rfl, rfl⟩
          · repeat' (first | refine KO ?_ | (refine KV (b := by first | exact U1 i | exact U4 hmy) (c := ?_)) | refine KI ?_ | refine KG ?_ | fail)
            all_goals try (exfalso; first | fail)
            refine aC 19 ([]) (by kernel_rfl) rfl (by exact List.Sublist.refl _) ?_
            all_goals refine DD 0 ?_
            all_goals refine DD 1 ?_
            all_goals refine DD 2 ?_
            all_goals (first | (refine DV (k := 3) (b := by exact U1 i) (c := ?_)) | fail)
            all_goals (first | refine DD 4 ?_ | fail)
            all_goals (first | (refine DV (k := 5) (b := by exact U4 hmy) (c := ?_)) | fail)
            all_goals refine DD 6 ?_
            all_goals refine DD 7 ?_
            all_goals (first | (refine DV (k := 8) (b := by exact U1 i) (c := ?_)) | fail)
            all_goals (first | refine DD 9 ?_ | fail)
            all_goals (first | (refine DV (k := 10) (b := by exact U4 hmy) (c := ?_)) | fail)
            all_goals ((refine D3 11 ?_; refine D5 ?_; (with_reducible apply F1 11); exact rfl; exact EN; (exact fun w μc hw hse => hf w μc hw hse.le); refine D9 ?_))
            all_goals refine DD 12 ?_
            all_goals refine DD 13 ?_
            all_goals refine DD 14 ?_
            all_goals refine DD 15 ?_
            all_goals refine DD 16 ?_
            all_goals refine DD 17 ?_
            all_goals refine DD 18 ?_
            all_goals refine D8 ?_
            all_goals repeat' (first | refine KO ?_ | (refine KV (b := by first | exact U1 i | exact U1 a | exact U1 bb | exact U4 hmy | exact U4 hma | exact U4 hmb) (c := ?_)) | refine KI ?_ | refine NB fun b => ?_ | ((refine KB ?_ ?_ <;> intro hp)) | fail)
            all_goals try (exfalso; exact absurd (decide_eq_true hwh).symm ‹true ≠ decide (uwh ≠ 2)›)
            refine aC 56 _ (by kernel_rfl) rfl (List.Sublist.cons_cons _ (List.nil_sublist _)) ?_
            all_goals (first | refine D1 0 ?_ | fail)
            all_goals (first | refine DD 1 ?_ | fail)
            all_goals refine DD 2 ?_
            all_goals refine DD 3 ?_
            all_goals (first | (refine DV (k := 4) (b := by exact U1 i) (c := ?_)) | fail)
            all_goals (first | refine DD 5 ?_ | fail)
            all_goals (first | (refine DV (k := 6) (b := by exact U4 hmy) (c := ?_)) | fail)
            all_goals (first | refine D1 7 ?_ | fail)
            all_goals refine DD 8 ?_
            all_goals (try (refine D7 9 ?_; (repeat' (refine KO ?_))))
            all_goals (first | refine D1 9 ?_ | fail)
            all_goals (first | refine DD 10 ?_ | fail)
            all_goals refine DD 11 ?_
            all_goals refine DD 12 ?_
            all_goals (first | (refine DV (k := 13) (b := by exact U1 i) (c := ?_)) | fail)
            all_goals (first | refine DD 14 ?_ | fail)
            all_goals (first | (refine DV (k := 15) (b := by exact U4 hmy) (c := ?_)) | fail)
            all_goals (first | refine D1 16 ?_ | fail)
            all_goals refine DD 17 ?_
            all_goals refine DD 18 ?_
            all_goals (try (refine D7 19 ?_; (repeat' (refine KO ?_))))
            all_goals (first | refine D1 19 ?_ | fail)
            all_goals (first | refine DD 20 ?_ | fail)
            all_goals refine DD 21 ?_
            all_goals refine DD 22 ?_
            all_goals (first | (refine DV (k := 23) (b := by exact U1 i) (c := ?_)) | fail)
            all_goals (first | refine DD 24 ?_ | fail)
            all_goals (first | (refine DV (k := 25) (b := by exact U4 hmy) (c := ?_)) | fail)
            all_goals (first | refine D1 26 ?_ | fail)
            all_goals refine DD 27 ?_
            all_goals refine DD 28 ?_
            all_goals (try (refine D7 29 ?_; (repeat' (refine KO ?_))))
            all_goals (first | refine D1 29 ?_ | fail)
            all_goals (first | refine DD 30 ?_ | fail)
            all_goals refine DD 31 ?_
            all_goals refine DD 32 ?_
            all_goals (first | (refine DV (k := 33) (b := by exact U1 i) (c := ?_)) | fail)
            all_goals (first | refine DD 34 ?_ | fail)
            all_goals (first | (refine DV (k := 35) (b := by exact U4 hmy) (c := ?_)) | fail)
            all_goals (first | refine D1 36 ?_ | fail)
            all_goals (first | refine D1 37 ?_ | fail)
            all_goals refine DD 38 ?_
            all_goals refine DD 39 ?_
            all_goals (try (refine D7 40 ?_; (repeat' (((refine KB ?_ ?_ <;> intro hp))))))
            all_goals refine DD 40 ?_
            all_goals refine DD 41 ?_
            all_goals (first | refine D1 42 ?_ | (refine DV (k := 42) (b := by exact U1 i) (c := ?_)) | fail)
            all_goals (first | refine D1 43 ?_ | refine DD 43 ?_ | fail)
            all_goals (first | refine D1 44 ?_ | (refine DV (k := 44) (b := by exact U4 hmy) (c := ?_)) | fail)
            all_goals refine DD 45 ?_
            all_goals (try (refine D7 46 ?_; (repeat' (first | fail))))
            all_goals (first | refine D1 46 ?_ | fail)
            all_goals (first | refine D1 47 ?_ | fail)
            all_goals (first | refine D1 48 ?_ | fail)
            all_goals refine DD 49 ?_
            all_goals refine DD 50 ?_
            all_goals (try (refine D7 51 ?_; (repeat' (first | fail))))
            all_goals (first | refine D1 51 ?_ | fail)
            all_goals (first | refine D1 52 ?_ | fail)
            all_goals (first | refine D1 53 ?_ | fail)
            all_goals refine DD 54 ?_
            all_goals refine DD 55 ?_
            all_goals refine D8 ?_
            all_goals repeat' (first | refine KK ?_ | fail)
            all_goals try (exfalso; contradiction)
            all_goals exact J2 (i + 1) (by omega) (by omega)
          · repeat' (first | refine KO ?_ | (refine KV (b := by first | exact U1 i | exact U4 hmy) (c := ?_)) | refine KI ?_ | refine KG ?_ | fail)
            all_goals try (exfalso; first | fail)
            refine aC 19 ([]) (by kernel_rfl) rfl (by exact List.Sublist.refl _) ?_
            all_goals refine DD 0 ?_
            all_goals refine DD 1 ?_
            all_goals refine DD 2 ?_
            all_goals (first | (refine DV (k := 3) (b := by exact U1 i) (c := ?_)) | fail)
            all_goals (first | refine DD 4 ?_ | fail)
            all_goals (first | (refine DV (k := 5) (b := by exact U4 hmy) (c := ?_)) | fail)
            all_goals refine DD 6 ?_
            all_goals refine DD 7 ?_
            all_goals (first | (refine DV (k := 8) (b := by exact U1 i) (c := ?_)) | fail)
            all_goals (first | refine DD 9 ?_ | fail)
            all_goals (first | (refine DV (k := 10) (b := by exact U4 hmy) (c := ?_)) | fail)
            all_goals ((refine D3 11 ?_; refine D5 ?_; (with_reducible apply F1 11); exact rfl; exact EN; (exact fun w μc hw hse => hf w μc hw hse.le); refine D9 ?_))
            all_goals refine DD 12 ?_
            all_goals refine DD 13 ?_
            all_goals refine DD 14 ?_
            all_goals refine DD 15 ?_
            all_goals refine DD 16 ?_
            all_goals refine DD 17 ?_
            all_goals refine DD 18 ?_
            all_goals refine D8 ?_
            all_goals repeat' (first | refine KO ?_ | (refine KV (b := by first | exact U1 i | exact U1 a | exact U1 bb | exact U4 hmy | exact U4 hma | exact U4 hmb) (c := ?_)) | refine KI ?_ | refine NB fun b => ?_ | ((refine KB ?_ ?_ <;> intro hp)) | fail)
            all_goals try (exfalso; exact absurd (decide_eq_true hwh).symm ‹true ≠ decide (uwh ≠ 2)›)
            refine aC 56 _ (by kernel_rfl) rfl (List.Sublist.cons_cons _ (List.nil_sublist _)) ?_
            all_goals (first | refine D1 0 ?_ | fail)
            all_goals (first | refine DD 1 ?_ | fail)
            all_goals refine DD 2 ?_
            all_goals refine DD 3 ?_
            all_goals (first | (refine DV (k := 4) (b := by exact U1 i) (c := ?_)) | fail)
            all_goals (first | refine DD 5 ?_ | fail)
            all_goals (first | (refine DV (k := 6) (b := by exact U4 hmy) (c := ?_)) | fail)
            all_goals (first | refine D1 7 ?_ | fail)
            all_goals refine DD 8 ?_
            all_goals (try (refine D7 9 ?_; (repeat' (refine KO ?_))))
            all_goals (first | refine D1 9 ?_ | fail)
            all_goals (first | refine DD 10 ?_ | fail)
            all_goals refine DD 11 ?_
            all_goals refine DD 12 ?_
            all_goals (first | (refine DV (k := 13) (b := by exact U1 i) (c := ?_)) | fail)
            all_goals (first | refine DD 14 ?_ | fail)
            all_goals (first | (refine DV (k := 15) (b := by exact U4 hmy) (c := ?_)) | fail)
            all_goals (first | refine D1 16 ?_ | fail)
            all_goals refine DD 17 ?_
            all_goals refine DD 18 ?_
            all_goals (try (refine D7 19 ?_; (repeat' (refine KO ?_))))
            all_goals (first | refine D1 19 ?_ | fail)
            all_goals (first | refine DD 20 ?_ | fail)
            all_goals refine DD 21 ?_
            all_goals refine DD 22 ?_
            all_goals (first | (refine DV (k := 23) (b := by exact U1 i) (c := ?_)) | fail)
            all_goals (first | refine DD 24 ?_ | fail)
            all_goals (first | (refine DV (k := 25) (b := by exact U4 hmy) (c := ?_)) | fail)
            all_goals (first | refine D1 26 ?_ | fail)
            all_goals refine DD 27 ?_
            all_goals refine DD 28 ?_
            all_goals (try (refine D7 29 ?_; (repeat' (refine KO ?_))))
            all_goals (first | refine D1 29 ?_ | fail)
            all_goals (first | refine DD 30 ?_ | fail)
            all_goals refine DD 31 ?_
            all_goals refine DD 32 ?_
            all_goals (first | (refine DV (k := 33) (b := by exact U1 i) (c := ?_)) | fail)
            all_goals (first | refine DD 34 ?_ | fail)
            all_goals (first | (refine DV (k := 35) (b := by exact U4 hmy) (c := ?_)) | fail)
            all_goals (first | refine D1 36 ?_ | fail)
            all_goals (first | refine D1 37 ?_ | fail)
            all_goals refine DD 38 ?_
            all_goals refine DD 39 ?_
            all_goals (try (refine D7 40 ?_; (repeat' (((refine KB ?_ ?_ <;> intro hp))))))
            all_goals refine DD 40 ?_
            all_goals refine DD 41 ?_
            all_goals (first | refine D1 42 ?_ | (refine DV (k := 42) (b := by exact U1 i) (c := ?_)) | fail)
            all_goals (first | refine D1 43 ?_ | refine DD 43 ?_ | fail)
            all_goals (first | refine D1 44 ?_ | (refine DV (k := 44) (b := by exact U4 hmy) (c := ?_)) | fail)
            all_goals refine DD 45 ?_
            all_goals (try (refine D7 46 ?_; (repeat' (first | fail))))
            all_goals (first | refine D1 46 ?_ | fail)
            all_goals (first | refine D1 47 ?_ | refine DD 47 ?_ | fail)
            all_goals (first | refine D1 48 ?_ | fail)
            all_goals refine DD 49 ?_
            all_goals refine DD 50 ?_
            all_goals (try (refine D7 51 ?_; (repeat' (refine KO ?_))))
            all_goals (first | refine D1 51 ?_ | fail)
            all_goals (first | refine D1 52 ?_ | fail)
            all_goals (first | refine D1 53 ?_ | fail)
            all_goals refine DD 54 ?_
            all_goals refine DD 55 ?_
            all_goals refine D8 ?_
            all_goals repeat' (first | refine KK ?_ | fail)
            all_goals try (exfalso; contradiction)
            all_goals exact J2 (i + 1) (by omega) (by omega)
          · repeat' (first | refine KO ?_ | (refine KV (b := by first | exact U1 i | exact U4 hmy) (c := ?_)) | refine KI ?_ | refine KG ?_ | fail)
            all_goals try (exfalso; first | fail)
            refine aC 19 ([]) (by kernel_rfl) rfl (by exact List.Sublist.refl _) ?_
            all_goals refine DD 0 ?_
            all_goals refine DD 1 ?_
            all_goals refine DD 2 ?_
            all_goals (first | (refine DV (k := 3) (b := by exact U1 i) (c := ?_)) | fail)
            all_goals (first | refine DD 4 ?_ | fail)
            all_goals (first | (refine DV (k := 5) (b := by exact U4 hmy) (c := ?_)) | fail)
            all_goals refine DD 6 ?_
            all_goals refine DD 7 ?_
            all_goals (first | (refine DV (k := 8) (b := by exact U1 i) (c := ?_)) | fail)
            all_goals (first | refine DD 9 ?_ | fail)
            all_goals (first | (refine DV (k := 10) (b := by exact U4 hmy) (c := ?_)) | fail)
            all_goals ((refine D3 11 ?_; refine D5 ?_; (with_reducible apply F1 11); exact rfl; exact EN; (exact fun w μc hw hse => hf w μc hw hse.le); refine D9 ?_))
            all_goals refine DD 12 ?_
            all_goals refine DD 13 ?_
            all_goals refine DD 14 ?_
            all_goals refine DD 15 ?_
            all_goals refine DD 16 ?_
            all_goals refine DD 17 ?_
            all_goals refine DD 18 ?_
            all_goals refine D8 ?_
            all_goals repeat' (first | refine KO ?_ | (refine KV (b := by first | exact U1 i | exact U1 a | exact U1 bb | exact U4 hmy | exact U4 hma | exact U4 hmb) (c := ?_)) | refine KI ?_ | refine NB fun b => ?_ | ((refine KB ?_ ?_ <;> intro hp)) | fail)
            all_goals try (exfalso; exact absurd (decide_eq_true hwh).symm ‹true ≠ decide (uwh ≠ 2)›)
            refine aC 56 _ (by kernel_rfl) rfl (List.Sublist.cons_cons _ (List.nil_sublist _)) ?_
            all_goals (first | refine D1 0 ?_ | fail)
            all_goals (first | refine DD 1 ?_ | fail)
            all_goals refine DD 2 ?_
            all_goals refine DD 3 ?_
            all_goals (first | (refine DV (k := 4) (b := by exact U1 i) (c := ?_)) | fail)
            all_goals (first | refine DD 5 ?_ | fail)
            all_goals (first | (refine DV (k := 6) (b := by exact U4 hmy) (c := ?_)) | fail)
            all_goals (first | refine D1 7 ?_ | fail)
            all_goals refine DD 8 ?_
            all_goals (try (refine D7 9 ?_; (repeat' (refine KO ?_))))
            all_goals (first | refine D1 9 ?_ | fail)
            all_goals (first | refine DD 10 ?_ | fail)
            all_goals refine DD 11 ?_
            all_goals refine DD 12 ?_
            all_goals (first | (refine DV (k := 13) (b := by exact U1 i) (c := ?_)) | fail)
            all_goals (first | refine DD 14 ?_ | fail)
            all_goals (first | (refine DV (k := 15) (b := by exact U4 hmy) (c := ?_)) | fail)
            all_goals (first | refine D1 16 ?_ | fail)
            all_goals refine DD 17 ?_
            all_goals refine DD 18 ?_
            all_goals (try (refine D7 19 ?_; (repeat' (refine KO ?_))))
            all_goals (first | refine D1 19 ?_ | fail)
            all_goals (first | refine DD 20 ?_ | fail)
            all_goals refine DD 21 ?_
            all_goals refine DD 22 ?_
            all_goals (first | (refine DV (k := 23) (b := by exact U1 i) (c := ?_)) | fail)
            all_goals (first | refine DD 24 ?_ | fail)
            all_goals (first | (refine DV (k := 25) (b := by exact U4 hmy) (c := ?_)) | fail)
            all_goals (first | refine D1 26 ?_ | fail)
            all_goals refine DD 27 ?_
            all_goals refine DD 28 ?_
            all_goals (try (refine D7 29 ?_; (repeat' (refine KO ?_))))
            all_goals (first | refine D1 29 ?_ | fail)
            all_goals (first | refine DD 30 ?_ | fail)
            all_goals refine DD 31 ?_
            all_goals refine DD 32 ?_
            all_goals (first | (refine DV (k := 33) (b := by exact U1 i) (c := ?_)) | fail)
            all_goals (first | refine DD 34 ?_ | fail)
            all_goals (first | (refine DV (k := 35) (b := by exact U4 hmy) (c := ?_)) | fail)
            all_goals (first | refine D1 36 ?_ | fail)
            all_goals (first | refine D1 37 ?_ | fail)
            all_goals refine DD 38 ?_
            all_goals refine DD 39 ?_
            all_goals (try (refine D7 40 ?_; (repeat' (((refine KB ?_ ?_ <;> intro hp))))))
            all_goals refine DD 40 ?_
            all_goals refine DD 41 ?_
            all_goals (first | refine D1 42 ?_ | (refine DV (k := 42) (b := by exact U1 i) (c := ?_)) | fail)
            all_goals (first | refine D1 43 ?_ | refine DD 43 ?_ | fail)
            all_goals (first | refine D1 44 ?_ | (refine DV (k := 44) (b := by exact U4 hmy) (c := ?_)) | fail)
            all_goals refine DD 45 ?_
            all_goals (try (refine D7 46 ?_; (repeat' (first | fail))))
            all_goals (first | refine D1 46 ?_ | fail)
            all_goals (first | refine D1 47 ?_ | refine DD 47 ?_ | fail)
            all_goals (first | refine D1 48 ?_ | fail)
            all_goals refine DD 49 ?_
            all_goals refine DD 50 ?_
            all_goals (try (refine D7 51 ?_; (repeat' (refine KO ?_))))
            all_goals (first | refine D1 51 ?_ | fail)
            all_goals (first | refine D1 52 ?_ | refine DD 52 ?_ | fail)
            all_goals (first | refine D1 53 ?_ | fail)
            all_goals refine DD 54 ?_
            all_goals refine DD 55 ?_
            all_goals refine D8 ?_
            all_goals repeat' (first | refine KK ?_ | fail)
            all_goals try (exfalso; contradiction)
            all_goals exact J2 (i + 1) (by omega) (by omega)
    · obtain rfl : i = us.length := by omega
      obtain ⟨nn, hnn⟩ : ∃ nn, (if (0 : Int) = 0 then 1 else 0) + iZ 0 lE = nn := ⟨_, rfl⟩
      have hn1 : 1 ≤ nn := by rw [← hnn, if_pos rfl]; omega
      rw [hnn] at hloc
      repeat' (first | refine KO ?_ | ((with_reducible apply F1 13); exact rfl; exact EN; (exact fun w μc hw hse => hloc w μc hw hse.le)) | fail)
      all_goals try (exfalso; first | fail)
      all_goals refine aB rfl rfl (congrArg _ ?_)
      all_goals exact decide_eq_true (by omega)
end Go.Proofs.YtocidaibmadekaaGreatDoor
namespace Go.Proofs.YtocidaibmadekaaGreatDoor
open Go.ChangeShapes Go.WideShapes Go.ChangeAt Go.RowKit Go.Deep Go.Vcg
theorem WS {W : World} {l : List (String × DataW Unit)} (h : laidMet Tryz.prog l W) (hm : ("strings.asciiSpace", Rows.laid_strings_asciiSpace) ∈ l) : kX (rG W) := by
  obtain ⟨g, t, cs, fuel, p, h1, h2, h3, h4⟩ := Lib.laidMet.reads h hm
  have hg : Tryz.prog.globalNamed "strings.asciiSpace" = some 0 := by kernel_rfl
  obtain rfl := Option.some.inj (hg.symm.trans h1)
  have ht : (Tryz.prog.globals[0]?).map (·.type) = some 174 := by kernel_rfl
  obtain rfl := Option.some.inj (ht.symm.trans h2)
  have hd : (Rows.laid_strings_asciiSpace : DataW Unit) = Lib.tabData .u8 Lib.asciiSpaceTab := by rfl
  rw [hd] at h4
  have hc := Lib.cells_of_tab Tryz.underlying174 Tryz.underlying5 (by kernel_rfl) (by kernel_rfl) h4
  intro w hw
  unfold Lib.TabIs World.var?
  unfold World.var? at h3
  rw [hg] at h3 ⊢
  simp only [Option.bind_some] at h3 ⊢
  cases hb : W.heap[0]? with
  | none => rw [hb] at h3; cases h3
  | some o =>
    rw [hw _ o hb]
    rw [hb] at h3
    cases o <;> simp at h3
    rename_i cs' _ _
    subst h3
    simp only [Option.some.injEq]
    rw [← hc]
theorem XX {W : World} (h : W.ShapedOpen Tryz.prog) : mF (rG W) := by
  obtain ⟨m, hm⟩ := cell_of_shapedOpen_int (g := 2) (t := 3) (zero := #[.int .i64 0]) (k := .i64) h (of_decide_eq_true (by kernel_rfl)) (by kernel_rfl) rfl (by kernel_rfl) (by kernel_rfl) (by kernel_rfl)
  exact ⟨m, iF.ML hm⟩
end Go.Proofs.YtocidaibmadekaaGreatDoor
